/- The reference's Codec.Check; the law SchemaChecks, walked. -/
import Derived.Test.YtpfckpaokoifhaaGreatDoorRt
import Derived.Test.YtpfckpaokoifhaaGreatDoorMd
import Derived.Test.YtpfckpaokoifhaaGreatDoorFz
import Derived.Test.YtpfckpaokoifhaaGreatDoorVk
import Derived.Test.YtpfckpaokoifhaaGreatDoorLv
import Derived.Test.YtpfckpaokoifhaaGreatDoorUv
namespace Go.Proofs.YtpfckpaokoifhaaGreatDoor.Ck
open Go Go.RowKit Go.Proofs.YtpfckpaokoifhaaGreatDoor.Pa Go.Proofs.YtpfckpaokoifhaaGreatDoor.Pb Go.Proofs.YtpfckpaokoifhaaGreatDoor.Pf Go.Proofs.YtpfckpaokoifhaaGreatDoor.Pq Go.Proofs.YtpfckpaokoifhaaGreatDoor.Sc Go.Proofs.YtpfckpaokoifhaaGreatDoor.Rs Go.Proofs.YtpfckpaokoifhaaGreatDoor.Sl Go.Proofs.YtpfckpaokoifhaaGreatDoor.Hs Go.Proofs.YtpfckpaokoifhaaGreatDoor.Va Go.Proofs.YtpfckpaokoifhaaGreatDoor.Ca Go.Proofs.YtpfckpaokoifhaaGreatDoor.Cb Go.Proofs.YtpfckpaokoifhaaGreatDoor.Cm Go.Proofs.YtpfckpaokoifhaaGreatDoor.Md Go.Proofs.YtpfckpaokoifhaaGreatDoor.Rq Go.Proofs.YtpfckpaokoifhaaGreatDoor.Rr Go.Proofs.YtpfckpaokoifhaaGreatDoor.Rt Go.Proofs.YtpfckpaokoifhaaGreatDoor.Hx Go.Proofs.YtpfckpaokoifhaaGreatDoor.Vo Go.Proofs.YtpfckpaokoifhaaGreatDoor.Hv Go.Proofs.YtpfckpaokoifhaaGreatDoor.Fz
set_option linter.unusedVariables false
set_option linter.unusedSimpArgs false
/-- A schema that can be is read less than k + 1 levels deep. -/
theorem rds_ok {w : World} : ∀ (k n : Nat) (v : Value) (l : List Slot), okL k l → RdS w n v l → RdS w (k + 1) v l
  | 0, _, _, _, h, _ => h.elim
  | k + 1, 0, _, _, _, h => h.elim
  | k + 1, n + 1, v, l, hk, h => by
    obtain ⟨A, c, e, h1, h2, h3⟩ := h
    refine ⟨A, c, e, h1, h2, fun h0 => ?_⟩
    obtain ⟨ad, ha, hc⟩ := h3 h0
    refine ⟨ad, ha, fun i t ht => ?_⟩
    obtain ⟨g0, sv, g1, g2⟩ := hc i t ht
    obtain ⟨-, -, -, i4, i5⟩ := hk.2 t (List.mem_of_getElem? ht)
    refine ⟨g0, sv, g1, ?_⟩
    by_cases hn : nest t = true
    · exact rds_ok k n sv t.sub (i4 hn) g2
    · have he := i5 (by simpa using hn)
      rw [he] at g2 ⊢
      obtain ⟨A', c', e', h1', h2', _⟩ := g2.slice |>.elim fun A h => h.elim fun c h => (⟨A, c, h.1, h.2.1, h.2.2, trivial⟩ : ∃ A c, sv = .slice A ([] : List Slot).length c ∧ ([] : List Slot).length ≤ c ∧ c ≤ maxLen ∧ True)
      exact ⟨A', c', e', h1', h2', fun h => absurd h (by simp)⟩
theorem few_ok : ∀ (k : Nat) (l : List Slot), okL k l → Few (k + 1) l
  | 0, _, h => h.elim
  | k + 1, l, hk => by
    refine ⟨Nat.le_trans hk.1 (by omega), fun t ht => ?_⟩
    obtain ⟨-, -, -, i4, i5⟩ := hk.2 t ht
    by_cases hn : nest t = true
    · exact few_ok k t.sub (i4 hn)
    · rw [i5 (by simpa using hn)]
      exact ⟨by simp, fun u hu => by cases hu⟩
set_option maxRecDepth 100000 in
theorem rCheck {w : World} {S : Pl} {n m g : Nat} {l : List Slot} {nv dv pv : Value} {x : Vu.Va} (h : Rc w S n g l) (hok : okL 6 l) (hn : n ≤ 900000) (hx : Vu.RdV w m nv dv pv x) (hf : FewV (m + 1) x) :
    Calls Tryz.prog 11 #[ptr g, .agg #[nv, dv, pv]] w fun e w' => e = .returned (fl (Vu.chk Vh.pF Lib.validD n l x 1)) ∧ Below w.heap.size w w' := by
  obtain ⟨-, sv, h2, h3⟩ := h
  have hrd := Tw.Tw.rd n sv l h3
  have hcall := fun w3 (hb : Below w.heap.size w w3) => checkAll n 6 m sv nv dv pv l x 1 w w3 hrd hok hx hf hb (by omega) (by omega)
  obtain ⟨C, c, rfl, -⟩ := hrd.slice
  obtain ⟨hnum, rfl, hdv, hpv⟩ := hx
  obtain ⟨Ad, cd, rfl, -⟩ := hdv
  obtain ⟨Ap, cp, rfl, -⟩ := hpv.slice
  obtain ⟨⟨q1, q2, q3⟩, hq⟩ : ∃ F : Vu.Flt, F = Vu.chk Vh.pF Lib.validD n l x 1 := ⟨_, rfl⟩
  rw [← hq] at hcall ⊢
  unfold fl at hcall ⊢
  have hbx := by2_new w x.num Ad x.data.length cd Ap x.parts.length cp
  obtain ⟨w2, hw2⟩ : ∃ y, y = (w.alloc (.cells #[.int .u64 (x.num : Int), .slice Ad x.data.length cd, .slice Ap x.parts.length cp] 27)).alloc (.cells #[.int .i64 0, .int .i64 0, .int .i64 0] 41) := ⟨_, rfl⟩
  rw [← hw2] at hbx
  have hgc := below_hp h2 hbx.1
  have s1 : ∀ (u : Held (Vh.Like w2)) (i : Nat), u.w.cell? ⟨g, i, none⟩ = (#[.slice C l.length c] : Array Value)[i]? := fun u i => by obtain ⟨m, hm⟩ := u.h; rw [hm]; exact hp_cell ((hp_drewN m _).trans hgc) i
  have s2 : ∀ (u : Held (Vh.Like w2)) (i : Nat), u.w.cell? ⟨w.heap.size, i, none⟩ = (#[.int .u64 (x.num : Int), .slice Ad x.data.length cd, .slice Ap x.parts.length cp] : Array Value)[i]? := fun u i => by obtain ⟨m, hm⟩ := u.h; rw [hm]; exact hp_cell ((hp_drewN m _).trans hbx.2.2.1) i
  have HC := Lib.hid hcall; have HBX := Lib.hid hbx
  clear hcall hbx hgc h2 h3 hrd hpv hq
  unfold ptr
  go_enter Tryz.func11, Tryz.ntmps11
  go_upto_region 1 with fail
  rw [← hw2]
  clear hw2
  refine wp_region_calm_tail (S := Vh.Like w2) 5 (by kernel_rfl) (by kernel_rfl) (Vh.Like.refl _) ?_
  intro hN
  simp only [List.take_succ_cons, List.take_zero, List.drop_succ_cons, List.drop_zero]
  repeat (go_big_quiet_step (fail))
  refine wpQuiet_nil ?_
  intro u
  obtain ⟨m1, hm1⟩ := u.h
  rw [hm1]
  have hby : Below w2.heap.size w2 (w2.drewN m1) := Uw.below_drewN _ _
  generalize w2.drewN m1 = w5 at *
  have B5 := HBX.out.below hby
  have HB5 := Lib.hid B5
  clear hN hm1 u s1 s2 hby B5
  go_wp2_with (go_at_call 9999)
  go_at_call 25
  refine (HC.out _ HB5.out.1).mono ?_
  rintro _ w6 ⟨rfl, b6⟩
  have B6 := HB5.out.below b6
  have hzc := fun i => hp_cell B6.2.2.2 i
  have hzf := fun i => hp_frozen B6.2.2.2 i
  have HB6 := Lib.hid B6
  clear b6 B6
  go_wp2_with fail
  exact ret_row Tryz.results11 Tryz.underlying41 rfl (by kernel_rfl) rfl (hp_set3 HB6.out.2.2.2 (q1, q2, q3)) rfl ⟨rfl, below_set3 HB6.out.1 (by omega) (q1, q2, q3)⟩
/-- The error that Check says is like the fault. -/
theorem faulty (f : Vu.Flt) (base : Nat) (v : Value) (w : World) (h : Vj.ErrOf f base v w) (hE : Et w) :
    Calls Tryz.prog 9 #[v, .agg #[.int .i64 f.1, .int .i64 f.2.1, .int .i64 f.2.2]] w fun e w' => e = .returned (.bool true) ∧ Below w.heap.size w w' := by
  rcases h with ⟨h0, rfl⟩ | ⟨h0, b, -, rfl, hb⟩
  · rw [h0]; exact faulty_no f.1 f.2.1 w
  · exact faulty_hit f.1 f.2.1 f.2.2 b w hb h0 hE
theorem errOf_below {f : Vu.Flt} {base : Nat} {v : Value} {w w' : World} (h : Vj.ErrOf f base v w) (hb : Below w.heap.size w w') : Vj.ErrOf f base v w' := by
  rcases h with h | ⟨h0, b, h1, h2, h3⟩
  · exact .inl h
  · exact .inr ⟨h0, b, h1, h2, below_hp h3 hb⟩
theorem vb {w : World} (o : Obj) : Below w.heap.size w (w.alloc o) := (Below.refl _ _).alloc (Nat.le_refl _) _
set_option maxHeartbeats 2000000 in
set_option maxRecDepth 100000 in
theorem walk {n m : Nat} {v nv dv pv : Value} {l : List Slot} {x : Vu.Va} (W : World) (h : RdS W n v l) (hx : Vu.RdV W m nv dv pv x) (hT : Vh.TabU W) (hE : Et W) :
    Calls Tryz.prog 3 #[v, .agg #[nv, dv, pv]] W fun e w' => e = .returned (.bool true) ∧ Below W.heap.size W w' := by
  obtain ⟨A, c, rfl, -⟩ := h.slice
  have hxx := hx
  obtain ⟨hnum, rfl, hdv, hpv⟩ := hx
  obtain ⟨Ad, cd, rfl, -⟩ := hdv
  obtain ⟨Ap, cp, rfl, -⟩ := hpv.slice
  clear hpv
  obtain ⟨w1, hw1⟩ : ∃ y, y = W.alloc (.cells #[.int .u64 x.num, .slice Ad x.data.length cd, .slice Ap x.parts.length cp] 27) := ⟨_, rfl⟩
  have hb1 : Below W.heap.size W w1 := by rw [hw1]; exact vb _
  have hv1 : hp w1 W.heap.size = some (.cells #[.int .u64 x.num, .slice Ad x.data.length cd, .slice Ap x.parts.length cp] 27 (0, 0)) := by rw [hw1]; exact hp_alloc_at _ _ rfl
  have hvc := fun i => hp_cell hv1 i
  have H1 := h.below hb1
  have BG := Lib.hid (big w1 H1)
  have BV := Lib.hid (fun w2 (h2 : Below W.heap.size W w2) => Vk.big w2 hxx h2)
  have HB1 := Lib.hid hb1; have HV1 := Lib.hid hv1; have HXX := Lib.hid hxx; have HT := Lib.hid hT; have HE := Lib.hid hE; have HH1 := Lib.hid H1
  clear hb1 hv1 hxx hT hE H1 h
  by_cases hbig : sl n l 10000 < 0
  · have hd : decide (sl n l 10000 < 0) = true := decide_eq_true hbig
    rw [hd] at BG
    clear hbig hd
    go_enter Tryz.func3, Tryz.ntmps3
    go_wp2_with (go_at_call 9999)
    rw [← hw1]
    clear hw1
    go_at_call 5
    refine BG.out.mono ?_
    rintro e w2 ⟨rfl, rfl⟩
    go_wp2_with fail
    go_ret
    exact ⟨rfl, HB1.out⟩
  · have hd : decide (sl n l 10000 < 0) = false := decide_eq_false hbig
    rw [hd] at BG
    have hfew : Few n l := Hs.few_of n l 10000 (by omega) (by omega)
    clear hbig hd
    have HFEW := Lib.hid hfew; clear hfew
    by_cases hvb : vl (m + 1) x 10000 < 0
    · have hd : decide (vl (m + 1) x 10000 < 0) = true := decide_eq_true hvb
      rw [hd] at BV
      clear hvb hd
      go_enter Tryz.func3, Tryz.ntmps3
      go_wp2_with (go_at_call 9999)
      rw [← hw1]
      clear hw1
      go_at_call 5
      refine BG.out.mono ?_
      rintro e w2 ⟨rfl, rfl⟩
      go_wp2_with (go_at_call 9999)
      go_at_call 6
      refine (BV.out _ HB1.out).mono ?_
      rintro e w2 ⟨rfl, b2⟩
      have B2 := Lib.hid (HB1.out.trans (b2.mono HB1.out.size)); clear b2
      go_wp2_with fail
      go_ret
      exact ⟨rfl, B2.out⟩
    · have hd : decide (vl (m + 1) x 10000 < 0) = false := decide_eq_false hvb
      rw [hd] at BV
      have hlv : lv (m + 1) x := fun y hy => RdP.lv m _ _ HXX.out.2.2.2 y hy
      have hfv : FewV (m + 1) x := Vo.few_of (m + 1) x 10000 hlv (by omega) (by omega)
      have HFV := Lib.hid hfv
      clear hvb hd hlv hfv
      go_enter Tryz.func3, Tryz.ntmps3
      go_wp2_with (go_at_call 9999)
      rw [← hw1]
      clear hw1
      go_at_call 5
      refine BG.out.mono ?_
      rintro e w2 ⟨rfl, rfl⟩
      go_wp2_with (go_at_call 9999)
      go_at_call 6
      refine (BV.out _ HB1.out).mono ?_
      rintro e w2 ⟨rfl, b2⟩
      have B2 := Lib.hid b2; have BW2 := Lib.hid (HB1.out.trans (b2.mono HB1.out.size)); clear b2
      clear hvc
      by_cases hval : _root_.Go.Proofs.YtpfckpaokoifhaaGreatDoor.Sc.valid n l = 0
      · obtain ⟨-, -, hok, -⟩ := spans_eq hval
        have h7 := rds_ok 6 n _ l hok (HH1.out.below B2.out)
        have md := made w2 h7 (few_ok 6 l hok)
        have MD := Lib.hid md; have HOK := Lib.hid hok; clear md h7 hok hval
        go_wp2_with (go_at_call 9999)
        go_at_call 7
        refine MD.out.mono ?_
        rintro e w3 ⟨⟨-, rfl⟩ | ⟨hv7, cc, r, rfl, hcd, hrc⟩, hb3⟩
        · have B3 := Lib.hid (BW2.out.trans (hb3.mono BW2.out.size)); clear hb3
          go_wp2_with fail
          go_ret
          exact ⟨rfl, B3.out⟩
        · have B3 := Lib.hid (BW2.out.trans (hb3.mono BW2.out.size))
          have hv3 := below_hp (below_hp HV1.out B2.out) hb3
          have hvc3 := fun i => hp_cell hv3 i
          have hhv := handValue m _ _ _ x W w3 HXX.out HFV.out B3.out
          have HHV := Lib.hid hhv; have HV3 := Lib.hid hv3; have HCD := Lib.hid hcd; have HRC := Lib.hid hrc
          clear hb3 hv3 hhv hcd hrc hv7
          unfold ptr at *
          go_wp2_with (go_at_call 9999)
          go_at_call 8
          refine HHV.out.mono ?_
          rintro _ w4 ⟨nv4, dv4, pv4, rfl, hh4, b4⟩
          have hin4 : ∃ bd bp, nv4 = .int .u64 x.num ∧ dv4 = .slice (some ⟨bd, 0, none⟩) x.data.length (x.data.length + 3) ∧ pv4 = .slice (some ⟨bp, 0, none⟩) x.parts.length (x.parts.length + 3) := by
            obtain ⟨-, e1, ⟨bd, e2, -⟩, h4⟩ := hh4
            obtain ⟨bp, e3, -⟩ := h4.slice
            exact ⟨bd, bp, e1, e2, e3⟩
          obtain ⟨bd, bp, rfl, rfl, rfl⟩ := hin4
          obtain ⟨w5, hw5⟩ : ∃ y, y = w4.alloc (.cells #[.int .u64 x.num, .slice (some ⟨bd, 0, none⟩) x.data.length (x.data.length + 3), .slice (some ⟨bp, 0, none⟩) x.parts.length (x.parts.length + 3)] 27) := ⟨_, rfl⟩
          have hb45 : Below w4.heap.size w4 w5 := by rw [hw5]; exact vb _
          have hin5 : hp w5 w4.heap.size = some (.cells #[.int .u64 x.num, .slice (some ⟨bd, 0, none⟩) x.data.length (x.data.length + 3), .slice (some ⟨bp, 0, none⟩) x.parts.length (x.parts.length + 3)] 27 (0, 0)) := by rw [hw5]; exact hp_alloc_at _ _ rfl
          have hv5 := below_hp (below_hp HV3.out b4) hb45
          have hb35 := b4.trans (hb45.mono b4.size)
          have hb05 := B3.out.trans (hb35.mono B3.out.size)
          have hcd5 := HCD.out.below hb35
          have hrc5 := Rc.keep (S' := Bt w2 w3) (fun _ h => h) (fun q hq hlt => hb35.block q hlt) HRC.out
          have hw45 := hh4.below hb45
          have hrd5 := hw45.rd HFV.out
          obtain ⟨F, hF⟩ : ∃ F, F = Vu.chk Vh.pF Lib.validD 7 l x 1 := ⟨_, rfl⟩
          have hchk : ∀ w6, Below w5.heap.size w5 w6 → Calls Tryz.prog 10 #[.pointer (some ⟨cc, 0, none⟩), .agg #[.int .u64 x.num, .slice (some ⟨bd, 0, none⟩) x.data.length (x.data.length + 3), .slice (some ⟨bp, 0, none⟩) x.parts.length (x.parts.length + 3)]] w6 fun e w' => ∃ v, e = .returned v ∧ Vj.ErrOf F w6.heap.size v w' ∧ Below w6.heap.size w6 w' := fun w6 h6 => by
            rw [hF]
            exact Vj.pCheck Lib.validD Uv.utf _ cc m 7 l _ _ _ x w6 (hcd5.below h6) (hrd5.below h6) (HT.out.below (hb05.trans (h6.mono hb05.size))) (by omega)
          have hrck : ∀ w6, Below w5.heap.size w5 w6 → Calls Tryz.prog 11 #[.pointer (some ⟨r, 0, none⟩), .agg #[.int .u64 x.num, .slice Ad x.data.length cd, .slice Ap x.parts.length cp]] w6 fun e w' => e = .returned (.agg #[.int .i64 F.1, .int .i64 F.2.1, .int .i64 F.2.2]) ∧ Below w6.heap.size w6 w' := fun w6 h6 => by
            rw [hF]
            exact rCheck (m := m) (Rc.keep (S' := Bt w2 w3) (fun _ h => h) (fun q hq hlt => h6.block q hlt) hrc5) HOK.out (by omega) (HXX.out.below (hb05.trans (h6.mono hb05.size))) HFV.out
          have hlef : ∀ w6, Below w5.heap.size w5 w6 → Calls Tryz.prog 12 #[.agg #[.int .u64 x.num, .slice (some ⟨bd, 0, none⟩) x.data.length (x.data.length + 3), .slice (some ⟨bp, 0, none⟩) x.parts.length (x.parts.length + 3)], .agg #[.int .u64 x.num, .slice Ad x.data.length cd, .slice Ap x.parts.length cp]] w6 fun e w' => e = .returned (.bool true) ∧ Below w6.heap.size w6 w' := fun w6 h6 =>
            Lv.leftValue m w3.heap.size _ _ _ _ _ _ x W w6 HXX.out (hw45.below h6) HFV.out (hb05.trans (h6.mono hb05.size))
          obtain ⟨F1, F2, F3⟩ := F
          have hfau := fun v base w6 (hh : Vj.ErrOf (F1, F2, F3) base v w6) (h6 : Below w5.heap.size w5 w6) => faulty (F1, F2, F3) base v w6 hh (HE.out.below (hb05.trans (h6.mono hb05.size)))
          have hvc5 := fun i => hp_cell hv5 i
          have hic5 := fun i => hp_cell hin5 i
          have HCHK := Lib.hid hchk; have HRCK := Lib.hid hrck; have HLEF := Lib.hid hlef; have HFAU := Lib.hid hfau; have HV5 := Lib.hid hv5; have HI5 := Lib.hid hin5; have HB5 := Lib.hid hb05
          have hne1 : ¬ W.heap.size = w4.heap.size := by have := HV3.out; have h := (Array.getElem?_eq_some_iff.1 this).1; have := b4.size; omega
          have hne2 : ¬ w4.heap.size = W.heap.size := fun h => hne1 h.symm
          clear hchk hrck hlef hfau hv5 hin5 hb05 hcd5 hrc5 hw45 hrd5 hb35 hb45 hh4 b4 hF hvc3
          go_upto_region 7 with fail
          rw [← hw5]
          clear hw5
          clear HXX HT HE HH1 HFEW HFV MD HOK HHV HV3 HCD HRC BG BV HB1 HV1
          go_region_with (first
            | (go_at_call 10; refine (HCHK.out _ (Below.refl _ _).drew).mono ?_; rintro _ w6 ⟨ev, rfl, he6, b6⟩; have hb6 := (Below.refl w5.heap.size w5).drew.trans (b6.mono (by simp)); have hv6 := fun i => hp_cell (below_hp HV5.out hb6) i; have hi6 := fun i => hp_cell (below_hp HI5.out hb6) i; have HB6 := Lib.hid hb6; have HE6 := Lib.hid he6; clear b6 hb6 he6)
            | (go_at_call 11; refine (HRCK.out _ HB6.out).mono ?_; rintro _ w7 ⟨rfl, b7⟩; have hb7 := HB6.out.trans (b7.mono HB6.out.size); have hv7 := fun i => hp_cell (below_hp HV5.out hb7) i; have hi7 := fun i => hp_cell (below_hp HI5.out hb7) i; have HB7 := Lib.hid hb7; have HE7 := Lib.hid (errOf_below HE6.out b7); clear b7 hb7)
            | (go_at_call 9; refine (HFAU.out _ _ _ HE7.out HB7.out).mono ?_; rintro _ w8 ⟨rfl, b8⟩; have hb8 := HB7.out.trans (b8.mono HB7.out.size); have hv8 := fun i => hp_cell (below_hp HV5.out hb8) i; have hi8 := fun i => hp_cell (below_hp HI5.out hb8) i; have HB8 := Lib.hid hb8; clear b8 hb8)
            | (go_at_call 12; refine (HLEF.out _ HB8.out).mono ?_; rintro _ w9 ⟨rfl, b9⟩; have HB9 := Lib.hid (HB8.out.trans (b9.mono HB8.out.size)); clear b9))
          all_goals
            go_wp2_with fail
            go_ret
            exact ⟨rfl, HB5.out.trans (HB9.out.mono HB5.out.size)⟩
      · have md := made w2 (HH1.out.below B2.out) HFEW.out
        have MD := Lib.hid md; have HVAL := Lib.hid hval; clear md hval
        go_wp2_with (go_at_call 9999)
        go_at_call 7
        refine MD.out.mono ?_
        rintro e w3 ⟨⟨-, rfl⟩ | ⟨hv, -⟩, hb3⟩
        · have B3 := Lib.hid (BW2.out.trans (hb3.mono BW2.out.size)); clear hb3
          go_wp2_with fail
          go_ret
          exact ⟨rfl, B3.out⟩
        · exact absurd hv HVAL.out
end Go.Proofs.YtpfckpaokoifhaaGreatDoor.Ck
