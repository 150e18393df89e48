/- leftValue: a value in memory of its own is as it was. -/
import Derived.Test.YtpfckpaokoifhaaGreatDoorJHw
import Derived.BigRegion
import Derived.Deep.RegionWith
import Derived.Test.YtpfckpaokoifhaaGreatDoorJRt
import Derived.Test.YtpfckpaokoifhaaGreatDoorJMd
import Derived.Test.YtpfckpaokoifhaaGreatDoorJKu
import Derived.Test.YtpfckpaokoifhaaGreatDoorJVk
import Derived.Test.YtpfckpaokoifhaaGreatDoorJUv
namespace Go.Proofs.YtpfckpaokoifhaaGreatDoor.Lv
open Go Go.RowKit Go.Proofs.YtpfckpaokoifhaaGreatDoor.Pa Go.Proofs.YtpfckpaokoifhaaGreatDoor.Pb Go.Proofs.YtpfckpaokoifhaaGreatDoor.Pc Go.Proofs.YtpfckpaokoifhaaGreatDoor.Pf Go.Proofs.YtpfckpaokoifhaaGreatDoor.Sc Go.Proofs.YtpfckpaokoifhaaGreatDoor.Rs Go.Proofs.YtpfckpaokoifhaaGreatDoor.Hs Go.Proofs.YtpfckpaokoifhaaGreatDoor.Vu Go.Proofs.YtpfckpaokoifhaaGreatDoor.Vo Go.Proofs.YtpfckpaokoifhaaGreatDoor.Hv Go.Proofs.YtpfckpaokoifhaaGreatDoor.Hx
set_option linter.unusedVariables false
set_option linter.unusedSimpArgs false
set_option maxHeartbeats 2000000 in
set_option maxRecDepth 100000 in
theorem leftValue : ∀ (n base : Nat) (nv' dv' pv' nv dv pv : Value) (x : Va) (W w : World), RdV W n nv dv pv x → Hw w base n nv' dv' pv' x → FewV (n + 1) x → Below W.heap.size W w →
    Calls Tryz.prog 12 #[.agg #[nv', dv', pv'], .agg #[nv, dv, pv]] w fun e w' => e = .returned (.bool true) ∧ Below w.heap.size w w' := by
  intro n
  induction n with
  | zero => exact fun base nv' dv' pv' nv dv pv x W w h _ _ _ => h.2.2.2.elim
  | succ n ih =>
    intro base nv' dv' pv' nv dv pv x W w h hh hf hB
    obtain ⟨hnum, rfl, hdv, hpv⟩ := h
    obtain ⟨hf1, hf2, hf3⟩ := hf
    obtain ⟨-, rfl, hdh, hph⟩ := hh
    obtain ⟨bd, rfl, hbd, had⟩ := hdh
    obtain ⟨bp, f, rfl, hbp, hrow, hpart, hmark⟩ := hph
    obtain ⟨Ad, cd, rfl, hd1, hd2⟩ : ∃ A c, dv = .slice A x.data.length c ∧ x.data.length ≤ c ∧ c ≤ maxLen := by obtain ⟨A, c, e, h1, h2, -⟩ := hdv; exact ⟨A, c, e, h1, h2⟩
    obtain ⟨Ap, cp, rfl, hp1, hp2⟩ := hpv.slice
    clear hd1 hd2 hp1 hp2
    obtain ⟨w2, hw2⟩ : ∃ y, y = (w.alloc (.cells #[.int .u64 x.num, .slice (some ⟨bd, 0, none⟩) x.data.length (x.data.length + 3), .slice (some ⟨bp, 0, none⟩) x.parts.length (x.parts.length + 3)] 27)).alloc (.cells #[.int .u64 x.num, .slice Ad x.data.length cd, .slice Ap x.parts.length cp] 27) := ⟨_, rfl⟩
    have hb2 : Below w.heap.size w w2 := by
      have h : ∀ {w' : World} (o : Obj), Below w.heap.size w w' → Below w.heap.size w (w'.alloc o) := fun o hb => hb.alloc hb.size _
      rw [hw2]; exact h _ (h _ (Below.refl _ _))
    have hx2 : hp w2 w.heap.size = some (.cells #[.int .u64 x.num, .slice (some ⟨bd, 0, none⟩) x.data.length (x.data.length + 3), .slice (some ⟨bp, 0, none⟩) x.parts.length (x.parts.length + 3)] 27 (0, 0)) := by rw [hw2]; exact (hp_alloc_past _ _ (by simp)).trans (hp_alloc_at _ _ rfl)
    have hy2 : hp w2 (w.heap.size + 1) = some (.cells #[.int .u64 x.num, .slice Ad x.data.length cd, .slice Ap x.parts.length cp] 27 (0, 0)) := by rw [hw2]; exact hp_alloc_at _ _ (by simp)
    have had2 : Arr w2 bd 5 (x.data ++ [7, 8, 9]) := below_hp had hb2
    have hrow2 := World.rowIs.of_block (w' := w2) hrow (hb2.block bp hrow.lt)
    have hc1 := run_str Nm.u8 Tryz.underlying5 Tryz.underlying9 (Dh.rd (w := w2) (base := 0) ⟨bd, rfl, Nat.zero_le _, had2⟩ hf1)
    have hc2 := run_str Nm.u8 Tryz.underlying5 Tryz.underlying9 (rd_keep (hB.trans (hb2.mono hB.size)).block hdv)
    have hxc := fun i => hp_cell hx2 i
    have hyc := fun i => hp_cell hy2 i
    have IH := Lib.hid ih; have H := Lib.hid hpv; have HB := Lib.hid hB; have HF := Lib.hid hf3; have HP := Lib.hid hpart; have HM := Lib.hid hmark; have HAD := Lib.hid had2; have HROW := Lib.hid hrow2; have HX := Lib.hid hx2; have HY := Lib.hid hy2; have HB2 := Lib.hid hb2; have HR0 := Lib.hid hrow
    clear ih hpv hdv hB hf3 hpart hmark had had2 hrow hrow2 hx2 hy2 hb2
    go_enter Tryz.func12, Tryz.ntmps12
    go_upto_region 1 with fail
    rw [← hw2]
    clear hw2
    go_wp2_with fail
    clear hc1 hc2
    go_loop [7] (fun s => ∃ (k : Nat), k ≤ 3 ∧ s = .int .i64 k) (fun s => 3 - (intOf s).toNat)
    case atStart => exact ⟨0, by omega, rfl⟩
    case round =>
      obtain ⟨k, hk, rfl⟩ := hrel
      by_cases hk3 : k < 3
      · have hdc : w2.cell? ⟨bd, x.data.length + k, none⟩ = some (.int .u8 (7 + (k : Int))) := by
          rw [HAD.out.cellAt (x.data.length + k) (by simp; omega)]
          congr 2
          rw [List.getElem_append_right (by omega)]
          have : k = 0 ∨ k = 1 ∨ k = 2 := by omega
          rcases this with rfl | rfl | rfl <;> simp
        obtain ⟨m1, m2⟩ := HM.out (x.parts.length + k) (by omega) (by omega)
        have k0 := HROW.out.cell (i := (x.parts.length + k) * 3) (by omega)
        have k2 := HROW.out.cell (i := (x.parts.length + k) * 3 + 2) (by omega)
        rw [m1] at k0
        rw [m2] at k2
        have hw8 : IntKind.u8.wrap (7 + (k : Int)) = 7 + (k : Int) := wu8 (by omega) (by omega)
        clear m1 m2
        go_wp2_with fail
        go_round
        case rel => exact ⟨k + 1, by omega, by go_num⟩
        case measure => simp [intOf]; omega
      · obtain rfl : k = 3 := by omega
        rw [show ((3 : Nat) : Int) = 3 from rfl]
        go_wp2_with fail
        clear hxc hyc
        go_loopw [8] (fun s wr => ∃ (i : Nat), i ≤ x.parts.length ∧ s = .int .i64 i ∧ Below w2.heap.size w2 wr) (fun s _ => x.parts.length - (intOf s).toNat)
        case atStart => exact ⟨0, by omega, rfl, Below.refl _ _⟩
        case round =>
          obtain ⟨i, hi, rfl, hbw⟩ := hrel
          have hyr := below_hp HY.out hbw
          have hyc := fun i => hp_cell hyr i
          have HBW := Lib.hid hbw
          by_cases hin : i < x.parts.length
          · have hb1 : Below w.heap.size w wr := HB2.out.trans (hbw.mono HB2.out.size)
            have hbr : Below W.heap.size W wr := HB.out.trans (hb1.mono HB.out.size)
            obtain ⟨ad, rfl, dv2, pv2, g1, g2, g3, g4⟩ := H.out.at_ i hin
            have k : ∀ a u, W.cell? a = some u → wr.cell? a = some u := fun a u hu => (World.cell?_of_block (hbr.block _ (World.block_lt_of_cell? W _ hu))).trans hu
            replace g1 := k _ _ g1; replace g2 := k _ _ g2; replace g3 := k _ _ g3
            obtain ⟨e1, e2, e3, e4⟩ := HP.out i x.parts[i] (by simp [hin])
            have hft := HF.out x.parts[i] (List.getElem_mem hin)
            have hrr := HR0.out.of_block (w' := wr) (hb1.block bp HR0.out.lt)
            have k0 := hrr.cell (i := i * 3) (by omega)
            have k1 := hrr.cell (i := i * 3 + 1) (by omega)
            have k2 := hrr.cell (i := i * 3 + 2) (by omega)
            rw [e2] at k0
            generalize x.parts[i] = z at *
            obtain ⟨q, hpz⟩ : ∃ q, ad.add (i * 3) = q := ⟨_, rfl⟩
            rw [add_lit _ _ _ (by omega)] at g2 g3
            rw [hpz] at g1 g2 g3
            generalize f (i * 3 + 1) = dv1 at *
            generalize f (i * 3 + 2) = pv1 at *
            have hcall := IH.out base (.int .u64 z.num) dv1 pv1 (.int .u64 z.num) dv2 pv2 z W wr.drew g4 ((Hw.below (x := z) ⟨e1, rfl, e3, e4⟩ hb1).below (Below.refl _ _).drew) hft hbr.drew
            have HCALL := Lib.hid hcall
            obtain ⟨hz1, -, hz3, hz4⟩ := id g4
            obtain ⟨Ad2, cd2, rfl, -⟩ := hz3
            obtain ⟨Ap2, cp2, rfl, -⟩ := hz4.slice
            obtain ⟨bd2, rfl, -⟩ := id e3
            obtain ⟨bp2, rfl, -⟩ := e4.slice
            clear hcall g4 e1 e3 e4 hft hrr hz4 hbr hb1 hbw hyr e2 k
            go_upto_region 13 with fail
            go_region_with (go_at_call 12; refine HCALL.out.mono ?_; rintro _ w4 ⟨rfl, b4⟩; have HB4 := Lib.hid (HBW.out.trans (((Below.refl _ _).drew.trans (b4.mono (by simp))).mono HBW.out.size)))
            all_goals (go_wp2_with fail; go_roundw)
            all_goals first | exact ⟨i + 1, by omega, by go_num, HB4.out⟩ | (simp [intOf]; omega)
          · obtain rfl : i = x.parts.length := by omega
            go_wp2_with fail
            go_ret
            exact ⟨rfl, HB2.out.trans (HBW.out.mono HB2.out.size)⟩
end Go.Proofs.YtpfckpaokoifhaaGreatDoor.Lv
/- The reference's Codec.Check; the law SchemaChecks, walked. -/
namespace Go.Proofs.YtpfckpaokoifhaaGreatDoor.Ck
open Go Go.RowKit Go.Proofs.YtpfckpaokoifhaaGreatDoor.Pa Go.Proofs.YtpfckpaokoifhaaGreatDoor.Pb Go.Proofs.YtpfckpaokoifhaaGreatDoor.Pf Go.Proofs.YtpfckpaokoifhaaGreatDoor.Pq Go.Proofs.YtpfckpaokoifhaaGreatDoor.Sc Go.Proofs.YtpfckpaokoifhaaGreatDoor.Rs Go.Proofs.YtpfckpaokoifhaaGreatDoor.Sl Go.Proofs.YtpfckpaokoifhaaGreatDoor.Hs Go.Proofs.YtpfckpaokoifhaaGreatDoor.Va Go.Proofs.YtpfckpaokoifhaaGreatDoor.Ca Go.Proofs.YtpfckpaokoifhaaGreatDoor.Cb Go.Proofs.YtpfckpaokoifhaaGreatDoor.Cm Go.Proofs.YtpfckpaokoifhaaGreatDoor.Md Go.Proofs.YtpfckpaokoifhaaGreatDoor.Rq Go.Proofs.YtpfckpaokoifhaaGreatDoor.Rr Go.Proofs.YtpfckpaokoifhaaGreatDoor.Rt Go.Proofs.YtpfckpaokoifhaaGreatDoor.Hx Go.Proofs.YtpfckpaokoifhaaGreatDoor.Vo Go.Proofs.YtpfckpaokoifhaaGreatDoor.Hv Go.Proofs.YtpfckpaokoifhaaGreatDoor.Fz
set_option linter.unusedVariables false
set_option linter.unusedSimpArgs false
/-- A schema that can be is read less than k + 1 levels deep. -/
theorem rds_ok {w : World} : ∀ (k n : Nat) (v : Value) (l : List Slot), okL k l → RdS w n v l → RdS w (k + 1) v l
  | 0, _, _, _, h, _ => h.elim
  | k + 1, 0, _, _, _, h => h.elim
  | k + 1, n + 1, v, l, hk, h => by
    obtain ⟨A, c, e, h1, h2, h3⟩ := h
    refine ⟨A, c, e, h1, h2, fun h0 => ?_⟩
    obtain ⟨ad, ha, hc⟩ := h3 h0
    refine ⟨ad, ha, fun i t ht => ?_⟩
    obtain ⟨g0, sv, g1, g2⟩ := hc i t ht
    obtain ⟨-, -, -, i4, i5⟩ := hk.2 t (List.mem_of_getElem? ht)
    refine ⟨g0, sv, g1, ?_⟩
    by_cases hn : nest t = true
    · exact rds_ok k n sv t.sub (i4 hn) g2
    · have he := i5 (by simpa using hn)
      rw [he] at g2 ⊢
      obtain ⟨A', c', e', h1', h2', _⟩ := g2.slice |>.elim fun A h => h.elim fun c h => (⟨A, c, h.1, h.2.1, h.2.2, trivial⟩ : ∃ A c, sv = .slice A ([] : List Slot).length c ∧ ([] : List Slot).length ≤ c ∧ c ≤ maxLen ∧ True)
      exact ⟨A', c', e', h1', h2', fun h => absurd h (by simp)⟩
theorem few_ok : ∀ (k : Nat) (l : List Slot), okL k l → Few (k + 1) l
  | 0, _, h => h.elim
  | k + 1, l, hk => by
    refine ⟨Nat.le_trans hk.1 (by omega), fun t ht => ?_⟩
    obtain ⟨-, -, -, i4, i5⟩ := hk.2 t ht
    by_cases hn : nest t = true
    · exact few_ok k t.sub (i4 hn)
    · rw [i5 (by simpa using hn)]
      exact ⟨by simp, fun u hu => by cases hu⟩
set_option maxRecDepth 100000 in
theorem rCheck {w : World} {S : Pl} {n m g : Nat} {l : List Slot} {nv dv pv : Value} {x : Vu.Va} (h : Rc w S n g l) (hok : okL 6 l) (hn : n ≤ 900000) (hx : Vu.RdV w m nv dv pv x) (hf : FewV (m + 1) x) :
    Calls Tryz.prog 11 #[ptr g, .agg #[nv, dv, pv]] w fun e w' => e = .returned (fl (Vu.chk Vh.pF Lib.validD n l x 1)) ∧ Below w.heap.size w w' := by
  obtain ⟨-, sv, h2, h3⟩ := h
  have hrd := Tw.Tw.rd n sv l h3
  have hcall := fun w3 (hb : Below w.heap.size w w3) => checkAll n 6 m sv nv dv pv l x 1 w w3 hrd hok hx hf hb (by omega) (by omega)
  obtain ⟨C, c, rfl, -⟩ := hrd.slice
  obtain ⟨hnum, rfl, hdv, hpv⟩ := hx
  obtain ⟨Ad, cd, rfl, -⟩ := hdv
  obtain ⟨Ap, cp, rfl, -⟩ := hpv.slice
  obtain ⟨⟨q1, q2, q3⟩, hq⟩ : ∃ F : Vu.Flt, F = Vu.chk Vh.pF Lib.validD n l x 1 := ⟨_, rfl⟩
  rw [← hq] at hcall ⊢
  unfold fl at hcall ⊢
  have hbx := by2_new w x.num Ad x.data.length cd Ap x.parts.length cp
  obtain ⟨w2, hw2⟩ : ∃ y, y = (w.alloc (.cells #[.int .u64 (x.num : Int), .slice Ad x.data.length cd, .slice Ap x.parts.length cp] 27)).alloc (.cells #[.int .i64 0, .int .i64 0, .int .i64 0] 41) := ⟨_, rfl⟩
  rw [← hw2] at hbx
  have hgc := below_hp h2 hbx.1
  have s1 : ∀ (u : Held (Vh.Like w2)) (i : Nat), u.w.cell? ⟨g, i, none⟩ = (#[.slice C l.length c] : Array Value)[i]? := fun u i => by obtain ⟨m, hm⟩ := u.h; rw [hm]; exact hp_cell ((hp_drewN m _).trans hgc) i
  have s2 : ∀ (u : Held (Vh.Like w2)) (i : Nat), u.w.cell? ⟨w.heap.size, i, none⟩ = (#[.int .u64 (x.num : Int), .slice Ad x.data.length cd, .slice Ap x.parts.length cp] : Array Value)[i]? := fun u i => by obtain ⟨m, hm⟩ := u.h; rw [hm]; exact hp_cell ((hp_drewN m _).trans hbx.2.2.1) i
  have HC := Lib.hid hcall; have HBX := Lib.hid hbx
  clear hcall hbx hgc h2 h3 hrd hpv hq
  unfold ptr
  go_enter Tryz.func11, Tryz.ntmps11
  go_upto_region 1 with fail
  rw [← hw2]
  clear hw2
  refine wp_region_calm_tail (S := Vh.Like w2) 5 (by kernel_rfl) (by kernel_rfl) (Vh.Like.refl _) ?_
  intro hN
  simp only [List.take_succ_cons, List.take_zero, List.drop_succ_cons, List.drop_zero]
  repeat (go_big_quiet_step (fail))
  refine wpQuiet_nil ?_
  intro u
  obtain ⟨m1, hm1⟩ := u.h
  rw [hm1]
  have hby : Below w2.heap.size w2 (w2.drewN m1) := Uw.below_drewN _ _
  generalize w2.drewN m1 = w5 at *
  have B5 := HBX.out.below hby
  have HB5 := Lib.hid B5
  clear hN hm1 u s1 s2 hby B5
  go_wp2_with (go_at_call 9999)
  go_at_call 25
  refine (HC.out _ HB5.out.1).mono ?_
  rintro _ w6 ⟨rfl, b6⟩
  have B6 := HB5.out.below b6
  have hzc := fun i => hp_cell B6.2.2.2 i
  have hzf := fun i => hp_frozen B6.2.2.2 i
  have HB6 := Lib.hid B6
  clear b6 B6
  go_wp2_with fail
  exact ret_row Tryz.results11 Tryz.underlying41 rfl (by kernel_rfl) rfl (hp_set3 HB6.out.2.2.2 (q1, q2, q3)) rfl ⟨rfl, below_set3 HB6.out.1 (by omega) (q1, q2, q3)⟩
/-- The error that Check says is like the fault. -/
theorem faulty (f : Vu.Flt) (base : Nat) (v : Value) (w : World) (h : Vj.ErrOf f base v w) (hE : Et w) :
    Calls Tryz.prog 9 #[v, .agg #[.int .i64 f.1, .int .i64 f.2.1, .int .i64 f.2.2]] w fun e w' => e = .returned (.bool true) ∧ Below w.heap.size w w' := by
  rcases h with ⟨h0, rfl⟩ | ⟨h0, b, -, rfl, hb⟩
  · rw [h0]; exact faulty_no f.1 f.2.1 w
  · exact faulty_hit f.1 f.2.1 f.2.2 b w hb h0 hE
theorem errOf_below {f : Vu.Flt} {base : Nat} {v : Value} {w w' : World} (h : Vj.ErrOf f base v w) (hb : Below w.heap.size w w') : Vj.ErrOf f base v w' := by
  rcases h with h | ⟨h0, b, h1, h2, h3⟩
  · exact .inl h
  · exact .inr ⟨h0, b, h1, h2, below_hp h3 hb⟩
theorem vb {w : World} (o : Obj) : Below w.heap.size w (w.alloc o) := (Below.refl _ _).alloc (Nat.le_refl _) _
set_option maxHeartbeats 2000000 in
set_option maxRecDepth 100000 in
theorem walk {n m : Nat} {v nv dv pv : Value} {l : List Slot} {x : Vu.Va} (W : World) (h : RdS W n v l) (hx : Vu.RdV W m nv dv pv x) (hT : Vh.TabU W) (hE : Et W) :
    Calls Tryz.prog 3 #[v, .agg #[nv, dv, pv]] W fun e w' => e = .returned (.bool true) ∧ Below W.heap.size W w' := by
  obtain ⟨A, c, rfl, -⟩ := h.slice
  have hxx := hx
  obtain ⟨hnum, rfl, hdv, hpv⟩ := hx
  obtain ⟨Ad, cd, rfl, -⟩ := hdv
  obtain ⟨Ap, cp, rfl, -⟩ := hpv.slice
  clear hpv
  obtain ⟨w1, hw1⟩ : ∃ y, y = W.alloc (.cells #[.int .u64 x.num, .slice Ad x.data.length cd, .slice Ap x.parts.length cp] 27) := ⟨_, rfl⟩
  have hb1 : Below W.heap.size W w1 := by rw [hw1]; exact vb _
  have hv1 : hp w1 W.heap.size = some (.cells #[.int .u64 x.num, .slice Ad x.data.length cd, .slice Ap x.parts.length cp] 27 (0, 0)) := by rw [hw1]; exact hp_alloc_at _ _ rfl
  have hvc := fun i => hp_cell hv1 i
  have H1 := h.below hb1
  have BG := Lib.hid (big w1 H1)
  have BV := Lib.hid (fun w2 (h2 : Below W.heap.size W w2) => Vk.big w2 hxx h2)
  have HB1 := Lib.hid hb1; have HV1 := Lib.hid hv1; have HXX := Lib.hid hxx; have HT := Lib.hid hT; have HE := Lib.hid hE; have HH1 := Lib.hid H1
  clear hb1 hv1 hxx hT hE H1 h
  by_cases hbig : sl n l 10000 < 0
  · have hd : decide (sl n l 10000 < 0) = true := decide_eq_true hbig
    rw [hd] at BG
    clear hbig hd
    go_enter Tryz.func3, Tryz.ntmps3
    go_wp2_with (go_at_call 9999)
    rw [← hw1]
    clear hw1
    go_at_call 5
    refine BG.out.mono ?_
    rintro e w2 ⟨rfl, rfl⟩
    go_wp2_with fail
    go_ret
    exact ⟨rfl, HB1.out⟩
  · have hd : decide (sl n l 10000 < 0) = false := decide_eq_false hbig
    rw [hd] at BG
    have hfew : Few n l := Hs.few_of n l 10000 (by omega) (by omega)
    clear hbig hd
    have HFEW := Lib.hid hfew; clear hfew
    by_cases hvb : vl (m + 1) x 10000 < 0
    · have hd : decide (vl (m + 1) x 10000 < 0) = true := decide_eq_true hvb
      rw [hd] at BV
      clear hvb hd
      go_enter Tryz.func3, Tryz.ntmps3
      go_wp2_with (go_at_call 9999)
      rw [← hw1]
      clear hw1
      go_at_call 5
      refine BG.out.mono ?_
      rintro e w2 ⟨rfl, rfl⟩
      go_wp2_with (go_at_call 9999)
      go_at_call 6
      refine (BV.out _ HB1.out).mono ?_
      rintro e w2 ⟨rfl, b2⟩
      have B2 := Lib.hid (HB1.out.trans (b2.mono HB1.out.size)); clear b2
      go_wp2_with fail
      go_ret
      exact ⟨rfl, B2.out⟩
    · have hd : decide (vl (m + 1) x 10000 < 0) = false := decide_eq_false hvb
      rw [hd] at BV
      have hlv : lv (m + 1) x := fun y hy => RdP.lv m _ _ HXX.out.2.2.2 y hy
      have hfv : FewV (m + 1) x := Vo.few_of (m + 1) x 10000 hlv (by omega) (by omega)
      have HFV := Lib.hid hfv
      clear hvb hd hlv hfv
      go_enter Tryz.func3, Tryz.ntmps3
      go_wp2_with (go_at_call 9999)
      rw [← hw1]
      clear hw1
      go_at_call 5
      refine BG.out.mono ?_
      rintro e w2 ⟨rfl, rfl⟩
      go_wp2_with (go_at_call 9999)
      go_at_call 6
      refine (BV.out _ HB1.out).mono ?_
      rintro e w2 ⟨rfl, b2⟩
      have B2 := Lib.hid b2; have BW2 := Lib.hid (HB1.out.trans (b2.mono HB1.out.size)); clear b2
      clear hvc
      by_cases hval : _root_.Go.Proofs.YtpfckpaokoifhaaGreatDoor.Sc.valid n l = 0
      · obtain ⟨-, -, hok, -⟩ := spans_eq hval
        have h7 := rds_ok 6 n _ l hok (HH1.out.below B2.out)
        have md := made w2 h7 (few_ok 6 l hok)
        have MD := Lib.hid md; have HOK := Lib.hid hok; clear md h7 hok hval
        go_wp2_with (go_at_call 9999)
        go_at_call 7
        refine MD.out.mono ?_
        rintro e w3 ⟨⟨-, rfl⟩ | ⟨hv7, cc, r, rfl, hcd, hrc⟩, hb3⟩
        · have B3 := Lib.hid (BW2.out.trans (hb3.mono BW2.out.size)); clear hb3
          go_wp2_with fail
          go_ret
          exact ⟨rfl, B3.out⟩
        · have B3 := Lib.hid (BW2.out.trans (hb3.mono BW2.out.size))
          have hv3 := below_hp (below_hp HV1.out B2.out) hb3
          have hvc3 := fun i => hp_cell hv3 i
          have hhv := handValue m _ _ _ x W w3 HXX.out HFV.out B3.out
          have HHV := Lib.hid hhv; have HV3 := Lib.hid hv3; have HCD := Lib.hid hcd; have HRC := Lib.hid hrc
          clear hb3 hv3 hhv hcd hrc hv7
          unfold ptr at *
          go_wp2_with (go_at_call 9999)
          go_at_call 8
          refine HHV.out.mono ?_
          rintro _ w4 ⟨nv4, dv4, pv4, rfl, hh4, b4⟩
          have hin4 : ∃ bd bp, nv4 = .int .u64 x.num ∧ dv4 = .slice (some ⟨bd, 0, none⟩) x.data.length (x.data.length + 3) ∧ pv4 = .slice (some ⟨bp, 0, none⟩) x.parts.length (x.parts.length + 3) := by
            obtain ⟨-, e1, ⟨bd, e2, -⟩, h4⟩ := hh4
            obtain ⟨bp, e3, -⟩ := h4.slice
            exact ⟨bd, bp, e1, e2, e3⟩
          obtain ⟨bd, bp, rfl, rfl, rfl⟩ := hin4
          obtain ⟨w5, hw5⟩ : ∃ y, y = w4.alloc (.cells #[.int .u64 x.num, .slice (some ⟨bd, 0, none⟩) x.data.length (x.data.length + 3), .slice (some ⟨bp, 0, none⟩) x.parts.length (x.parts.length + 3)] 27) := ⟨_, rfl⟩
          have hb45 : Below w4.heap.size w4 w5 := by rw [hw5]; exact vb _
          have hin5 : hp w5 w4.heap.size = some (.cells #[.int .u64 x.num, .slice (some ⟨bd, 0, none⟩) x.data.length (x.data.length + 3), .slice (some ⟨bp, 0, none⟩) x.parts.length (x.parts.length + 3)] 27 (0, 0)) := by rw [hw5]; exact hp_alloc_at _ _ rfl
          have hv5 := below_hp (below_hp HV3.out b4) hb45
          have hb35 := b4.trans (hb45.mono b4.size)
          have hb05 := B3.out.trans (hb35.mono B3.out.size)
          have hcd5 := HCD.out.below hb35
          have hrc5 := Rc.keep (S' := Bt w2 w3) (fun _ h => h) (fun q hq hlt => hb35.block q hlt) HRC.out
          have hw45 := hh4.below hb45
          have hrd5 := hw45.rd HFV.out
          obtain ⟨F, hF⟩ : ∃ F, F = Vu.chk Vh.pF Lib.validD 7 l x 1 := ⟨_, rfl⟩
          have hchk : ∀ w6, Below w5.heap.size w5 w6 → Calls Tryz.prog 10 #[.pointer (some ⟨cc, 0, none⟩), .agg #[.int .u64 x.num, .slice (some ⟨bd, 0, none⟩) x.data.length (x.data.length + 3), .slice (some ⟨bp, 0, none⟩) x.parts.length (x.parts.length + 3)]] w6 fun e w' => ∃ v, e = .returned v ∧ Vj.ErrOf F w6.heap.size v w' ∧ Below w6.heap.size w6 w' := fun w6 h6 => by
            rw [hF]
            exact Vj.pCheck Lib.validD Uv.utf _ cc m 7 l _ _ _ x w6 (hcd5.below h6) (hrd5.below h6) (HT.out.below (hb05.trans (h6.mono hb05.size))) (by omega)
          have hrck : ∀ w6, Below w5.heap.size w5 w6 → Calls Tryz.prog 11 #[.pointer (some ⟨r, 0, none⟩), .agg #[.int .u64 x.num, .slice Ad x.data.length cd, .slice Ap x.parts.length cp]] w6 fun e w' => e = .returned (.agg #[.int .i64 F.1, .int .i64 F.2.1, .int .i64 F.2.2]) ∧ Below w6.heap.size w6 w' := fun w6 h6 => by
            rw [hF]
            exact rCheck (m := m) (Rc.keep (S' := Bt w2 w3) (fun _ h => h) (fun q hq hlt => h6.block q hlt) hrc5) HOK.out (by omega) (HXX.out.below (hb05.trans (h6.mono hb05.size))) HFV.out
          have hlef : ∀ w6, Below w5.heap.size w5 w6 → Calls Tryz.prog 12 #[.agg #[.int .u64 x.num, .slice (some ⟨bd, 0, none⟩) x.data.length (x.data.length + 3), .slice (some ⟨bp, 0, none⟩) x.parts.length (x.parts.length + 3)], .agg #[.int .u64 x.num, .slice Ad x.data.length cd, .slice Ap x.parts.length cp]] w6 fun e w' => e = .returned (.bool true) ∧ Below w6.heap.size w6 w' := fun w6 h6 =>
            Lv.leftValue m w3.heap.size _ _ _ _ _ _ x W w6 HXX.out (hw45.below h6) HFV.out (hb05.trans (h6.mono hb05.size))
          obtain ⟨F1, F2, F3⟩ := F
          have hfau := fun v base w6 (hh : Vj.ErrOf (F1, F2, F3) base v w6) (h6 : Below w5.heap.size w5 w6) => faulty (F1, F2, F3) base v w6 hh (HE.out.below (hb05.trans (h6.mono hb05.size)))
          have hvc5 := fun i => hp_cell hv5 i
          have hic5 := fun i => hp_cell hin5 i
          have HCHK := Lib.hid hchk; have HRCK := Lib.hid hrck; have HLEF := Lib.hid hlef; have HFAU := Lib.hid hfau; have HV5 := Lib.hid hv5; have HI5 := Lib.hid hin5; have HB5 := Lib.hid hb05
          have hne1 : ¬ W.heap.size = w4.heap.size := by have := HV3.out; have h := (Array.getElem?_eq_some_iff.1 this).1; have := b4.size; omega
          have hne2 : ¬ w4.heap.size = W.heap.size := fun h => hne1 h.symm
          clear hchk hrck hlef hfau hv5 hin5 hb05 hcd5 hrc5 hw45 hrd5 hb35 hb45 hh4 b4 hF hvc3
          go_upto_region 7 with fail
          rw [← hw5]
          clear hw5
          clear HXX HT HE HH1 HFEW HFV MD HOK HHV HV3 HCD HRC BG BV HB1 HV1
          go_region_with (first
            | (go_at_call 10; refine (HCHK.out _ (Below.refl _ _).drew).mono ?_; rintro _ w6 ⟨ev, rfl, he6, b6⟩; have hb6 := (Below.refl w5.heap.size w5).drew.trans (b6.mono (by simp)); have hv6 := fun i => hp_cell (below_hp HV5.out hb6) i; have hi6 := fun i => hp_cell (below_hp HI5.out hb6) i; have HB6 := Lib.hid hb6; have HE6 := Lib.hid he6; clear b6 hb6 he6)
            | (go_at_call 11; refine (HRCK.out _ HB6.out).mono ?_; rintro _ w7 ⟨rfl, b7⟩; have hb7 := HB6.out.trans (b7.mono HB6.out.size); have hv7 := fun i => hp_cell (below_hp HV5.out hb7) i; have hi7 := fun i => hp_cell (below_hp HI5.out hb7) i; have HB7 := Lib.hid hb7; have HE7 := Lib.hid (errOf_below HE6.out b7); clear b7 hb7)
            | (go_at_call 9; refine (HFAU.out _ _ _ HE7.out HB7.out).mono ?_; rintro _ w8 ⟨rfl, b8⟩; have hb8 := HB7.out.trans (b8.mono HB7.out.size); have hv8 := fun i => hp_cell (below_hp HV5.out hb8) i; have hi8 := fun i => hp_cell (below_hp HI5.out hb8) i; have HB8 := Lib.hid hb8; clear b8 hb8)
            | (go_at_call 12; refine (HLEF.out _ HB8.out).mono ?_; rintro _ w9 ⟨rfl, b9⟩; have HB9 := Lib.hid (HB8.out.trans (b9.mono HB8.out.size)); clear b9))
          all_goals
            go_wp2_with fail
            go_ret
            exact ⟨rfl, HB5.out.trans (HB9.out.mono HB5.out.size)⟩
      · have md := made w2 (HH1.out.below B2.out) HFEW.out
        have MD := Lib.hid md; have HVAL := Lib.hid hval; clear md hval
        go_wp2_with (go_at_call 9999)
        go_at_call 7
        refine MD.out.mono ?_
        rintro e w3 ⟨⟨-, rfl⟩ | ⟨hv, -⟩, hb3⟩
        · have B3 := Lib.hid (BW2.out.trans (hb3.mono BW2.out.size)); clear hb3
          go_wp2_with fail
          go_ret
          exact ⟨rfl, B3.out⟩
        · exact absurd hv HVAL.out
end Go.Proofs.YtpfckpaokoifhaaGreatDoor.Ck
