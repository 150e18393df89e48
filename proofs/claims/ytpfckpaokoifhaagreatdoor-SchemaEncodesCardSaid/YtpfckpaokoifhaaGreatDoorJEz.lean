/- The law SchemaEncodes, walked. -/
import Derived.Test.YtpfckpaokoifhaaGreatDoorJEy
namespace Go.Proofs.YtpfckpaokoifhaaGreatDoor.Ez
open Go Go.RowKit Go.Proofs.YtpfckpaokoifhaaGreatDoor.Pa Go.Proofs.YtpfckpaokoifhaaGreatDoor.Pb Go.Proofs.YtpfckpaokoifhaaGreatDoor.Pc Go.Proofs.YtpfckpaokoifhaaGreatDoor.Pf Go.Proofs.YtpfckpaokoifhaaGreatDoor.Pq Go.Proofs.YtpfckpaokoifhaaGreatDoor.Sc Go.Proofs.YtpfckpaokoifhaaGreatDoor.Rs Go.Proofs.YtpfckpaokoifhaaGreatDoor.Sl Go.Proofs.YtpfckpaokoifhaaGreatDoor.Hs Go.Proofs.YtpfckpaokoifhaaGreatDoor.Va Go.Proofs.YtpfckpaokoifhaaGreatDoor.Ca Go.Proofs.YtpfckpaokoifhaaGreatDoor.Cb Go.Proofs.YtpfckpaokoifhaaGreatDoor.Cm Go.Proofs.YtpfckpaokoifhaaGreatDoor.Md Go.Proofs.YtpfckpaokoifhaaGreatDoor.Rq Go.Proofs.YtpfckpaokoifhaaGreatDoor.Rr Go.Proofs.YtpfckpaokoifhaaGreatDoor.Rt Go.Proofs.YtpfckpaokoifhaaGreatDoor.Hx Go.Proofs.YtpfckpaokoifhaaGreatDoor.Vo Go.Proofs.YtpfckpaokoifhaaGreatDoor.Hv Go.Proofs.YtpfckpaokoifhaaGreatDoor.Fz Go.Proofs.YtpfckpaokoifhaaGreatDoor.Ck Go.Proofs.YtpfckpaokoifhaaGreatDoor.Ey Go.Proofs.YtpfckpaokoifhaaGreatDoor.Es
set_option linter.unusedVariables false
set_option linter.unusedSimpArgs false
/-- The bytes of an Encode: none beside a fault. -/
def RR (F : Vu.Flt) (R : List UInt8) : List UInt8 := if F.2.2 = 0 then R else []
theorem rr_len (F : Vu.Flt) (n : Nat) (s : List Slot) (x : Vu.Va) : (RR F (encW n s x)).length ≤ 4194304 := by
  unfold RR; split
  · exact encW_len n s x
  · simp
theorem pOne {F : Vu.Flt} {R : List UInt8} {w : World} {e : Ending} {w' : World} (h : PEnc F R w e w') :
    ∃ A c v, e = .returned (.tuple #[.slice A (RR F R).length c, v]) ∧ Own w' w.heap.size 5 (.slice A (RR F R).length c) (RR F R) ∧ Vj.ErrOf F w.heap.size v w' ∧ Below w.heap.size w w' := by
  rcases h with ⟨v, h0, rfl, he, hb⟩ | ⟨A, c, h0, rfl, ho, hb⟩
  · have hr : RR F R = [] := by unfold RR; rw [if_neg h0]
    rw [hr]
    exact ⟨none, 0, v, rfl, Own.nil _ _ _, he, hb⟩
  · have hr : RR F R = R := by unfold RR; rw [if_pos h0]
    rw [hr]
    exact ⟨A, c, .nilIface, rfl, ho, .inl ⟨h0, rfl⟩, hb⟩
theorem rOne {F : Vu.Flt} {R : List UInt8} {w : World} {e : Ending} {w' : World} (h : REncSaid F R w e w') :
    ∃ A c, e = .returned (.tuple #[.slice A (RR F R).length c, .agg #[.int .i64 F.1, .int .i64 F.2.1, .int .i64 F.2.2]]) ∧ Own w' w.heap.size 5 (.slice A (RR F R).length c) (RR F R) ∧ Below w.heap.size w w' := by
  obtain ⟨⟨h0, rfl⟩ | ⟨A, c, h0, rfl, ho⟩, hb⟩ := h
  · have hr : RR F R = [] := by unfold RR; rw [if_neg h0]
    rw [hr]
    exact ⟨none, 0, rfl, Own.nil _ _ _, hb⟩
  · have hr : RR F R = R := by unfold RR; rw [if_pos h0]
    rw [hr]
    exact ⟨A, c, rfl, ho, hb⟩
theorem rd_eight (w : World) (E : TypeId) : Rd (w.alloc (.cells #[.int .u8 221, .int .u8 221, .int .u8 221, .int .u8 221, .int .u8 221, .int .u8 221, .int .u8 221, .int .u8 221] E)) (.slice (some ⟨w.heap.size, 0, none⟩) 8 8) (List.replicate 8 221) :=
  Arr.rd (l := List.replicate 8 221) (Arr.new w E (List.replicate 8 221)) 0 8 8 (by simp) (by omega) (by simp [maxLen])
set_option maxHeartbeats 2000000 in
set_option maxRecDepth 100000 in
theorem walk {n m : Nat} {v nv dv pv : Value} {l : List Slot} {x : Vu.Va} (W : World) (h : RdS W n v l) (hx : Vu.RdV W m nv dv pv x) (hT : Vh.TabU W) (hE : Et W) :
    Calls Tryz.prog 4 #[v, .agg #[nv, dv, pv]] W fun e w' => e = .returned (.bool true) ∧ Below W.heap.size W w' := by
  obtain ⟨A, c, rfl, -⟩ := h.slice
  have hxx := hx
  obtain ⟨hnum, rfl, hdv, hpv⟩ := hx
  obtain ⟨Ad, cd, rfl, -⟩ := hdv
  obtain ⟨Ap, cp, rfl, -⟩ := hpv.slice
  clear hpv
  obtain ⟨w1, hw1⟩ : ∃ y, y = W.alloc (.cells #[.int .u64 x.num, .slice Ad x.data.length cd, .slice Ap x.parts.length cp] 27) := ⟨_, rfl⟩
  have hb1 : Below W.heap.size W w1 := by rw [hw1]; exact vb _
  have hv1 : hp w1 W.heap.size = some (.cells #[.int .u64 x.num, .slice Ad x.data.length cd, .slice Ap x.parts.length cp] 27 (0, 0)) := by rw [hw1]; exact hp_alloc_at _ _ rfl
  have hvc := fun i => hp_cell hv1 i
  have H1 := h.below hb1
  have BG := Lib.hid (big w1 H1)
  have BV := Lib.hid (fun w2 (h2 : Below W.heap.size W w2) => Vk.big w2 hxx h2)
  have HB1 := Lib.hid hb1; have HV1 := Lib.hid hv1; have HXX := Lib.hid hxx; have HT := Lib.hid hT; have HE := Lib.hid hE; have HH1 := Lib.hid H1
  clear hb1 hv1 hxx hT hE H1 h
  by_cases hbig : sl n l 10000 < 0
  · have hd : decide (sl n l 10000 < 0) = true := decide_eq_true hbig
    rw [hd] at BG
    clear hbig hd
    go_enter Tryz.func4, Tryz.ntmps4
    go_wp2_with (go_at_call 9999)
    rw [← hw1]
    clear hw1
    go_at_call 5
    refine BG.out.mono ?_
    rintro e w2 ⟨rfl, rfl⟩
    go_wp2_with fail
    go_ret
    exact ⟨rfl, HB1.out⟩
  · have hd : decide (sl n l 10000 < 0) = false := decide_eq_false hbig
    rw [hd] at BG
    have hfew : Few n l := Hs.few_of n l 10000 (by omega) (by omega)
    clear hbig hd
    have HFEW := Lib.hid hfew; clear hfew
    by_cases hvb : vl (m + 1) x 10000 < 0
    · have hd : decide (vl (m + 1) x 10000 < 0) = true := decide_eq_true hvb
      rw [hd] at BV
      clear hvb hd
      go_enter Tryz.func4, Tryz.ntmps4
      go_wp2_with (go_at_call 9999)
      rw [← hw1]
      clear hw1
      go_at_call 5
      refine BG.out.mono ?_
      rintro e w2 ⟨rfl, rfl⟩
      go_wp2_with (go_at_call 9999)
      go_at_call 6
      refine (BV.out _ HB1.out).mono ?_
      rintro e w2 ⟨rfl, b2⟩
      have B2 := Lib.hid (HB1.out.trans (b2.mono HB1.out.size)); clear b2
      go_wp2_with fail
      go_ret
      exact ⟨rfl, B2.out⟩
    · have hd : decide (vl (m + 1) x 10000 < 0) = false := decide_eq_false hvb
      rw [hd] at BV
      have hlv : lv (m + 1) x := fun y hy => RdP.lv m _ _ HXX.out.2.2.2 y hy
      have hfv : FewV (m + 1) x := Vo.few_of (m + 1) x 10000 hlv (by omega) (by omega)
      have HFV := Lib.hid hfv
      clear hvb hd hlv hfv
      go_enter Tryz.func4, Tryz.ntmps4
      go_wp2_with (go_at_call 9999)
      rw [← hw1]
      clear hw1
      go_at_call 5
      refine BG.out.mono ?_
      rintro e w2 ⟨rfl, rfl⟩
      go_wp2_with (go_at_call 9999)
      go_at_call 6
      refine (BV.out _ HB1.out).mono ?_
      rintro e w2 ⟨rfl, b2⟩
      have B2 := Lib.hid b2; have BW2 := Lib.hid (HB1.out.trans (b2.mono HB1.out.size)); clear b2
      clear hvc
      by_cases hval : _root_.Go.Proofs.YtpfckpaokoifhaaGreatDoor.Sc.valid n l = 0
      · obtain ⟨-, -, hok, -⟩ := spans_eq hval
        have h7 := rds_ok 6 n _ l hok (HH1.out.below B2.out)
        have md := made w2 h7 (few_ok 6 l hok)
        have MD := Lib.hid md; have HOK := Lib.hid hok; clear md h7 hok hval
        go_wp2_with (go_at_call 9999)
        go_at_call 7
        refine MD.out.mono ?_
        rintro e w3 ⟨⟨-, rfl⟩ | ⟨hv7, cc, r, rfl, hcd, hrc⟩, hb3⟩
        · have B3 := Lib.hid (BW2.out.trans (hb3.mono BW2.out.size)); clear hb3
          go_wp2_with fail
          go_ret
          exact ⟨rfl, B3.out⟩
        · have B3 := Lib.hid (BW2.out.trans (hb3.mono BW2.out.size))
          have hv3 := below_hp (below_hp HV1.out B2.out) hb3
          have hvc3 := fun i => hp_cell hv3 i
          have hhv := handValue m _ _ _ x W w3 HXX.out HFV.out B3.out
          have HHV := Lib.hid hhv; have HV3 := Lib.hid hv3; have HCD := Lib.hid hcd; have HRC := Lib.hid hrc
          clear hb3 hv3 hhv hcd hrc hv7
          unfold ptr at *
          go_wp2_with (go_at_call 9999)
          go_at_call 8
          refine HHV.out.mono ?_
          rintro _ w4 ⟨nv4, dv4, pv4, rfl, hh4, b4⟩
          have hin4 : ∃ bd bp, nv4 = .int .u64 x.num ∧ dv4 = .slice (some ⟨bd, 0, none⟩) x.data.length (x.data.length + 3) ∧ pv4 = .slice (some ⟨bp, 0, none⟩) x.parts.length (x.parts.length + 3) := by
            obtain ⟨-, e1, ⟨bd, e2, -⟩, h4⟩ := hh4
            obtain ⟨bp, e3, -⟩ := h4.slice
            exact ⟨bd, bp, e1, e2, e3⟩
          obtain ⟨bd, bp, rfl, rfl, rfl⟩ := hin4
          obtain ⟨w5, hw5⟩ : ∃ y, y = w4.alloc (.cells #[.int .u64 x.num, .slice (some ⟨bd, 0, none⟩) x.data.length (x.data.length + 3), .slice (some ⟨bp, 0, none⟩) x.parts.length (x.parts.length + 3)] 27) := ⟨_, rfl⟩
          have hb45 : Below w4.heap.size w4 w5 := by rw [hw5]; exact vb _
          have hin5 : hp w5 w4.heap.size = some (.cells #[.int .u64 x.num, .slice (some ⟨bd, 0, none⟩) x.data.length (x.data.length + 3), .slice (some ⟨bp, 0, none⟩) x.parts.length (x.parts.length + 3)] 27 (0, 0)) := by rw [hw5]; exact hp_alloc_at _ _ rfl
          have hv5 := below_hp (below_hp HV3.out b4) hb45
          have hb35 := b4.trans (hb45.mono b4.size)
          have hb05 := B3.out.trans (hb35.mono B3.out.size)
          have hcd5 := HCD.out.below hb35
          have hrc5 := Rc.keep (S' := Bt w2 w3) (fun _ h => h) (fun q hq hlt => hb35.block q hlt) HRC.out
          have hw45 := hh4.below hb45
          have hrd5 := hw45.rd HFV.out
          obtain ⟨F, hF⟩ : ∃ F, F = Vu.chk Vh.pF Lib.validD 7 l x 1 := ⟨_, rfl⟩
          obtain ⟨R, hR⟩ : ∃ R, R = RR F (encW 7 l x) := ⟨_, rfl⟩
          have hRl : R.length ≤ 4194304 := by rw [hR]; exact rr_len F 7 l x
          have hpe : ∀ w6, Below w5.heap.size w5 w6 → Calls Tryz.prog 13 #[.pointer (some ⟨cc, 0, none⟩), .agg #[.int .u64 x.num, .slice (some ⟨bd, 0, none⟩) x.data.length (x.data.length + 3), .slice (some ⟨bp, 0, none⟩) x.parts.length (x.parts.length + 3)]] w6 fun e w' => ∃ A c v, e = .returned (.tuple #[.slice A R.length c, v]) ∧ Own w' w6.heap.size 5 (.slice A R.length c) R ∧ Vj.ErrOf F w6.heap.size v w' ∧ Below w6.heap.size w6 w' := fun w6 h6 => by
            rw [hR, hF]
            exact (pEnc _ cc m 6 7 l _ _ _ x w6 (hcd5.below h6) HOK.out (hrd5.below h6) HFV.out (HT.out.below (hb05.trans (h6.mono hb05.size))) (by omega)).mono fun e w' h => pOne h
          have hre : ∀ w6, Below w5.heap.size w5 w6 → Calls Tryz.prog 14 #[.pointer (some ⟨r, 0, none⟩), .agg #[.int .u64 x.num, .slice Ad x.data.length cd, .slice Ap x.parts.length cp]] w6 fun e w' => ∃ A c, e = .returned (.tuple #[.slice A R.length c, .agg #[.int .i64 F.1, .int .i64 F.2.1, .int .i64 F.2.2]]) ∧ Own w' w6.heap.size 5 (.slice A R.length c) R ∧ Below w6.heap.size w6 w' := fun w6 h6 => by
            rw [hR, hF]
            exact (rEnc (m := m) (Rc.keep (S' := Bt w2 w3) (fun _ h => h) (fun q hq hlt => h6.block q hlt) hrc5) HOK.out (by omega) (HXX.out.below (hb05.trans (h6.mono hb05.size))) HFV.out).mono fun e w' h => rOne h
          have hlef : ∀ w6, Below w5.heap.size w5 w6 → Calls Tryz.prog 12 #[.agg #[.int .u64 x.num, .slice (some ⟨bd, 0, none⟩) x.data.length (x.data.length + 3), .slice (some ⟨bp, 0, none⟩) x.parts.length (x.parts.length + 3)], .agg #[.int .u64 x.num, .slice Ad x.data.length cd, .slice Ap x.parts.length cp]] w6 fun e w' => e = .returned (.bool true) ∧ Below w6.heap.size w6 w' := fun w6 h6 =>
            Lv.leftValue m w3.heap.size _ _ _ _ _ _ x W w6 HXX.out (hw45.below h6) HFV.out (hb05.trans (h6.mono hb05.size))
          obtain ⟨F1, F2, F3⟩ := F
          have hfau := fun v base w6 (hh : Vj.ErrOf (F1, F2, F3) base v w6) (h6 : Below w5.heap.size w5 w6) => Ck.faulty (F1, F2, F3) base v w6 hh (HE.out.below (hb05.trans (h6.mono hb05.size)))
          have hic5 := fun i => hp_cell hin5 i
          have HPE := Lib.hid hpe; have HRE := Lib.hid hre; have HLEF := Lib.hid hlef; have HFAU := Lib.hid hfau; have HV5 := Lib.hid hv5; have HI5 := Lib.hid hin5; have HB5 := Lib.hid hb05; have HRL := Lib.hid hRl
          have hne1 : ¬ W.heap.size = w4.heap.size := by have := HV3.out; have h := (Array.getElem?_eq_some_iff.1 this).1; have := b4.size; omega
          have hne2 : ¬ w4.heap.size = W.heap.size := fun h => hne1 h.symm
          clear hpe hre hlef hfau hv5 hin5 hb05 hcd5 hrc5 hw45 hrd5 hb35 hb45 hh4 b4 hF hR hRl hvc3
          go_wp2_with (go_at_call 9999)
          rw [← hw5]
          clear hw5
          clear HXX HT HE HH1 HFEW HFV MD HOK HHV HV3 HCD HRC BG BV HB1 HV1
          go_at_call 13
          refine (HPE.out w5 (Below.refl _ _)).mono ?_
          rintro _ w6 ⟨A6, c6, v6, rfl, ho6, he6, b6⟩
          have hi6 := fun i => hp_cell (below_hp HI5.out b6) i
          have HB6 := Lib.hid b6; have HO6 := Lib.hid ho6; have HE6 := Lib.hid he6
          clear ho6 he6 b6 hic5
          go_wp2_with (go_at_call 9999)
          go_at_call 13
          refine (HPE.out w6 HB6.out).mono ?_
          rintro _ w7 ⟨A7, c7, v7, rfl, ho7, he7, b7⟩
          have B7 := Lib.hid b7; have hb7 := HB6.out.trans (b7.mono HB6.out.size); have HB7 := Lib.hid hb7
          have hv7 := fun i => hp_cell (below_hp HV5.out hb7) i
          have HO7 := Lib.hid ho7; have HE7 := Lib.hid he7
          clear ho7 he7 b7 hb7 hi6
          go_wp2_with (go_at_call 9999)
          go_at_call 14
          refine (HRE.out w7 HB7.out).mono ?_
          rintro _ w8 ⟨A8, c8, rfl, ho8, b8⟩
          obtain ⟨w9, hw9⟩ : ∃ y, y = w8.alloc (.cells #[.int .i64 F1, .int .i64 F2, .int .i64 F3] 41) := ⟨_, rfl⟩
          have hb9 : Below w8.heap.size w8 w9 := by rw [hw9]; exact Ck.vb _
          have hf9 : hp w9 w8.heap.size = some (.cells #[.int .i64 F1, .int .i64 F2, .int .i64 F3] 41 (0, 0)) := by rw [hw9]; exact hp_alloc_at _ _ rfl
          have hfc9 := fun i => hp_cell hf9 i
          have B9 := Lib.hid (b8.trans (hb9.mono b8.size)); have hb59 := HB7.out.trans (B9.out.mono HB7.out.size); have HB9 := Lib.hid hb59
          have HO9 := Lib.hid (ho8.below hb9); have HF9 := Lib.hid hf9
          clear ho8 b8 hb9 hf9 hb59 hv7
          go_wp2_with (go_at_call 9999)
          rw [← hw9]
          clear hw9
          go_at_call 9
          have hs69 : w6.heap.size ≤ w9.heap.size := Nat.le_trans B7.out.size B9.out.size
          have he69 : Vj.ErrOf (F1, F2, F3) w5.heap.size v6 w9 := Ck.errOf_below HE6.out (B7.out.trans (B9.out.mono B7.out.size))
          have he79 : Vj.ErrOf (F1, F2, F3) w6.heap.size v7 w9 := Ck.errOf_below HE7.out B9.out
          have HE69 := Lib.hid he69; have HE79 := Lib.hid he79
          clear he69 he79 hs69
          refine (HFAU.out _ _ _ HE69.out HB9.out).mono ?_
          rintro _ w10 ⟨rfl, b10⟩
          have B10 := Lib.hid b10; have HB10 := Lib.hid (HB9.out.trans (b10.mono HB9.out.size))
          have hfc10 := fun i => hp_cell (below_hp HF9.out b10) i
          clear b10 hfc9
          go_wp2_with (go_at_call 9999)
          go_at_call 9
          refine (HFAU.out _ _ _ (Ck.errOf_below HE79.out B10.out) HB10.out).mono ?_
          rintro _ w11 ⟨rfl, b11⟩
          have B11 := Lib.hid (B10.out.trans (b11.mono B10.out.size)); have HB11 := Lib.hid (HB10.out.trans (b11.mono HB10.out.size))
          have hi11 := fun i => hp_cell (below_hp HI5.out HB11.out) i
          have hv11 := fun i => hp_cell (below_hp HV5.out HB11.out) i
          have ho6 : Own w11 w5.heap.size 5 (.slice A6 R.length c6) R := HO6.out.below (B7.out.trans ((B9.out.trans (B11.out.mono B9.out.size)).mono B7.out.size))
          have ho7 : Own w11 w6.heap.size 5 (.slice A7 R.length c7) R := HO7.out.below (B9.out.trans (B11.out.mono B9.out.size))
          have ho8 : Own w11 w7.heap.size 5 (.slice A8 R.length c8) R := HO9.out.below B11.out
          have hq6 := run_str Nm.u8 Tryz.underlying5 Tryz.underlying9 ho6.rd
          have hq7 := run_str Nm.u8 Tryz.underlying5 Tryz.underlying9 ho7.rd
          have hq8 := run_str Nm.u8 Tryz.underlying5 Tryz.underlying9 ho8.rd
          have HO6' := Lib.hid ho6; have HO7' := Lib.hid ho7; have HO8' := Lib.hid ho8
          clear ho6 ho7 ho8 b11 hfc10
          go_wp2_with (go_at_call 9999)
          go_at_call 12
          refine (HLEF.out w11 HB11.out).mono ?_
          rintro _ w12 ⟨rfl, b12⟩
          have B12 := Lib.hid b12; have HB12 := Lib.hid (HB11.out.trans (b12.mono HB11.out.size))
          have hO6 := HO6'.out.below b12; have HO7'' := Lib.hid (HO7'.out.below b12); have HO8'' := Lib.hid (HO8'.out.below b12)
          have hi12 := fun i => hp_cell (below_hp HI5.out HB12.out) i
          have hv12 := fun i => hp_cell (below_hp HV5.out HB12.out) i
          have HO6'' := Lib.hid hO6
          clear b12 hq6 hq7 hq8 hi11 hv11 hO6
          go_wp2_with fail
          clear hi12 hv12
          go_loopw [15] (fun s wr => ∃ (i : Nat) (acc : List UInt8), i ≤ R.length ∧ s = .int .i64 i ∧ acc.length = R.length ∧ Own wr w5.heap.size 5 (.slice A6 R.length c6) acc ∧ Chg (fun k => (Value.slice A6 R.length c6).ownBlock = some k) w12 wr) (fun s _ => R.length - (intOf s).toNat)
          case atStart => exact ⟨0, R, by omega, rfl, rfl, HO6''.out, Chg.refl _ _⟩
          case round =>
            obtain ⟨i, acc, hi, rfl, hal, hacc, hchg⟩ := hrel
            have hrl := HRL.out
            by_cases hiR : i < R.length
            · obtain ⟨g6, rfl⟩ : ∃ g, A6 = some ⟨g, 0, none⟩ := by
                rcases hacc.shape with ⟨e, e2⟩ | ⟨g, c, e, -⟩
                · rw [e2] at hal; simp at hal; omega
                · simp only [Value.slice.injEq] at e; exact ⟨g, e.1⟩
              have hcell : ∃ u, wr.cell? ⟨g6, i, none⟩ = some u := ⟨_, hacc.cellAt i (by omega)⟩
              obtain ⟨u0, hcell⟩ := hcell
              have hfr := hacc.frozen i
              have HST := Lib.hid (hacc.set i 238 (y := 238) (by decide))
              have HCH := Lib.hid (hchg.trans ((Chg.store wr ⟨g6, i, none⟩ (.int .u8 238)).mono (S' := fun k => (Value.slice (some ⟨g6, 0, none⟩) R.length c6).ownBlock = some k) (fun k _ e => by simp [Value.ownBlock]; exact e.symm)))
              have HAL := Lib.hid hal; have HIR := Lib.hid hiR
              clear hacc hchg hal
              go_wp2_with fail
              go_roundw
              case rel => exact ⟨i + 1, acc.set i 238, by have := HIR.out; omega, by go_num, by simpa using HAL.out, HST.out, HCH.out⟩
              case measure => have := HIR.out; simp [intOf]; omega
            · obtain rfl : i = R.length := by omega
              have HACC := Lib.hid hacc; have HCHG := Lib.hid hchg; have HAL := Lib.hid hal
              clear hacc hchg hal
              go_wp2_with (first
                | (at_builtin; refine wp_app (.tmp 94) (.tmp 95) Nm.u8 rfl rfl rfl rfl (HACC.out.alloc _) (rd_eight wr 5) (by have := HB12.out.size; have := HCHG.out.size; simp; omega) (by have := HRL.out; rw [HAL.out]; simp; omega) ?_; intro v14 w14 ho14 hg14 hc14; have hch14 := (HCHG.out.alloc (.cells #[.int .u8 221, .int .u8 221, .int .u8 221, .int .u8 221, .int .u8 221, .int .u8 221, .int .u8 221, .int .u8 221] 5)).trans (Chg.grown hg14); have HB14 := Lib.hid (hch14.below HB12.out (fun k hk => (HO6.out.lt k hk).1) HB12.out.size); have hp7 : Own w14 w6.heap.size 5 (.slice A7 R.length c7) R := HO7''.out.chg hch14 (fun k e1 e2 => by have h1 := (HO7''.out.lt k e1).1; have h2 := (HO6.out.lt k e2).2; omega); have hp8 : Own w14 w7.heap.size 5 (.slice A8 R.length c8) R := HO8''.out.chg hch14 (fun k e1 e2 => by have h1 := (HO8''.out.lt k e1).1; have h2 := (HO6.out.lt k e2).2; have h3 := B7.out.size; omega); have hq7 := run_str Nm.u8 Tryz.underlying5 Tryz.underlying9 hp7.rd; have hq8 := run_str Nm.u8 Tryz.underlying5 Tryz.underlying9 hp8.rd; have hi14 := fun i => hp_cell (below_hp HI5.out HB14.out) i; have hv14 := fun i => hp_cell (below_hp HV5.out HB14.out) i; clear ho14 hg14 hc14 hch14 hp7 hp8)
                | (go_at_call 12; refine (HLEF.out _ HB14.out).mono ?_; rintro _ w15 ⟨rfl, b15⟩; have HB15 := Lib.hid (HB14.out.trans (b15.mono HB14.out.size)); clear b15))
              go_ret
              exact ⟨rfl, HB5.out.trans (HB15.out.mono HB5.out.size)⟩
      · have md := made w2 (HH1.out.below B2.out) HFEW.out
        have MD := Lib.hid md; have HVAL := Lib.hid hval; clear md hval
        go_wp2_with (go_at_call 9999)
        go_at_call 7
        refine MD.out.mono ?_
        rintro e w3 ⟨⟨-, rfl⟩ | ⟨hv, -⟩, hb3⟩
        · have B3 := Lib.hid (BW2.out.trans (hb3.mono BW2.out.size)); clear hb3
          go_wp2_with fail
          go_ret
          exact ⟨rfl, B3.out⟩
        · exact absurd hv HVAL.out
end Go.Proofs.YtpfckpaokoifhaaGreatDoor.Ez
