/- The law SchemaBack, walked. -/
import Derived.Test.YtinngljphjdpoaaDoorJLi
import Derived.Test.YtinngljphjdpoaaDoorJYk
import Derived.Test.YtinngljphjdpoaaDoorJRa
namespace Go.Proofs.YtinngljphjdpoaaDoor.Wb
open Go Go.RowKit Go.Proofs.YtinngljphjdpoaaDoor.Pa Go.Proofs.YtinngljphjdpoaaDoor.Pb Go.Proofs.YtinngljphjdpoaaDoor.Pc Go.Proofs.YtinngljphjdpoaaDoor.Pf Go.Proofs.YtinngljphjdpoaaDoor.Sc Go.Proofs.YtinngljphjdpoaaDoor.Rs Go.Proofs.YtinngljphjdpoaaDoor.Sl Go.Proofs.YtinngljphjdpoaaDoor.Hs Go.Proofs.YtinngljphjdpoaaDoor.Vu Go.Proofs.YtinngljphjdpoaaDoor.Vo Go.Proofs.YtinngljphjdpoaaDoor.Ca Go.Proofs.YtinngljphjdpoaaDoor.Cm Go.Proofs.YtinngljphjdpoaaDoor.Ra Go.Proofs.YtinngljphjdpoaaDoor.Ea Go.Proofs.YtinngljphjdpoaaDoor.Hx Go.Proofs.YtinngljphjdpoaaDoor.Ow Go.Proofs.YtinngljphjdpoaaDoor.Es Go.Proofs.YtinngljphjdpoaaDoor.Yk Go.Proofs.YtinngljphjdpoaaDoor.Yb
set_option linter.unusedVariables false
set_option linter.unusedSimpArgs false
set_option maxHeartbeats 2000000 in
set_option maxRecDepth 100000 in
theorem walk {n m : Nat} {v nv dv pv : Value} {l : List Slot} {x : Vu.Va} (W : World) (h : RdS W n v l) (hx : Vu.RdV W m nv dv pv x) (hT : Vh.TabU W) :
    Calls Tryd.prog 3 #[v, .agg #[nv, dv, pv]] W fun e w' => e = .returned (.bool true) ∧ Below W.heap.size W w' := by
  obtain ⟨A, c0, rfl, -⟩ := h.slice
  have hxx := hx
  obtain ⟨hnum, rfl, hdv, hpv⟩ := hx
  obtain ⟨Ad, cd, rfl, -⟩ := hdv
  obtain ⟨Ap, cp, rfl, -⟩ := hpv.slice
  clear hpv
  obtain ⟨w1, hw1⟩ : ∃ y, y = W.alloc (.cells #[.int .u64 x.num, .slice Ad x.data.length cd, .slice Ap x.parts.length cp] 27) := ⟨_, rfl⟩
  have hb1 : Below W.heap.size W w1 := by rw [hw1]; exact vb _ _
  have hv1 : Pa.hp w1 W.heap.size = some (.cells #[.int .u64 x.num, .slice Ad x.data.length cd, .slice Ap x.parts.length cp] 27 (0, 0)) := by rw [hw1]; exact hp_alloc_at _ _ rfl
  have LIV := Lib.hid (fun w' (h' : Below W.heap.size W w') => Li.lives w' (hT.below h'))
  have BG := Lib.hid (fun w' (h' : Below W.heap.size W w') => big w' (h.below h'))
  have BV := Lib.hid (fun w' (h' : Below W.heap.size W w') => Vk.big w' hxx h')
  have COMP := Lib.hid (fun w' (h' : Below W.heap.size W w') => comp w' (h.below h'))
  have HB1 := Lib.hid hb1; have HV1 := Lib.hid hv1; have HXX := Lib.hid hxx; have HT := Lib.hid hT
  clear hb1 hv1 hxx hT h
  go_enter Tryd.func3, Tryd.ntmps3
  go_wp2_with (go_at_call 9999)
  rw [← hw1]
  clear hw1
  go_at_call 11
  refine (LIV.out _ HB1.out).mono ?_
  rintro _ w2 ⟨rfl, b2⟩
  have HB2 := Lib.hid (HB1.out.trans (b2.mono HB1.out.size)); have HV2 := Lib.hid (below_hp HV1.out b2)
  have hc2 := fun i => hp_cell HV2.out i
  clear b2 HB1 HV1
  go_wp2_with (go_at_call 9999)
  go_at_call 12
  refine (BG.out _ HB2.out).mono ?_
  rintro _ w3 ⟨he, rfl⟩
  by_cases hbig : sl n l 10000 < 0
  · rw [decide_eq_true hbig] at he
    subst he
    clear hbig hc2
    go_wp2_with (go_at_call 9999)
    go_at_call 11
    refine (LIV.out _ HB2.out).mono ?_
    rintro _ w4 ⟨rfl, b4⟩
    have HB4 := Lib.hid (HB2.out.trans (b4.mono HB2.out.size)); clear b4
    go_wp2_with fail
    go_ret
    exact ⟨rfl, HB4.out⟩
  rw [decide_eq_false hbig] at he
  subst he
  clear hbig
  go_wp2_with (go_at_call 9999)
  go_at_call 13
  refine (BV.out _ HB2.out).mono ?_
  rintro _ w4 ⟨he, b4⟩
  have HB4 := Lib.hid (HB2.out.trans (b4.mono HB2.out.size)); have HV4 := Lib.hid (below_hp HV2.out b4)
  clear b4 hc2 HB2 HV2
  by_cases hbig : vl (m + 1) x 10000 < 0
  · rw [decide_eq_true hbig] at he
    subst he
    clear hbig
    go_wp2_with (go_at_call 9999)
    go_at_call 11
    refine (LIV.out _ HB4.out).mono ?_
    rintro _ w5 ⟨rfl, b5⟩
    have HB5 := Lib.hid (HB4.out.trans (b5.mono HB4.out.size)); clear b5
    go_wp2_with fail
    go_ret
    exact ⟨rfl, HB5.out⟩
  rw [decide_eq_false hbig] at he
  subst he
  have hlv : lv (m + 1) x := fun y hy => RdP.lv m _ _ HXX.out.2.2.2 y hy
  have HFV := Lib.hid (Vo.few_of (m + 1) x 10000 hlv (by omega) (by omega))
  clear hbig hlv
  go_wp2_with (go_at_call 9999)
  go_at_call 14
  refine (COMP.out _ HB4.out).mono ?_
  rintro _ w5 ⟨⟨z, hz, rfl⟩ | ⟨c, rfl, ⟨S, hcd⟩, hgood⟩, b5⟩
  · have HB5 := Lib.hid (HB4.out.trans (b5.mono HB4.out.size)); clear b5
    go_wp2_with fail
    go_ret
    exact ⟨rfl, HB5.out⟩
  have HB5 := Lib.hid (HB4.out.trans (b5.mono HB4.out.size)); have HV5 := Lib.hid (below_hp HV4.out b5)
  have hc5 := fun i => hp_cell HV5.out i
  have HCD := Lib.hid hcd; have HG := Lib.hid hgood
  clear b5 hcd hgood HB4 HV4
  obtain ⟨F, hF⟩ : ∃ F, F = Vu.chk Vh.pF Lib.validD 7 l x 1 := ⟨_, rfl⟩
  obtain ⟨R, hR⟩ : ∃ R, R = encW 7 l x := ⟨_, rfl⟩
  have enc := Ey.pEnc S c m 6 7 l _ _ _ x w5 HCD.out HG.out.ok (HXX.out.below HB5.out) HFV.out (HT.out.below HB5.out) (by decide)
  rw [← hF, ← hR] at enc
  have chk := fun w' (h' : Below w5.heap.size w5 w') => Vj.pCheck Lib.validD Uv.utf S c m 7 l _ _ _ x w' (HCD.out.below h') (HXX.out.below (HB5.out.trans (h'.mono HB5.out.size))) (HT.out.below (HB5.out.trans (h'.mono HB5.out.size))) (by decide)
  rw [← hF] at chk
  have ENC := Lib.hid enc; have CHK := Lib.hid chk; have HF := Lib.hid hF; have HR := Lib.hid hR
  clear enc chk hF hR
  unfold ptr at CHK
  go_wp2_with (go_at_call 9999)
  go_at_call 15
  refine ENC.out.mono ?_
  rintro _ w6 (⟨v6, h0, rfl, he6, b6⟩ | ⟨A6, c6, h0, rfl, ho6, b6⟩)
  · obtain ⟨k6, rfl⟩ : ∃ k, v6 = .iface 92 (.pointer (some ⟨k, 0, none⟩)) := by
      rcases he6 with ⟨h, -⟩ | ⟨-, k, -, h, -⟩
      · exact absurd h h0
      · exact ⟨k, h⟩
    have HV6 := Lib.hid (below_hp HV5.out b6); have B6 := Lib.hid b6; have H0 := Lib.hid h0
    have hc6 := fun i => hp_cell HV6.out i
    clear b6 he6 hc5 h0
    go_wp2_with (go_at_call 9999)
    go_at_call 16
    refine (CHK.out w6 B6.out).mono ?_
    rintro _ w7 ⟨v7, rfl, he7, b7⟩
    obtain ⟨k7, rfl⟩ : ∃ k, v7 = .iface 92 (.pointer (some ⟨k, 0, none⟩)) := by
      rcases he7 with ⟨h, -⟩ | ⟨-, k, -, h, -⟩
      · exact absurd h H0.out
      · exact ⟨k, h⟩
    have B7 := Lib.hid (B6.out.trans (b7.mono B6.out.size))
    clear b7 he7 hc6
    go_wp2_with fail
    go_ret
    exact ⟨rfl, HB5.out.trans (B7.out.mono HB5.out.size)⟩
  have HV6 := Lib.hid (below_hp HV5.out b6); have B6 := Lib.hid b6
  have hc6 := fun i => hp_cell HV6.out i
  have hk1 : (Vu.chk Vh.pF Lib.validD 7 l x 1).2.2 = 0 := HF.out ▸ h0
  obtain ⟨hr1, hr2, hback⟩ := Yc.back Lib.validD 7 l x 1 (m + 1) HG.out.sch HG.out.room hk1 (Yg.num_of HXX.out)
  rw [← HR.out] at hr1 hr2 hback
  have hroom := HG.out.room
  have dec := fun w' (h' : Below w6.heap.size w6 w') => De.pDec Lib.validD Uv.utf S c 6 7 l _ R w' (HCD.out.below (B6.out.trans (h'.mono B6.out.size))) (ho6.below h').rd HG.out.ok (HT.out.below (HB5.out.trans ((B6.out.trans (h'.mono B6.out.size)).mono HB5.out.size))) (by omega)
  rw [hback] at dec
  have rng := fun w' (h' : Below w5.heap.size w5 w') => Ra.pRange (HCD.out.below h')
  rw [HG.out.least, HG.out.most] at rng
  obtain ⟨a, ha⟩ : ∃ a, a = (exSpan 7 l).1 := ⟨_, rfl⟩
  obtain ⟨b, hb⟩ : ∃ b, b = (exSpan 7 l).2 := ⟨_, rfl⟩
  rw [← ha] at hr1 rng
  rw [← hb] at hr2 rng hroom
  have DEC := Lib.hid dec; have RNG := Lib.hid rng; have H0 := Lib.hid h0
  have hi1 : (a : Int) ≤ (R.length : Int) := by omega
  have hi2 : (R.length : Int) ≤ (b : Int) := by omega
  have hi3 : (b : Int) ≤ 4194304 := by omega
  clear b6 ho6 hc5 h0 hk1 hback dec rng ha hb hr1 hr2 hroom
  unfold ptr at RNG
  go_wp2_with (go_at_call 9999)
  go_at_call 16
  refine (CHK.out w6 B6.out).mono ?_
  rintro _ w7 ⟨v7, rfl, he7, b7⟩
  obtain rfl : v7 = .nilIface := by
    rcases he7 with ⟨-, h⟩ | ⟨h, -⟩
    · exact h
    · exact absurd H0.out h
  have HV7 := Lib.hid (below_hp HV6.out b7); have B7 := Lib.hid b7
  have hc7 := fun i => hp_cell HV7.out i
  clear b7 he7 hc6
  go_wp2_with (go_at_call 9999)
  go_at_call 17
  refine (DEC.out w7 B7.out).mono ?_
  rintro _ w8 ⟨⟨h0, -⟩ | ⟨-, nv8, dv8, pv8, rfl, ho8⟩, b8⟩
  · exact absurd rfl h0
  have HR8 := Lib.hid ho8.rd
  obtain ⟨-, rfl, x3, x4⟩ := ho8
  obtain ⟨A8, c8, rfl⟩ := x3.slice
  obtain ⟨A9, c9, -, -, -, e2', -⟩ := id x4
  subst e2'
  obtain ⟨w9, hw9⟩ : ∃ y, y = w8.alloc (.cells #[.int .u64 (x.num : Int), .slice A8 x.data.length c8, .slice A9 x.parts.length c9] 27) := ⟨_, rfl⟩
  have hb9 : Below w8.heap.size w8 w9 := by rw [hw9]; exact vb _ _
  have hq9 : Pa.hp w9 w8.heap.size = some (.cells #[.int .u64 (x.num : Int), .slice A8 x.data.length c8, .slice A9 x.parts.length c9] 27 (0, 0)) := by rw [hw9]; exact hp_alloc_at _ _ rfl
  have h89 : Below w7.heap.size w7 w9 := b8.trans (hb9.mono b8.size)
  have HV9 := Lib.hid (below_hp HV7.out h89); have HQ9 := Lib.hid hq9
  have h69 : Below w6.heap.size w6 w9 := B7.out.trans (h89.mono B7.out.size)
  have B9 := Lib.hid (B6.out.trans (h69.mono B6.out.size)); have HR9 := Lib.hid (HR8.out.below hb9)
  clear b8 x3 x4 hb9 hq9 h89 h69 hc7
  go_upto_region 10 with fail
  rw [← hw9]
  clear hw9
  go_wp2_with (go_at_call 9999)
  go_at_call 18
  refine (RNG.out w9 B9.out).mono ?_
  rintro _ w10 ⟨rfl, b10⟩
  have B10 := Lib.hid (B9.out.trans (b10.mono B9.out.size))
  have hc10 := fun i => hp_cell (below_hp HV9.out b10) i
  have hq10 := fun i => hp_cell (below_hp HQ9.out b10) i
  have SAME := Lib.hid (Sm.same m (2 * 7 + 1) _ _ _ _ _ _ x x w10 (HXX.out.below (HB5.out.trans (B10.out.mono HB5.out.size))) (HR9.out.below b10) (Yg.pb_le (Nat.le_succ m) (Yg.pb_of (m + 1) x HFV.out)))
  clear b10
  go_wp2_with (go_at_call 9999)
  go_at_call 19
  refine SAME.out.mono ?_
  rintro _ w11 ⟨r, rfl, hr, b11⟩
  obtain rfl : r = true := hr.2 rfl
  have B11 := Lib.hid (B10.out.trans (b11.mono B10.out.size))
  clear hr b11 hc10 hq10
  go_wp2_with fail
  go_ret
  exact ⟨rfl, HB5.out.trans (B11.out.mono HB5.out.size)⟩
end Go.Proofs.YtinngljphjdpoaaDoor.Wb
