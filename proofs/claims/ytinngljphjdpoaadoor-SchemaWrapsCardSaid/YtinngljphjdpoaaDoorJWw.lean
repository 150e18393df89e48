/- The law SchemaWraps, walked. -/
import Derived.Test.YtinngljphjdpoaaDoorJLi
import Derived.Test.YtinngljphjdpoaaDoorJYp
import Derived.Test.YtinngljphjdpoaaDoorJRa
namespace Go.Proofs.YtinngljphjdpoaaDoor.Ww
open Go Go.RowKit Go.Proofs.YtinngljphjdpoaaDoor.Nz Go.Proofs.YtinngljphjdpoaaDoor.Pa Go.Proofs.YtinngljphjdpoaaDoor.Pb Go.Proofs.YtinngljphjdpoaaDoor.Pc Go.Proofs.YtinngljphjdpoaaDoor.Pf Go.Proofs.YtinngljphjdpoaaDoor.Sc Go.Proofs.YtinngljphjdpoaaDoor.Rs Go.Proofs.YtinngljphjdpoaaDoor.Sl Go.Proofs.YtinngljphjdpoaaDoor.Hs Go.Proofs.YtinngljphjdpoaaDoor.Vu Go.Proofs.YtinngljphjdpoaaDoor.Vo Go.Proofs.YtinngljphjdpoaaDoor.Ca Go.Proofs.YtinngljphjdpoaaDoor.Cm Go.Proofs.YtinngljphjdpoaaDoor.Ra Go.Proofs.YtinngljphjdpoaaDoor.Ea Go.Proofs.YtinngljphjdpoaaDoor.Hx Go.Proofs.YtinngljphjdpoaaDoor.Ow Go.Proofs.YtinngljphjdpoaaDoor.Es Go.Proofs.YtinngljphjdpoaaDoor.Rv Go.Proofs.YtinngljphjdpoaaDoor.Yk Go.Proofs.YtinngljphjdpoaaDoor.Yb Go.Proofs.YtinngljphjdpoaaDoor.Ce Go.Proofs.YtinngljphjdpoaaDoor.Yw Go.Proofs.YtinngljphjdpoaaDoor.Yp
set_option linter.unusedVariables false
set_option linter.unusedSimpArgs false
theorem cat_bytes (a b : List UInt8) : (⟨a.toArray⟩ : ByteArray) ++ ⟨b.toArray⟩ = ⟨(a ++ b).toArray⟩ := by
  apply ByteArray.ext
  simp
theorem wf8 (no : Int) (l : List Slot) (h : -9223372036854775808 ≤ no ∧ no ≤ 9223372036854775807) : WfS (w8 no l) := ⟨h.1, h.2, by simp [w8, Slot.kind], by simp [w8, Slot.kind], by simp [w8, Slot.least], by simp [w8, Slot.most]⟩
theorem wf9 (no : Int) (l : List Slot) (h : -9223372036854775808 ≤ no ∧ no ≤ 9223372036854775807) : WfS (w9 no l) := ⟨h.1, h.2, by simp [w9, Slot.kind], by simp [w9, Slot.kind], by simp [w9, Slot.least], by simp [w9, Slot.most]⟩
theorem no_in {no : Int} (h : (Lit.int .i64 no).wf = true) : -9223372036854775808 ≤ no ∧ no ≤ 9223372036854775807 := by
  have e1 : IntKind.i64.min = -9223372036854775808 := by decide
  have e2 : IntKind.i64.max = 9223372036854775807 := by decide
  simp [Lit.wf, e1, e2] at h
  exact h
theorem tight (c ll mm : Nat) (w : World) (hr : Calls Tryd.prog 18 #[.pointer (some ⟨c, 0, none⟩)] w fun e w' => e = .returned (.tuple #[.int .i64 ll, .int .i64 mm]) ∧ Below w.heap.size w w') (hm : 4194284 < mm) :
    Calls Tryd.prog 21 #[.pointer (some ⟨c, 0, none⟩)] w fun e w' => e = .returned (.bool true) ∧ Below w.heap.size w w' := by
  have HR := Lib.hid hr
  have hm' : (4194284 : Int) < (mm : Int) := by omega
  clear hr
  go_enter Tryd.func21, Tryd.ntmps21
  go_wp2_with (go_at_call 9999)
  go_at_call 18
  refine HR.out.mono ?_
  rintro _ w2 ⟨rfl, b2⟩
  have B2 := Lib.hid b2; clear b2
  go_wp2_with fail
  go_ret
  exact ⟨rfl, B2.out⟩
set_option maxHeartbeats 2000000 in
set_option maxRecDepth 100000 in
theorem walk {n m : Nat} {v nv dv pv : Value} {l : List Slot} {x : Vu.Va} (W : World) (h : RdS W n v l) (hx : Vu.RdV W m nv dv pv x) (no : Int) (hwf : (Lit.int .i64 no).wf = true) (hT : Vh.TabU W) :
    Calls Tryd.prog 7 #[v, .agg #[nv, dv, pv], .int .i64 no] W fun e w' => e = .returned (.bool true) ∧ Below W.heap.size W w' := by
  obtain ⟨A, c0, rfl, -⟩ := h.slice
  have hxx := hx
  obtain ⟨hnum, rfl, hdv, hpv⟩ := hx
  obtain ⟨Ad, cd, rfl, -⟩ := hdv
  obtain ⟨Ap, cp, rfl, -⟩ := hpv.slice
  clear hpv
  have HNO := Lib.hid (no_in hwf); have HSC := Lib.hid h
  clear hwf
  obtain ⟨w1, hw1⟩ : ∃ y, y = W.alloc (.cells #[.int .u64 x.num, .slice Ad x.data.length cd, .slice Ap x.parts.length cp] 27) := ⟨_, rfl⟩
  have hb1 : Below W.heap.size W w1 := by rw [hw1]; exact vb _ _
  have hv1 : Pa.hp w1 W.heap.size = some (.cells #[.int .u64 x.num, .slice Ad x.data.length cd, .slice Ap x.parts.length cp] 27 (0, 0)) := by rw [hw1]; exact hp_alloc_at _ _ rfl
  have LIV := Lib.hid (fun w' (h' : Below W.heap.size W w') => Li.lives w' (hT.below h'))
  have BG := Lib.hid (fun w' (h' : Below W.heap.size W w') => big w' (h.below h'))
  have BV := Lib.hid (fun w' (h' : Below W.heap.size W w') => Vk.big w' hxx h')
  have COMP := Lib.hid (fun w' (h' : Below W.heap.size W w') => comp w' (h.below h'))
  have HB1 := Lib.hid hb1; have HV1 := Lib.hid hv1; have HXX := Lib.hid hxx; have HT := Lib.hid hT
  clear hb1 hv1 hxx hT h
  go_enter Tryd.func7, Tryd.ntmps7
  go_wp2_with (go_at_call 9999)
  rw [← hw1]
  clear hw1
  go_at_call 11
  refine (LIV.out _ HB1.out).mono ?_
  rintro _ w2 ⟨rfl, b2⟩
  have HB2 := Lib.hid (HB1.out.trans (b2.mono HB1.out.size)); have HV2 := Lib.hid (below_hp HV1.out b2)
  have hc2 := fun i => hp_cell HV2.out i
  clear b2 HB1 HV1
  go_wp2_with (go_at_call 9999)
  go_at_call 12
  refine (BG.out _ HB2.out).mono ?_
  rintro _ w3 ⟨he, rfl⟩
  by_cases hbig : sl n l 10000 < 0
  · rw [decide_eq_true hbig] at he
    subst he
    clear hbig hc2
    go_wp2_with (go_at_call 9999)
    go_at_call 11
    refine (LIV.out _ HB2.out).mono ?_
    rintro _ w4 ⟨rfl, b4⟩
    have HB4 := Lib.hid (HB2.out.trans (b4.mono HB2.out.size)); clear b4
    go_wp2_with fail
    go_ret
    exact ⟨rfl, HB4.out⟩
  rw [decide_eq_false hbig] at he
  subst he
  clear hbig
  go_wp2_with (go_at_call 9999)
  go_at_call 13
  refine (BV.out _ HB2.out).mono ?_
  rintro _ w4 ⟨he, b4⟩
  have HB4 := Lib.hid (HB2.out.trans (b4.mono HB2.out.size)); have HV4 := Lib.hid (below_hp HV2.out b4)
  clear b4 hc2 HB2 HV2
  by_cases hbig : vl (m + 1) x 10000 < 0
  · rw [decide_eq_true hbig] at he
    subst he
    clear hbig
    go_wp2_with (go_at_call 9999)
    go_at_call 11
    refine (LIV.out _ HB4.out).mono ?_
    rintro _ w5 ⟨rfl, b5⟩
    have HB5 := Lib.hid (HB4.out.trans (b5.mono HB4.out.size)); clear b5
    go_wp2_with fail
    go_ret
    exact ⟨rfl, HB5.out⟩
  rw [decide_eq_false hbig] at he
  subst he
  have hlv : lv (m + 1) x := fun y hy => RdP.lv m _ _ HXX.out.2.2.2 y hy
  have HFV := Lib.hid (Vo.few_of (m + 1) x 10000 hlv (by omega) (by omega))
  clear hbig hlv
  go_wp2_with (go_at_call 9999)
  go_at_call 14
  refine (COMP.out _ HB4.out).mono ?_
  rintro _ w5 ⟨⟨z, hz, rfl⟩ | ⟨c, rfl, ⟨S, hcd⟩, hgood⟩, b5⟩
  · have HB5 := Lib.hid (HB4.out.trans (b5.mono HB4.out.size)); clear b5
    go_wp2_with fail
    go_ret
    exact ⟨rfl, HB5.out⟩
  have HB5 := Lib.hid (HB4.out.trans (b5.mono HB4.out.size)); have HV5 := Lib.hid (below_hp HV4.out b5)
  have hc5 := fun i => hp_cell HV5.out i
  have HCD := Lib.hid hcd; have HG := Lib.hid hgood
  clear b5 hcd hgood HB4 HV4
  have h7 := Ck.rds_ok 6 n _ l HG.out.ok (HSC.out.below HB5.out)
  have hnb := HNO.out
  have hwf8 : WfS (w8 no l) := wf8 no l hnb
  have hwf9 : WfS (w9 no l) := wf9 no l hnb
  obtain ⟨w6, hw6⟩ : ∃ y, y = w5.alloc (.cells #[.int .i64 no, .int .i64 8, .int .u64 0, .int .u64 0, .slice A l.length c0] 53) := ⟨_, rfl⟩
  have hb6 : Below w5.heap.size w5 w6 := by rw [hw6]; exact vb _ _
  have hg6 : Pa.hp w6 w5.heap.size = some (.cells #[.int .i64 no, .int .i64 8, .int .u64 0, .int .u64 0, .slice A l.length c0] 53 (0, 0)) := by rw [hw6]; exact hp_alloc_at _ _ rfl
  have C8 := Lib.hid (pCompile w6 (rds_one (w8 no l) hwf8 hg6 (h7.below hb6)))
  have H7 := Lib.hid h7; have HB6 := Lib.hid hb6; have HW9 := Lib.hid hwf9
  clear h7 hwf8 hwf9 hg6 hb6 hnb HSC hc5
  go_wp2_with (go_at_call 9999)
  rw [← hw6]
  clear hw6
  go_at_call 14
  refine C8.out.mono ?_
  intro e7 w7 he7
  have hb7 : Below w6.heap.size w6 w7 := he7.2
  have HB57 := Lib.hid (HB6.out.trans (hb7.mono HB6.out.size))
  obtain ⟨w8', hw8⟩ : ∃ y, y = w7.alloc (.cells #[.int .i64 no, .int .i64 9, .int .u64 1, .int .u64 1, .slice A l.length c0] 53) := ⟨_, rfl⟩
  have hb8 : Below w7.heap.size w7 w8' := by rw [hw8]; exact vb _ _
  have hg8 : Pa.hp w8' w7.heap.size = some (.cells #[.int .i64 no, .int .i64 9, .int .u64 1, .int .u64 1, .slice A l.length c0] 53 (0, 0)) := by rw [hw8]; exact hp_alloc_at _ _ rfl
  have h58 := HB57.out.trans (hb8.mono HB57.out.size)
  have C9 := Lib.hid (pCompile w8' (rds_one (w9 no l) HW9.out hg8 (H7.out.below h58)))
  have HB78 := Lib.hid hb8
  clear hb8 hg8 h58 hb7
  by_cases hin : 1 ≤ no ∧ no ≤ 536870911
  rotate_left
  · -- a number out of its range
    have hv8 := out_valid 8 (w8 no l) hin
    have hv9 := out_valid 8 (w9 no l) hin
    obtain ⟨he7 | he7, -⟩ := he7
    rotate_left
    · exact absurd (he7.1.symm.trans hv8) (by decide)
    obtain ⟨-, rfl⟩ := he7
    rw [hv8]
    clear hv8
    go_wp2_with (go_at_call 9999)
    rw [← hw8]
    clear hw8
    go_at_call 14
    refine C9.out.mono ?_
    rintro _ w9' ⟨he9 | he9, b9⟩
    rotate_left
    · exact absurd (he9.1.symm.trans hv9) (by decide)
    obtain ⟨-, rfl⟩ := he9
    rw [hv9]
    clear hv9
    have BN := Lib.hid (HB5.out.trans ((HB57.out.trans ((HB78.out.trans (b9.mono HB78.out.size)).mono HB57.out.size)).mono HB5.out.size))
    clear b9
    by_cases hlo : no < 1
    · clear hin
      go_wp2_with fail
      go_ret
      exact ⟨rfl, BN.out⟩
    · have hlo : 1 ≤ no := by omega
      have hhi : 536870911 < no := by omega
      clear hin
      go_wp2_with fail
      go_ret
      exact ⟨rfl, BN.out⟩
  obtain ⟨hin1, hin2⟩ := hin
  rcases both no l HG.out hin1 hin2 with ⟨v8, v9⟩ | ⟨v8, v9⟩ | ⟨v8, v9, htight⟩
  rotate_left
  · -- neither can be
    obtain ⟨he7 | he7, -⟩ := he7
    rotate_left
    · exact absurd he7.1 v8
    obtain ⟨-, rfl⟩ := he7
    obtain ⟨z, hz⟩ : ∃ z, z = valid 8 [w8 no l] := ⟨_, rfl⟩
    rw [← hz] at v8 v9 ⊢
    clear hz
    go_wp2_with (go_at_call 9999)
    rw [← hw8]
    clear hw8
    go_at_call 14
    refine C9.out.mono ?_
    rintro _ w9' ⟨he9 | he9, b9⟩
    rotate_left
    · exact absurd (v9.symm.trans he9.1) v8
    obtain ⟨-, rfl⟩ := he9
    rw [v9]
    clear v9
    have BN := Lib.hid (HB5.out.trans ((HB57.out.trans ((HB78.out.trans (b9.mono HB78.out.size)).mono HB57.out.size)).mono HB5.out.size))
    clear b9
    go_wp2_with fail
    go_ret
    exact ⟨rfl, BN.out⟩
  · -- only the shorter one can be
    obtain ⟨he7 | he7, -⟩ := he7
    · exact absurd v8 he7.1
    obtain ⟨-, cx, rfl, -⟩ := he7
    unfold ptr
    go_wp2_with (go_at_call 9999)
    rw [← hw8]
    clear hw8
    go_at_call 14
    refine C9.out.mono ?_
    rintro _ w9' ⟨he9 | he9, b9⟩
    rotate_left
    · exact absurd (v9.symm.trans he9.1) (by decide)
    obtain ⟨-, rfl⟩ := he9
    rw [v9]
    have h59 := HB57.out.trans ((HB78.out.trans (b9.mono HB78.out.size)).mono HB57.out.size)
    have rng := Ra.pRange (HCD.out.below h59)
    rw [HG.out.least, HG.out.most] at rng
    generalize (exSpan 7 l).2 = mm at rng htight
    generalize (exSpan 7 l).1 = ll at rng
    unfold ptr at rng
    have TI := Lib.hid (tight c ll mm w9' rng htight)
    have BN := Lib.hid (HB5.out.trans (h59.mono HB5.out.size))
    clear b9 h59 rng htight v8 v9
    go_wp2_with (go_at_call 9999)
    go_at_call 21
    refine TI.out.mono ?_
    rintro _ wa ⟨rfl, ba⟩
    have BA := Lib.hid (BN.out.trans (ba.mono BN.out.size))
    clear ba
    go_wp2_with fail
    go_ret
    exact ⟨rfl, BA.out⟩
  obtain ⟨he7 | he7, -⟩ := he7
  · exact absurd v8 he7.1
  obtain ⟨-, cx, rfl, hcx⟩ := he7
  have HCX := Lib.hid hcx
  clear hcx
  unfold ptr
  go_wp2_with (go_at_call 9999)
  rw [← hw8]
  clear hw8
  go_at_call 14
  refine C9.out.mono ?_
  rintro _ w9' ⟨he9 | he9, b9⟩
  · exact absurd v9 he9.1
  obtain ⟨-, cy, rfl, hcy⟩ := he9
  have h79 := HB78.out.trans (b9.mono HB78.out.size)
  have h59 := HB57.out.trans (h79.mono HB57.out.size)
  have HCX9 := Lib.hid (HCX.out.below h79); have HCY := Lib.hid hcy; have HCD9 := Lib.hid (HCD.out.below h59); have HB9 := Lib.hid (HB5.out.trans (h59.mono HB5.out.size)); have HV9 := Lib.hid (below_hp HV5.out h59)
  obtain ⟨-, -, hok8, hx8, -⟩ := spans_eq v8
  obtain ⟨-, -, hok9, hx9, -⟩ := spans_eq v9
  rw [ex8] at hx8
  rw [ex9] at hx9
  clear h79 h59 b9 hcy HB5 HB57 HB78 HCX HCD HV5
  have hc9 := fun i => hp_cell HV9.out i
  obtain ⟨F, hF⟩ : ∃ F, F = Vu.chk Vh.pF Lib.validD 7 l x 1 := ⟨_, rfl⟩
  obtain ⟨R, hR⟩ : ∃ R, R = encW 7 l x := ⟨_, rfl⟩
  obtain ⟨F8, hF8⟩ : ∃ F, F = Vu.chk Vh.pF Lib.validD 8 [w8 no l] (.mk 0 [] [x]) 1 := ⟨_, rfl⟩
  obtain ⟨R8, hR8⟩ : ∃ R, R = encW 8 [w8 no l] (.mk 0 [] [x]) := ⟨_, rfl⟩
  obtain ⟨F9, hF9⟩ : ∃ F, F = Vu.chk Vh.pF Lib.validD 8 [w9 no l] (.mk 0 [] [.mk 0 [] [x]]) 1 := ⟨_, rfl⟩
  obtain ⟨R9, hR9⟩ : ∃ R, R = encW 8 [w9 no l] (.mk 0 [] [.mk 0 [] [x]]) := ⟨_, rfl⟩
  have e8 : F8.2.2 = F.2.2 := by rw [hF8, hF]; exact chk8 _ _ 7 no l x 1 1
  have e9 : F9.2.2 = F.2.2 := by rw [hF9, hF]; exact chk9 _ _ 7 no l x 1 1
  have enc := Ey.pEnc _ c m 6 7 l _ _ _ x w9' HCD9.out HG.out.ok (HXX.out.below HB9.out) HFV.out (HT.out.below HB9.out) (by decide)
  rw [← hF, ← hR] at enc
  have enc8 := fun w' (h' : Below w9'.heap.size w9' w') (g : Nat) (hg : Pa.hp w' g = some (.cells #[.int .u64 x.num, .slice Ad x.data.length cd, .slice Ap x.parts.length cp] 27 (0, 0))) => Ey.pEnc _ cx (m + 1) 6 8 [w8 no l] _ _ _ _ w' (HCX9.out.below h') hok8 (rdv_one hg (HXX.out.below (HB9.out.trans (h'.mono HB9.out.size)))) (few_one HFV.out) (HT.out.below (HB9.out.trans (h'.mono HB9.out.size))) (by decide)
  rw [← hF8, ← hR8] at enc8
  have enc9 := fun w' (h' : Below w9'.heap.size w9' w') (g g2 : Nat) (hg : Pa.hp w' g = some (.cells #[.int .u64 x.num, .slice Ad x.data.length cd, .slice Ap x.parts.length cp] 27 (0, 0))) (hg2 : Pa.hp w' g2 = some (.cells #[.int .u64 0, .slice none 0 0, .slice (some ⟨g, 0, none⟩) 1 1] 27 (0, 0))) => Ey.pEnc _ cy (m + 1 + 1) 6 8 [w9 no l] _ _ _ _ w' (HCY.out.below h') hok9 (rdv_one hg2 (rdv_one hg (HXX.out.below (HB9.out.trans (h'.mono HB9.out.size))))) (few_one (few_one HFV.out)) (HT.out.below (HB9.out.trans (h'.mono HB9.out.size))) (by decide)
  rw [← hF9, ← hR9] at enc9
  have ENC := Lib.hid enc; have ENC8 := Lib.hid enc8; have ENC9 := Lib.hid enc9; have HF := Lib.hid hF; have HR := Lib.hid hR; have HR8 := Lib.hid hR8; have HR9 := Lib.hid hR9; have E8 := Lib.hid e8; have E9 := Lib.hid e9; have HX8 := Lib.hid hx8; have HX9 := Lib.hid hx9
  clear enc enc8 enc9 hF hR hF8 hR8 hF9 hR9 e8 e9 hx8 hx9 hok8 hok9 v8 v9
  go_wp2_with (go_at_call 9999)
  go_at_call 15
  refine ENC.out.mono ?_
  intro ea wa hea
  have hba : Below w9'.heap.size w9' wa := by
    rcases hea with ⟨_, -, -, -, b⟩ | ⟨_, _, -, -, -, b⟩
    · exact b
    · exact b
  -- the world of the second Encode
  obtain ⟨wb, hwb⟩ : ∃ y, y = wa.alloc (.cells #[.int .u64 x.num, .slice Ad x.data.length cd, .slice Ap x.parts.length cp] 27) := ⟨_, rfl⟩
  have hbb : Below wa.heap.size wa wb := by rw [hwb]; exact vb _ _
  have hgb : Pa.hp wb wa.heap.size = some (.cells #[.int .u64 x.num, .slice Ad x.data.length cd, .slice Ap x.parts.length cp] 27 (0, 0)) := by rw [hwb]; exact hp_alloc_at _ _ rfl
  have h9b := hba.trans (hbb.mono hba.size)
  have EB := Lib.hid (ENC8.out wb h9b wa.heap.size hgb)
  have HVA := Lib.hid (below_hp HV9.out hba); have H9B := Lib.hid h9b
  have hca := fun i => hp_cell HVA.out i
  have hvb := below_hp HVA.out hbb
  have HVB := Lib.hid hvb; have HBB := Lib.hid hbb
  clear hbb hgb h9b hc9 hvb
  rcases hea with ⟨va, h0, rfl, hva, -⟩ | ⟨Aa, ca, h0, rfl, hoa, -⟩
  · obtain ⟨ka, rfl⟩ : ∃ k, va = .iface 92 (.pointer (some ⟨k, 0, none⟩)) := by
      rcases hva with ⟨h, -⟩ | ⟨-, k, -, h, -⟩
      · exact absurd h h0
      · exact ⟨k, h⟩
    have H0 := Lib.hid h0
    clear hva h0
    go_wp2_with (go_at_call 9999)
    rw [← hwb]
    clear hwb
    go_at_call 15
    refine EB.out.mono ?_
    rintro _ wc (⟨vc, g0, rfl, hvc, bc⟩ | ⟨Ac, cc, g0, -⟩)
    rotate_left
    · exact absurd (E8.out.symm.trans g0) H0.out
    obtain ⟨kc, rfl⟩ : ∃ k, vc = .iface 92 (.pointer (some ⟨k, 0, none⟩)) := by
      rcases hvc with ⟨h, -⟩ | ⟨-, k, -, h, -⟩
      · exact absurd h g0
      · exact ⟨k, h⟩
    obtain ⟨wd, hwd⟩ : ∃ y, y = (wc.alloc (.cells #[.int .u64 x.num, .slice Ad x.data.length cd, .slice Ap x.parts.length cp] 27)).alloc (.cells #[.int .u64 0, .slice none 0 0, .slice (some ⟨wc.heap.size, 0, none⟩) 1 1] 27) := ⟨_, rfl⟩
    have hbd : Below wc.heap.size wc wd := by rw [hwd]; exact Vh.b2 wc _ _
    have hgd : Pa.hp wd wc.heap.size = some (.cells #[.int .u64 x.num, .slice Ad x.data.length cd, .slice Ap x.parts.length cp] 27 (0, 0)) := by rw [hwd]; exact below_hp (hp_alloc_at _ _ rfl) (vb _ _)
    have hgd2 : Pa.hp wd (wc.heap.size + 1) = some (.cells #[.int .u64 0, .slice none 0 0, .slice (some ⟨wc.heap.size, 0, none⟩) 1 1] 27 (0, 0)) := by rw [hwd]; exact hp_alloc_at _ _ (by simp)
    have h9d := H9B.out.trans ((bc.trans (hbd.mono bc.size)).mono H9B.out.size)
    have ED := Lib.hid (ENC9.out wd h9d _ _ hgd hgd2)
    have hcc := fun i => hp_cell (below_hp HVB.out bc) i
    have H9D := Lib.hid h9d
    clear hbd hgd hgd2 h9d bc hvc g0 hca
    go_wp2_with (go_at_call 9999)
    rw [← hwd]
    clear hwd
    go_at_call 15
    refine ED.out.mono ?_
    rintro _ we (⟨ve, g0, rfl, hve, be⟩ | ⟨Ae, ce, g0, -⟩)
    rotate_left
    · exact absurd (E9.out.symm.trans g0) H0.out
    obtain ⟨ke, rfl⟩ : ∃ k, ve = .iface 92 (.pointer (some ⟨k, 0, none⟩)) := by
      rcases hve with ⟨h, -⟩ | ⟨-, k, -, h, -⟩
      · exact absurd h g0
      · exact ⟨k, h⟩
    have BN := Lib.hid (HB9.out.trans ((H9D.out.trans (be.mono H9D.out.size)).mono HB9.out.size))
    clear be hve g0 hcc
    go_wp2_with fail
    go_ret
    exact ⟨rfl, BN.out⟩
  have H0 := Lib.hid h0; have HOA := Lib.hid hoa
  -- what is written
  have hk1 : (Vu.chk Vh.pF Lib.validD 7 l x 1).2.2 = 0 := HF.out ▸ h0
  obtain ⟨-, hr2, -⟩ := Yc.back Lib.validD 7 l x 1 (m + 1) HG.out.sch HG.out.room hk1 (Yg.num_of HXX.out)
  have hfr := fr_mono hr2
  have hfr2 := fr_mono hfr
  have hb8 := enc8 7 no l x hin1 hin2 (by have := HX8.out; omega)
  have hb9 := enc9 7 no l x hin1 hin2 (by have := HX9.out; omega)
  rw [← HR8.out, ← HR.out] at hb8
  rw [← HR9.out, ← HR.out] at hb9
  have hrl : R.length ≤ 4194304 := by rw [HR.out]; exact Nat.le_trans hr2 HG.out.room
  have HRL := Lib.hid hrl; have HB8 := Lib.hid hb8; have HB9' := Lib.hid hb9
  clear hk1 hr2 hfr hfr2 hb8 hb9 h0 hoa hrl
  go_wp2_with (go_at_call 9999)
  rw [← hwb]
  clear hwb
  go_at_call 15
  refine EB.out.mono ?_
  rintro _ wc (⟨vc, g0, -⟩ | ⟨Ac, cc, -, rfl, hoc, bc⟩)
  · exact absurd (E8.out.trans H0.out) g0
  obtain ⟨wd, hwd⟩ : ∃ y, y = (wc.alloc (.cells #[.int .u64 x.num, .slice Ad x.data.length cd, .slice Ap x.parts.length cp] 27)).alloc (.cells #[.int .u64 0, .slice none 0 0, .slice (some ⟨wc.heap.size, 0, none⟩) 1 1] 27) := ⟨_, rfl⟩
  have hbd : Below wc.heap.size wc wd := by rw [hwd]; exact Vh.b2 wc _ _
  have hgd : Pa.hp wd wc.heap.size = some (.cells #[.int .u64 x.num, .slice Ad x.data.length cd, .slice Ap x.parts.length cp] 27 (0, 0)) := by rw [hwd]; exact below_hp (hp_alloc_at _ _ rfl) (vb _ _)
  have hgd2 : Pa.hp wd (wc.heap.size + 1) = some (.cells #[.int .u64 0, .slice none 0 0, .slice (some ⟨wc.heap.size, 0, none⟩) 1 1] 27 (0, 0)) := by rw [hwd]; exact hp_alloc_at _ _ (by simp)
  have hbcd := bc.trans (hbd.mono bc.size)
  have h9d := H9B.out.trans (hbcd.mono H9B.out.size)
  have ED := Lib.hid (ENC9.out wd h9d _ _ hgd hgd2)
  have hcc := fun i => hp_cell (below_hp HVB.out bc) i
  have H9D := Lib.hid h9d
  have HOA := Lib.hid ((HOA.out.below HBB.out).below hbcd); have HOC := Lib.hid (hoc.below hbd)
  clear hbd hgd hgd2 h9d bc hbcd hoc hca
  go_wp2_with (go_at_call 9999)
  rw [← hwd]
  clear hwd
  go_at_call 15
  refine ED.out.mono ?_
  rintro _ we (⟨ve, g0, -⟩ | ⟨Ae, ce, -, rfl, hoe, be⟩)
  · exact absurd (E9.out.trans H0.out) g0
  have HBE := Lib.hid (HB9.out.trans ((H9D.out.trans (be.mono H9D.out.size)).mono HB9.out.size))
  have HOA := Lib.hid (HOA.out.below be); have HOC := Lib.hid (HOC.out.below be); have HOE := Lib.hid hoe
  clear be hoe hcc
  -- the number ahead
  obtain ⟨k, rfl⟩ : ∃ k : Nat, no = k := ⟨no.toNat, by omega⟩
  obtain ⟨N, hN⟩ : ∃ N, N = 8 * k + 2 := ⟨_, rfl⟩
  have hNi : (N : Int) = 8 * (k : Int) + 2 := by omega
  have hNk : 8 * ((k : Int)).toNat + 2 = N := by omega
  have pu := put N (by omega) we
  rw [hNi] at pu
  have h8 := HB8.out
  have h9 := HB9'.out
  rw [hNk] at h8 h9
  have PU := Lib.hid pu
  obtain ⟨I, hI⟩ : ∃ I, I = num R.length ++ R := ⟨_, rfl⟩
  obtain ⟨J, hJ⟩ : ∃ J, J = num I.length ++ I := ⟨_, rfl⟩
  obtain ⟨H, hH⟩ : ∃ H, H = num N := ⟨_, rfl⟩
  rw [← hI, ← hH] at h8
  rw [← hI, ← hJ, ← hH] at h9
  have hIl : I.length ≤ 5000000 := by rw [hI, List.length_append]; have h1 := HRL.out; have h2 : (num R.length).length ≤ 4 := sz_le 3 _ (by omega); omega
  have H8 := Lib.hid h8; have H9 := Lib.hid h9; have HIL := Lib.hid hIl; have HI := Lib.hid hI; have HJ := Lib.hid hJ; have HH := Lib.hid hH
  have hNb : N < 18446744073709551616 := by omega
  clear pu h8 h9 hI hJ hH hIl hNi hNk hN
  go_wp2_with (go_at_call 9999)
  go_at_call 22
  refine PU.out.mono ?_
  rw [← HH.out]
  rintro _ wf ⟨Af, cf, rfl, hof, bf⟩
  have hwR : IntKind.u64.wrap (R.length : Int) = (R.length : Int) := by rw [IntKind.wrap_u64]; have := HRL.out; omega
  have hwI : IntKind.u64.wrap (I.length : Int) = (I.length : Int) := by rw [IntKind.wrap_u64]; have := HIL.out; omega
  have PU2 := Lib.hid (put R.length (by have := HRL.out; omega) wf)
  have BF := Lib.hid bf; have HOF := Lib.hid hof
  clear bf hof
  go_wp2_with (go_at_call 9999)
  go_at_call 22
  refine PU2.out.mono ?_
  rintro _ wg ⟨Ag, cg, rfl, hog, bg⟩
  have hOAg := (HOA.out.below BF.out).below bg
  obtain ⟨vh, wh, hap, hoh, gh⟩ := Eb.run_appX Nm.u8 24 hog hOAg.rd bg.size (by have h1 := HRL.out; have h2 : (num R.length).length ≤ 4 := sz_le 3 _ (by omega); omega)
  have hbh : Below wf.heap.size wg wh := gh.toBelow hog bg.size
  rw [← HI.out] at hoh
  obtain ⟨Ah, ch, rfl⟩ := hoh.slice
  have hbfh : Below wf.heap.size wf wh := Below.trans bg hbh
  have PU3 := Lib.hid (put I.length (by have := HIL.out; omega) wh)
  have BFH := Lib.hid hbfh; have HOH := Lib.hid hoh
  clear hog bg hOAg hoh gh hbh hbfh
  go_wp2_with (go_at_call 9999)
  go_at_call 22
  refine PU3.out.mono ?_
  rintro _ wi ⟨Ai, ci, rfl, hoi, bi⟩
  have hOHi := HOH.out.below bi
  obtain ⟨vj, wj, hap2, hoj, gj⟩ := Eb.run_appX Nm.u8 24 hoi hOHi.rd bi.size (by have h1 := HIL.out; have h2 : (num I.length).length ≤ 4 := sz_le 3 _ (by omega); omega)
  have hbj : Below wh.heap.size wi wj := gj.toBelow hoi bi.size
  rw [← HJ.out] at hoj
  obtain ⟨Aj, cj, rfl⟩ := hoj.slice
  have hbhj : Below wh.heap.size wh wj := Below.trans bi hbj
  have hbfj := BFH.out.trans (hbhj.mono BFH.out.size)
  have hbej := BF.out.trans (hbfj.mono BF.out.size)
  have k1 := run_str Nm.u8 Tryd.underlying5 Tryd.underlying9 (HOC.out.below hbej).rd
  have k2 := run_str Nm.u8 Tryd.underlying5 Tryd.underlying9 (HOF.out.below hbfj).rd
  have k3 := run_str Nm.u8 Tryd.underlying5 Tryd.underlying9 (HOH.out.below hbhj).rd
  have k4 := run_str Nm.u8 Tryd.underlying5 Tryd.underlying9 (HOE.out.below hbej).rd
  have k5 := run_str Nm.u8 Tryd.underlying5 Tryd.underlying9 hoj.rd
  have BN := Lib.hid (HBE.out.trans (hbej.mono HBE.out.size))
  have hHl : H.length ≤ 10 := by rw [HH.out]; exact sz_u64 N (by omega)
  have hJl : J.length ≤ 6000000 := by rw [HJ.out, List.length_append]; have h1 := HIL.out; have h2 : (num I.length).length ≤ 4 := sz_le 3 _ (by omega); omega
  have hn1 : ¬ 9223372036854775807 < H.length + I.length := by have := HIL.out; omega
  have hn2 : ¬ 9223372036854775807 < H.length + J.length := by omega
  have hcat1 : (⟨H.toArray⟩ : ByteArray) ++ ⟨I.toArray⟩ = ⟨R8.toArray⟩ := by rw [H8.out]; exact cat_bytes H I
  have hcat2 : (⟨H.toArray⟩ : ByteArray) ++ ⟨J.toArray⟩ = ⟨R9.toArray⟩ := by rw [H9.out]; exact cat_bytes H J
  clear hoi bi hOHi hoj gj hbj hbhj hbfj hbej hap hHl hJl
  go_wp2_with fail
  go_ret
  exact ⟨rfl, BN.out⟩
end Go.Proofs.YtinngljphjdpoaaDoor.Ww
