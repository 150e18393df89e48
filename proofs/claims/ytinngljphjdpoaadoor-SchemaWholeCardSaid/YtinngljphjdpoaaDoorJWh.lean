/- The law SchemaWhole, walked. -/
import Derived.Test.YtinngljphjdpoaaDoorJLi
import Derived.Test.YtinngljphjdpoaaDoorJYk
import Derived.Test.YtinngljphjdpoaaDoorJRa
import Derived.Deep.DeepAppendWide
namespace Go.Proofs.YtinngljphjdpoaaDoor.Wh
open Go Go.RowKit Go.Proofs.YtinngljphjdpoaaDoor.Pa Go.Proofs.YtinngljphjdpoaaDoor.Pb Go.Proofs.YtinngljphjdpoaaDoor.Pc Go.Proofs.YtinngljphjdpoaaDoor.Pf Go.Proofs.YtinngljphjdpoaaDoor.Sc Go.Proofs.YtinngljphjdpoaaDoor.Rs Go.Proofs.YtinngljphjdpoaaDoor.Sl Go.Proofs.YtinngljphjdpoaaDoor.Hs Go.Proofs.YtinngljphjdpoaaDoor.Vu Go.Proofs.YtinngljphjdpoaaDoor.Vo Go.Proofs.YtinngljphjdpoaaDoor.Ca Go.Proofs.YtinngljphjdpoaaDoor.Cm Go.Proofs.YtinngljphjdpoaaDoor.Ra Go.Proofs.YtinngljphjdpoaaDoor.Ea Go.Proofs.YtinngljphjdpoaaDoor.Hx Go.Proofs.YtinngljphjdpoaaDoor.Ow Go.Proofs.YtinngljphjdpoaaDoor.Es Go.Proofs.YtinngljphjdpoaaDoor.Rv Go.Proofs.YtinngljphjdpoaaDoor.Yk Go.Proofs.YtinngljphjdpoaaDoor.Yb Go.Proofs.YtinngljphjdpoaaDoor.Ce
set_option linter.unusedVariables false
set_option linter.unusedSimpArgs false
/-- append of more than the kit's common bound. -/
theorem run_wide {P : Program} {T E : TypeId} (hU : U8 P T E) (ty : TypeId) {w : World} {base : Nat} {v x : Value} {l m : List UInt8} (hv : Pb.Own w base E v l) (hx : Rd w x m) (hbase : base ≤ w.heap.size) (hl : l.length + m.length ≤ 150000000000000) :
    ∃ v' w', (appX #[T, T] ty #[v, x]).run P w = .ok v' w' ∧ Pb.Own w' base E v' (l ++ m) ∧ w.grownBy w' v.ownBlock := by
  rw [← app_x]
  by_cases hs : l.length + m.length ≤ 140737488355328
  · obtain ⟨v', w', h1, h2, h3, -⟩ := run_app hU ty hv hx hbase hs
    exact ⟨v', w', h1, h2, h3⟩
  · by_cases hm0 : m.length = 0
    · obtain rfl : m = [] := List.eq_nil_of_length_eq_zero hm0
      obtain ⟨A, c, rfl, hlc, hcm, hc⟩ := hx
      obtain ⟨i, hi, hzz⟩ := Option.map_eq_some_iff.1 hU.info
      simp only [Prod.mk.injEq] at hzz
      obtain ⟨hz0, hz1, hz2⟩ := hzz
      cases A with
      | none =>
        refine ⟨v, w, ?_, by simpa using hv, World.grownBy.refl w _⟩
        rcases hv.2 with ⟨rfl, h0⟩ | ⟨g, cap, cur, rfl, _, _, hnc, _⟩
        · simp [Builtin.append_, run_underlying hU.sl, sizeOf, typeInfo, hi, Builtin.lenOf, Builtin.firstCells]
        · simp [Builtin.append_, run_underlying hU.sl, sizeOf, typeInfo, hi, Builtin.lenOf, Builtin.firstCells, hnc, storeCells]
      | some ad =>
        obtain ⟨v', w', h1, h2, h3, -⟩ := run_append_own_wide (P := P) w base T ty E i (.int .u8 0) 1 1 hU.sl hi hz0 hz1 hz2 rfl (by omega) v l.length (cb l) hv ad 0 c (cb []) (by simp [cb]) (by simp [cb]) (cb_one [])
          (by simp only [maxLen]; omega) (by omega) hbase
        refine ⟨v', w', h1, ?_, h3⟩
        show w'.ownsRow base E 1 v' (l ++ []).length (cb (l ++ []))
        rw [List.length_append, cb_append]
        exact h2
    · obtain ⟨A, c, rfl, hlc, hcm, hc⟩ := hx
      obtain ⟨i, hi, hzz⟩ := Option.map_eq_some_iff.1 hU.info
      simp only [Prod.mk.injEq] at hzz
      obtain ⟨hz0, hz1, hz2⟩ := hzz
      obtain ⟨ad, rfl, hcc⟩ := hc (by omega)
      obtain ⟨v', w', h1, h2, h3, -⟩ := run_append_own_wide (P := P) w base T ty E i (.int .u8 0) 1 1 hU.sl hi hz0 hz1 hz2 rfl (by omega) v l.length (cb l) hv ad m.length c (cb m) (by simp) (fun j u hj => hcc j u hj) (cb_one m)
        (by simp only [maxLen]; omega) (by omega) hbase
      refine ⟨v', w', h1, ?_, h3⟩
      show w'.ownsRow base E 1 v' (l ++ m).length (cb (l ++ m))
      rw [List.length_append, cb_append]
      exact h2
theorem not_more {l : List Slot} {R more : List UInt8} (hs : Sch 7 l) (hm : 0 < more.length) (hr : (rdv Lib.validD 7 l R 0).1.2.2 = 0) : ¬ (rdv Lib.validD 7 l (R ++ more) 0).1.2.2 = 0 := fun h => Yc.no_more Lib.validD 7 l R more 0 0 hs hm hr h
set_option maxHeartbeats 2000000 in
set_option maxRecDepth 100000 in
theorem walk {n m : Nat} {v nv dv pv : Value} {l : List Slot} {x : Vu.Va} (W : World) (h : RdS W n v l) (hx : Vu.RdV W m nv dv pv x) (cut : Int) {p : Prop} (_ : p) {mv : Value} {more : List UInt8} (hmr : Rd W mv more) (hml : more.length ≤ 140737488351232) (hT : Vh.TabU W) :
    Calls Tryd.prog 5 #[v, .agg #[nv, dv, pv], .int .i64 cut, mv] W fun e w' => e = .returned (.bool true) ∧ Below W.heap.size W w' := by
  obtain ⟨A, c0, rfl, -⟩ := h.slice
  have hxx := hx
  obtain ⟨hnum, rfl, hdv, hpv⟩ := hx
  obtain ⟨Ad, cd, rfl, -⟩ := hdv
  obtain ⟨Ap, cp, rfl, -⟩ := hpv.slice
  clear hpv
  have hmm := hmr
  obtain ⟨Am, cm, rfl, -⟩ := hmr
  have HMM := Lib.hid hmm; have HML := Lib.hid hml
  clear hmm hml
  obtain ⟨w1, hw1⟩ : ∃ y, y = W.alloc (.cells #[.int .u64 x.num, .slice Ad x.data.length cd, .slice Ap x.parts.length cp] 27) := ⟨_, rfl⟩
  have hb1 : Below W.heap.size W w1 := by rw [hw1]; exact vb _ _
  have hv1 : Pa.hp w1 W.heap.size = some (.cells #[.int .u64 x.num, .slice Ad x.data.length cd, .slice Ap x.parts.length cp] 27 (0, 0)) := by rw [hw1]; exact hp_alloc_at _ _ rfl
  have LIV := Lib.hid (fun w' (h' : Below W.heap.size W w') => Li.lives w' (hT.below h'))
  have BG := Lib.hid (fun w' (h' : Below W.heap.size W w') => big w' (h.below h'))
  have BV := Lib.hid (fun w' (h' : Below W.heap.size W w') => Vk.big w' hxx h')
  have COMP := Lib.hid (fun w' (h' : Below W.heap.size W w') => comp w' (h.below h'))
  have HB1 := Lib.hid hb1; have HV1 := Lib.hid hv1; have HXX := Lib.hid hxx; have HT := Lib.hid hT
  clear hb1 hv1 hxx hT h
  go_enter Tryd.func5, Tryd.ntmps5
  go_wp2_with (go_at_call 9999)
  rw [← hw1]
  clear hw1
  go_at_call 11
  refine (LIV.out _ HB1.out).mono ?_
  rintro _ w2 ⟨rfl, b2⟩
  have HB2 := Lib.hid (HB1.out.trans (b2.mono HB1.out.size)); have HV2 := Lib.hid (below_hp HV1.out b2)
  have hc2 := fun i => hp_cell HV2.out i
  clear b2 HB1 HV1
  go_wp2_with (go_at_call 9999)
  go_at_call 12
  refine (BG.out _ HB2.out).mono ?_
  rintro _ w3 ⟨he, rfl⟩
  by_cases hbig : sl n l 10000 < 0
  · rw [decide_eq_true hbig] at he
    subst he
    clear hbig hc2
    go_wp2_with (go_at_call 9999)
    go_at_call 11
    refine (LIV.out _ HB2.out).mono ?_
    rintro _ w4 ⟨rfl, b4⟩
    have HB4 := Lib.hid (HB2.out.trans (b4.mono HB2.out.size)); clear b4
    go_wp2_with fail
    go_ret
    exact ⟨rfl, HB4.out⟩
  rw [decide_eq_false hbig] at he
  subst he
  clear hbig
  go_wp2_with (go_at_call 9999)
  go_at_call 13
  refine (BV.out _ HB2.out).mono ?_
  rintro _ w4 ⟨he, b4⟩
  have HB4 := Lib.hid (HB2.out.trans (b4.mono HB2.out.size)); have HV4 := Lib.hid (below_hp HV2.out b4)
  clear b4 hc2 HB2 HV2
  by_cases hbig : vl (m + 1) x 10000 < 0
  · rw [decide_eq_true hbig] at he
    subst he
    clear hbig
    go_wp2_with (go_at_call 9999)
    go_at_call 11
    refine (LIV.out _ HB4.out).mono ?_
    rintro _ w5 ⟨rfl, b5⟩
    have HB5 := Lib.hid (HB4.out.trans (b5.mono HB4.out.size)); clear b5
    go_wp2_with fail
    go_ret
    exact ⟨rfl, HB5.out⟩
  rw [decide_eq_false hbig] at he
  subst he
  have hlv : lv (m + 1) x := fun y hy => RdP.lv m _ _ HXX.out.2.2.2 y hy
  have HFV := Lib.hid (Vo.few_of (m + 1) x 10000 hlv (by omega) (by omega))
  clear hbig hlv
  go_wp2_with (go_at_call 9999)
  go_at_call 14
  refine (COMP.out _ HB4.out).mono ?_
  rintro _ w5 ⟨⟨z, hz, rfl⟩ | ⟨c, rfl, ⟨S, hcd⟩, hgood⟩, b5⟩
  · have HB5 := Lib.hid (HB4.out.trans (b5.mono HB4.out.size)); clear b5
    go_wp2_with fail
    go_ret
    exact ⟨rfl, HB5.out⟩
  have HB5 := Lib.hid (HB4.out.trans (b5.mono HB4.out.size)); have HV5 := Lib.hid (below_hp HV4.out b5)
  have hc5 := fun i => hp_cell HV5.out i
  have HCD := Lib.hid hcd; have HG := Lib.hid hgood
  clear b5 hcd hgood HB4 HV4
  obtain ⟨F, hF⟩ : ∃ F, F = Vu.chk Vh.pF Lib.validD 7 l x 1 := ⟨_, rfl⟩
  obtain ⟨R, hR⟩ : ∃ R, R = encW 7 l x := ⟨_, rfl⟩
  have enc := Ey.pEnc S c m 6 7 l _ _ _ x w5 HCD.out HG.out.ok (HXX.out.below HB5.out) HFV.out (HT.out.below HB5.out) (by decide)
  rw [← hF, ← hR] at enc
  have dec := fun w' (h' : Below w5.heap.size w5 w') (bv : Value) (b : List UInt8) (hb : Rd w' bv b) (hl : b.length ≤ 150000000000000) => De.pDec Lib.validD Uv.utf S c 6 7 l bv b w' (HCD.out.below h') hb HG.out.ok (HT.out.below (HB5.out.trans (h'.mono HB5.out.size))) hl
  have ENC := Lib.hid enc; have DEC := Lib.hid dec; have HF := Lib.hid hF; have HR := Lib.hid hR
  clear enc dec hF hR
  go_wp2_with (go_at_call 9999)
  go_at_call 15
  refine ENC.out.mono ?_
  rintro _ w6 (⟨v6, h0, rfl, he6, b6⟩ | ⟨A6, c6, h0, rfl, ho6, b6⟩)
  · obtain ⟨k6, rfl⟩ : ∃ k, v6 = .iface 92 (.pointer (some ⟨k, 0, none⟩)) := by
      rcases he6 with ⟨h, -⟩ | ⟨-, k, -, h, -⟩
      · exact absurd h h0
      · exact ⟨k, h⟩
    have B6 := Lib.hid b6
    clear b6 he6 hc5 h0
    go_wp2_with fail
    go_ret
    exact ⟨rfl, HB5.out.trans (B6.out.mono HB5.out.size)⟩
  have hk1 : (Vu.chk Vh.pF Lib.validD 7 l x 1).2.2 = 0 := HF.out ▸ h0
  obtain ⟨-, hr2, hback⟩ := Yc.back Lib.validD 7 l x 1 (m + 1) HG.out.sch HG.out.room hk1 (Yg.num_of HXX.out)
  rw [← HR.out] at hr2 hback
  have HRL := Lib.hid (show R.length ≤ 4194304 from Nat.le_trans hr2 HG.out.room)
  have HOKR := Lib.hid (show (rdv Lib.validD 7 l R 0).1.2.2 = 0 by rw [hback])
  have hrd6 := ho6.rd
  by_cases hcut : 0 ≤ cut ∧ cut < R.length
  · obtain ⟨k, rfl⟩ : ∃ k : Nat, cut = k := ⟨cut.toNat, by omega⟩
    have hkR : k < R.length := by omega
    obtain ⟨g6, rfl⟩ : ∃ g, A6 = some ⟨g, 0, none⟩ := by
      rcases ho6.2 with ⟨e, h⟩ | ⟨g, cap, cur, e, -⟩
      · exact absurd h (by omega)
      · simp only [Value.slice.injEq] at e
        exact ⟨g, e.1⟩
    have hcap : R.length ≤ c6 := hrd6.len.2.1
    have hhalf := Gs.rd_mid hrd6 0 k (by omega) (by omega)
    rw [if_neg (by omega)] at hhalf
    have ha0 : (⟨g6, 0, none⟩ : Addr).add 0 = ⟨g6, 0, none⟩ := by unfold Addr.add; split <;> simp_all
    simp only [Nat.sub_zero, List.drop_zero, Option.map_some, ha0] at hhalf
    clear ha0
    have DC0 := Lib.hid (DEC.out w6 b6 _ _ hhalf (by rw [List.length_take]; have := HRL.out; omega))
    have B6 := Lib.hid b6; have HRD6 := Lib.hid hrd6
    have hi1 : (k : Int) < (R.length : Int) := by omega
    have hi2 : (k : Int) ≤ (c6 : Int) := by omega
    have hi3 : 0 ≤ (k : Int) := by omega
    clear b6 ho6 hc5 h0 hk1 hback hr2 hrd6 hhalf hcut
    go_wp2_with (go_at_call 9999)
    go_at_call 17
    refine DC0.out.mono ?_
    rintro _ w7 ⟨⟨h0, v7, rfl, he7⟩ | ⟨h0, nv7, dv7, pv7, rfl, ho7⟩, b7⟩
    rotate_left
    · exact absurd h0 (fun h => Yc.no_more Lib.validD 7 l (R.take k) (R.drop k) 0 0 HG.out.sch (by rw [List.length_drop]; omega) h (by rw [List.take_append_drop]; exact HOKR.out))
    obtain ⟨k7, rfl⟩ : ∃ k, v7 = .iface 92 (.pointer (some ⟨k, 0, none⟩)) := by
      rcases he7 with ⟨h, -⟩ | ⟨-, k, -, h, -⟩
      · exact absurd h h0
      · exact ⟨k, h⟩
    obtain ⟨w8, hw8⟩ : ∃ z, z = w7.alloc (.cells #[.int .u64 0, .slice none 0 0, .slice none 0 0] 27) := ⟨_, rfl⟩
    have hb8 : Below w7.heap.size w7 w8 := by rw [hw8]; exact vb _ _
    have hb68 : Below w6.heap.size w6 w8 := b7.trans (hb8.mono b7.size)
    have B := Lib.hid (B6.out.trans (hb68.mono B6.out.size)); have HRD := Lib.hid (HRD6.out.below hb68)
    clear he7 b7 h0 hb8 hb68
    go_upto_region 13 with fail
    rw [← hw8]
    clear hw8
    by_cases hm0 : more.length = 0
    · have hm1 : (more.length : Int) = 0 := by omega
      clear hm0
      go_wp2_with fail
      go_ret
      exact ⟨rfl, HB5.out.trans (B.out.mono HB5.out.size)⟩
    have hm1 : 0 < (more.length : Int) := by omega
    obtain ⟨wa, hwa⟩ : ∃ z, z = w8.alloc (.cells #[] 5) := ⟨_, rfl⟩
    have hba : Below w8.heap.size w8 wa := by rw [hwa]; exact vb _ _
    have hoa : Pb.Own wa w8.heap.size 5 (.slice (some ⟨w8.heap.size, 0, none⟩) 0 0) [] := by rw [hwa]; exact Own.empty w8 w8.heap.size _ (Nat.le_refl _)
    obtain ⟨vb2, wb, hap1, hob, hgb⟩ := run_wide (T := 24) Nm.u8 24 hoa (HRD.out.below hba) hba.size (by simp only [List.length_nil]; have := HRL.out; omega)
    obtain ⟨Ab, cb2, rfl⟩ := hob.slice
    have hbb := below_grown (Below.refl _ _) hoa (Nat.le_refl _) hba.size hgb
    simp only [List.nil_append] at hob hap1
    rw [hwa] at hap1
    have hBb := HB5.out.trans ((B.out.trans ((hba.trans (hbb.mono (Nat.le_refl _))).mono B.out.size)).mono HB5.out.size)
    have hbab : Below w8.heap.size wa wb := hbb
    obtain ⟨vc, wc, hap2, hoc, hgc⟩ := run_wide (T := 24) Nm.u8 24 hob (HMM.out.below hBb) (Nat.le_trans hba.size (by exact hbb.size)) (by have := HRL.out; have := HML.out; omega)
    obtain ⟨Ac, cc, rfl⟩ := hoc.slice
    have hbc := below_grown (Below.refl w8.heap.size wb) hob (Nat.le_refl _) (Nat.le_trans hba.size hbb.size) hgc
    have hBc : Below w5.heap.size w5 wc := B.out.trans ((hba.trans (Below.trans hbab hbc)).mono B.out.size)
    have NO := Lib.hid (not_more HG.out.sch (by omega : 0 < more.length) HOKR.out)
    have dc := DEC.out wc hBc _ _ hoc.rd (by rw [List.length_append]; have := HRL.out; have := HML.out; omega)
    rw [List.length_append] at dc hap2
    have DC := Lib.hid dc
    have HBC := Lib.hid hBc
    clear dc hba hoa hob hoc hgb hgc hbb hbc hBb hbab hBc
    go_wp2_with (go_at_call 9999)
    go_at_call 17
    refine DC.out.mono ?_
    rintro _ wd ⟨⟨h0, vd, rfl, hed⟩ | ⟨h0, nvd, dvd, pvd, rfl, hod⟩, bd⟩
    rotate_left
    · exact absurd h0 NO.out
    obtain ⟨kd, rfl⟩ : ∃ k, vd = .iface 92 (.pointer (some ⟨k, 0, none⟩)) := by
      rcases hed with ⟨h, -⟩ | ⟨-, k, -, h, -⟩
      · exact absurd h h0
      · exact ⟨k, h⟩
    have BD := Lib.hid (HB5.out.trans ((HBC.out.trans (bd.mono HBC.out.size)).mono HB5.out.size))
    clear hed bd h0 hap1 hap2 hwa
    go_wp2_with fail
    go_ret
    exact ⟨rfl, BD.out.alloc BD.out.size _⟩
  have hng : ¬ (0 ≤ cut ∧ cut < (R.length : Int)) := hcut
  have B := Lib.hid b6; have HRD := Lib.hid hrd6
  clear b6 ho6 hc5 h0 hk1 hback hr2 hrd6 hcut
  by_cases hneg : cut < 0
  · clear hng
    go_upto_region 13 with fail
    by_cases hm0 : more.length = 0
    · have hm1 : (more.length : Int) = 0 := by omega
      clear hm0
      go_wp2_with fail
      go_ret
      exact ⟨rfl, HB5.out.trans (B.out.mono HB5.out.size)⟩
    have hm1 : 0 < (more.length : Int) := by omega
    obtain ⟨wa, hwa⟩ : ∃ z, z = w6.alloc (.cells #[] 5) := ⟨_, rfl⟩
    have hba : Below w6.heap.size w6 wa := by rw [hwa]; exact vb _ _
    have hoa : Pb.Own wa w6.heap.size 5 (.slice (some ⟨w6.heap.size, 0, none⟩) 0 0) [] := by rw [hwa]; exact Own.empty w6 w6.heap.size _ (Nat.le_refl _)
    obtain ⟨vb2, wb, hap1, hob, hgb⟩ := run_wide (T := 24) Nm.u8 24 hoa (HRD.out.below hba) hba.size (by simp only [List.length_nil]; have := HRL.out; omega)
    obtain ⟨Ab, cb2, rfl⟩ := hob.slice
    have hbb := below_grown (Below.refl _ _) hoa (Nat.le_refl _) hba.size hgb
    simp only [List.nil_append] at hob hap1
    rw [hwa] at hap1
    have hBb := HB5.out.trans ((B.out.trans ((hba.trans (hbb.mono (Nat.le_refl _))).mono B.out.size)).mono HB5.out.size)
    have hbab : Below w6.heap.size wa wb := hbb
    obtain ⟨vc, wc, hap2, hoc, hgc⟩ := run_wide (T := 24) Nm.u8 24 hob (HMM.out.below hBb) (Nat.le_trans hba.size (by exact hbb.size)) (by have := HRL.out; have := HML.out; omega)
    obtain ⟨Ac, cc, rfl⟩ := hoc.slice
    have hbc := below_grown (Below.refl w6.heap.size wb) hob (Nat.le_refl _) (Nat.le_trans hba.size hbb.size) hgc
    have hBc : Below w5.heap.size w5 wc := B.out.trans ((hba.trans (Below.trans hbab hbc)).mono B.out.size)
    have NO := Lib.hid (not_more HG.out.sch (by omega : 0 < more.length) HOKR.out)
    have dc := DEC.out wc hBc _ _ hoc.rd (by rw [List.length_append]; have := HRL.out; have := HML.out; omega)
    rw [List.length_append] at dc hap2
    have DC := Lib.hid dc
    have HBC := Lib.hid hBc
    clear dc hba hoa hob hoc hgb hgc hbb hbc hBb hbab hBc
    go_wp2_with (go_at_call 9999)
    go_at_call 17
    refine DC.out.mono ?_
    rintro _ wd ⟨⟨h0, vd, rfl, hed⟩ | ⟨h0, nvd, dvd, pvd, rfl, hod⟩, bd⟩
    rotate_left
    · exact absurd h0 NO.out
    obtain ⟨kd, rfl⟩ : ∃ k, vd = .iface 92 (.pointer (some ⟨k, 0, none⟩)) := by
      rcases hed with ⟨h, -⟩ | ⟨-, k, -, h, -⟩
      · exact absurd h h0
      · exact ⟨k, h⟩
    have BD := Lib.hid (HB5.out.trans ((HBC.out.trans (bd.mono HBC.out.size)).mono HB5.out.size))
    clear hed bd h0 hap1 hap2 hwa
    go_wp2_with fail
    go_ret
    exact ⟨rfl, BD.out.alloc BD.out.size _⟩
  have hge : 0 ≤ cut := by omega
  have hge2 : (R.length : Int) ≤ cut := by omega
  clear hng hneg
  go_upto_region 13 with fail
  by_cases hm0 : more.length = 0
  · have hm1 : (more.length : Int) = 0 := by omega
    clear hm0
    go_wp2_with fail
    go_ret
    exact ⟨rfl, HB5.out.trans (B.out.mono HB5.out.size)⟩
  have hm1 : 0 < (more.length : Int) := by omega
  obtain ⟨wa, hwa⟩ : ∃ z, z = w6.alloc (.cells #[] 5) := ⟨_, rfl⟩
  have hba : Below w6.heap.size w6 wa := by rw [hwa]; exact vb _ _
  have hoa : Pb.Own wa w6.heap.size 5 (.slice (some ⟨w6.heap.size, 0, none⟩) 0 0) [] := by rw [hwa]; exact Own.empty w6 w6.heap.size _ (Nat.le_refl _)
  obtain ⟨vb2, wb, hap1, hob, hgb⟩ := run_wide (T := 24) Nm.u8 24 hoa (HRD.out.below hba) hba.size (by simp only [List.length_nil]; have := HRL.out; omega)
  obtain ⟨Ab, cb2, rfl⟩ := hob.slice
  have hbb := below_grown (Below.refl _ _) hoa (Nat.le_refl _) hba.size hgb
  simp only [List.nil_append] at hob hap1
  rw [hwa] at hap1
  have hBb := HB5.out.trans ((B.out.trans ((hba.trans (hbb.mono (Nat.le_refl _))).mono B.out.size)).mono HB5.out.size)
  have hbab : Below w6.heap.size wa wb := hbb
  obtain ⟨vc, wc, hap2, hoc, hgc⟩ := run_wide (T := 24) Nm.u8 24 hob (HMM.out.below hBb) (Nat.le_trans hba.size (by exact hbb.size)) (by have := HRL.out; have := HML.out; omega)
  obtain ⟨Ac, cc, rfl⟩ := hoc.slice
  have hbc := below_grown (Below.refl w6.heap.size wb) hob (Nat.le_refl _) (Nat.le_trans hba.size hbb.size) hgc
  have hBc : Below w5.heap.size w5 wc := B.out.trans ((hba.trans (Below.trans hbab hbc)).mono B.out.size)
  have NO := Lib.hid (not_more HG.out.sch (by omega : 0 < more.length) HOKR.out)
  have dc := DEC.out wc hBc _ _ hoc.rd (by rw [List.length_append]; have := HRL.out; have := HML.out; omega)
  rw [List.length_append] at dc hap2
  have DC := Lib.hid dc
  have HBC := Lib.hid hBc
  clear dc hba hoa hob hoc hgb hgc hbb hbc hBb hbab hBc
  go_wp2_with (go_at_call 9999)
  go_at_call 17
  refine DC.out.mono ?_
  rintro _ wd ⟨⟨h0, vd, rfl, hed⟩ | ⟨h0, nvd, dvd, pvd, rfl, hod⟩, bd⟩
  rotate_left
  · exact absurd h0 NO.out
  obtain ⟨kd, rfl⟩ : ∃ k, vd = .iface 92 (.pointer (some ⟨k, 0, none⟩)) := by
    rcases hed with ⟨h, -⟩ | ⟨-, k, -, h, -⟩
    · exact absurd h h0
    · exact ⟨k, h⟩
  have BD := Lib.hid (HB5.out.trans ((HBC.out.trans (bd.mono HBC.out.size)).mono HB5.out.size))
  clear hed bd h0 hap1 hap2 hwa
  go_wp2_with fail
  go_ret
  exact ⟨rfl, BD.out.alloc BD.out.size _⟩
end Go.Proofs.YtinngljphjdpoaaDoor.Wh
