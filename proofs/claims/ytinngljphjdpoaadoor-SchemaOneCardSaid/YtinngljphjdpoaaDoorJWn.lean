/- The law SchemaOne, walked. -/
import Derived.Test.YtinngljphjdpoaaDoorJLi
import Derived.Test.YtinngljphjdpoaaDoorJYk
import Derived.Test.YtinngljphjdpoaaDoorJRa
import Derived.Test.YtinngljphjdpoaaDoorJLs
import Derived.BigQuiet
namespace Go.Proofs.YtinngljphjdpoaaDoor.Wn
open Go Go.RowKit Go.Proofs.YtinngljphjdpoaaDoor.Vl Go.Proofs.YtinngljphjdpoaaDoor.Pa Go.Proofs.YtinngljphjdpoaaDoor.Pb Go.Proofs.YtinngljphjdpoaaDoor.Pc Go.Proofs.YtinngljphjdpoaaDoor.Pf Go.Proofs.YtinngljphjdpoaaDoor.Sc Go.Proofs.YtinngljphjdpoaaDoor.Rs Go.Proofs.YtinngljphjdpoaaDoor.Sl Go.Proofs.YtinngljphjdpoaaDoor.Hs Go.Proofs.YtinngljphjdpoaaDoor.Vu Go.Proofs.YtinngljphjdpoaaDoor.Vo Go.Proofs.YtinngljphjdpoaaDoor.Ca Go.Proofs.YtinngljphjdpoaaDoor.Cm Go.Proofs.YtinngljphjdpoaaDoor.Ra Go.Proofs.YtinngljphjdpoaaDoor.Ea Go.Proofs.YtinngljphjdpoaaDoor.Hx Go.Proofs.YtinngljphjdpoaaDoor.Ow Go.Proofs.YtinngljphjdpoaaDoor.Es Go.Proofs.YtinngljphjdpoaaDoor.Yk Go.Proofs.YtinngljphjdpoaaDoor.Yb
set_option linter.unusedVariables false
set_option linter.unusedSimpArgs false
set_option maxHeartbeats 2000000 in
set_option maxRecDepth 100000 in
theorem walk {n m m' : Nat} {v nv dv pv nv' dv' pv' : Value} {l : List Slot} {x y : Vu.Va} (W : World) (h : RdS W n v l) (hx : Vu.RdV W m nv dv pv x) (hy : Vu.RdV W m' nv' dv' pv' y) (hT : Vh.TabU W) :
    Calls Tryd.prog 6 #[v, .agg #[nv, dv, pv], .agg #[nv', dv', pv']] W fun e w' => e = .returned (.bool true) ∧ Below W.heap.size W w' := by
  obtain ⟨A, c0, rfl, -⟩ := h.slice
  have hxx := hx
  obtain ⟨hnum, rfl, hdv, hpv⟩ := hx
  obtain ⟨Ad, cd, rfl, -⟩ := hdv
  obtain ⟨Ap, cp, rfl, -⟩ := hpv.slice
  clear hpv
  have hyy := hy
  obtain ⟨hnum', rfl, hdv, hpv⟩ := hy
  obtain ⟨Ad', cd', rfl, -⟩ := hdv
  obtain ⟨Ap', cp', rfl, -⟩ := hpv.slice
  clear hpv
  obtain ⟨w1, hw1⟩ : ∃ z, z = (W.alloc (.cells #[.int .u64 x.num, .slice Ad x.data.length cd, .slice Ap x.parts.length cp] 27)).alloc (.cells #[.int .u64 y.num, .slice Ad' y.data.length cd', .slice Ap' y.parts.length cp'] 27) := ⟨_, rfl⟩
  have hb1 : Below W.heap.size W w1 := by rw [hw1]; exact Vh.b2 W _ _
  have hv1 : Pa.hp w1 W.heap.size = some (.cells #[.int .u64 x.num, .slice Ad x.data.length cd, .slice Ap x.parts.length cp] 27 (0, 0)) := by rw [hw1]; exact below_hp (hp_alloc_at _ _ rfl) (vb _ _)
  have hu1 : Pa.hp w1 (W.heap.size + 1) = some (.cells #[.int .u64 y.num, .slice Ad' y.data.length cd', .slice Ap' y.parts.length cp'] 27 (0, 0)) := by rw [hw1]; exact hp_alloc_at _ _ (by simp)
  have LIV := Lib.hid (fun w' (h' : Below W.heap.size W w') => Li.lives w' (hT.below h'))
  have BG := Lib.hid (fun w' (h' : Below W.heap.size W w') => big w' (h.below h'))
  have BV := Lib.hid (fun w' (h' : Below W.heap.size W w') => Vk.big w' hxx h')
  have BU := Lib.hid (fun w' (h' : Below W.heap.size W w') => Vk.big w' hyy h')
  have COMP := Lib.hid (fun w' (h' : Below W.heap.size W w') => comp w' (h.below h'))
  have HB1 := Lib.hid hb1; have HV1 := Lib.hid hv1; have HU1 := Lib.hid hu1; have HXX := Lib.hid hxx; have HYY := Lib.hid hyy; have HT := Lib.hid hT
  clear hb1 hv1 hu1 hxx hyy hT h
  go_enter Tryd.func6, Tryd.ntmps6
  go_wp2_with (go_at_call 9999)
  rw [← hw1]
  clear hw1
  go_at_call 11
  refine (LIV.out _ HB1.out).mono ?_
  rintro _ w2 ⟨rfl, b2⟩
  have HB2 := Lib.hid (HB1.out.trans (b2.mono HB1.out.size)); have HV2 := Lib.hid (below_hp HV1.out b2); have HU2 := Lib.hid (below_hp HU1.out b2)
  have hc2 := fun i => hp_cell HV2.out i
  clear b2 HB1 HV1 HU1
  go_wp2_with (go_at_call 9999)
  go_at_call 12
  refine (BG.out _ HB2.out).mono ?_
  rintro _ w3 ⟨he, rfl⟩
  by_cases hbig : sl n l 10000 < 0
  · rw [decide_eq_true hbig] at he
    subst he
    clear hbig hc2
    go_wp2_with (go_at_call 9999)
    go_at_call 11
    refine (LIV.out _ HB2.out).mono ?_
    rintro _ w4 ⟨rfl, b4⟩
    have HB4 := Lib.hid (HB2.out.trans (b4.mono HB2.out.size)); clear b4
    go_wp2_with fail
    go_ret
    exact ⟨rfl, HB4.out⟩
  rw [decide_eq_false hbig] at he
  subst he
  clear hbig
  go_wp2_with (go_at_call 9999)
  go_at_call 13
  refine (BV.out _ HB2.out).mono ?_
  rintro _ w4 ⟨he, b4⟩
  have HB4 := Lib.hid (HB2.out.trans (b4.mono HB2.out.size)); have HV4 := Lib.hid (below_hp HV2.out b4); have HU4 := Lib.hid (below_hp HU2.out b4)
  clear b4 hc2 HB2 HV2 HU2
  by_cases hbig : vl (m + 1) x 10000 < 0
  · rw [decide_eq_true hbig] at he
    subst he
    clear hbig
    go_wp2_with (go_at_call 9999)
    go_at_call 11
    refine (LIV.out _ HB4.out).mono ?_
    rintro _ w5 ⟨rfl, b5⟩
    have HB5 := Lib.hid (HB4.out.trans (b5.mono HB4.out.size)); clear b5
    go_wp2_with fail
    go_ret
    exact ⟨rfl, HB5.out⟩
  rw [decide_eq_false hbig] at he
  subst he
  have hlv : lv (m + 1) x := fun y hy => RdP.lv m _ _ HXX.out.2.2.2 y hy
  have HFV := Lib.hid (Vo.few_of (m + 1) x 10000 hlv (by omega) (by omega))
  have hcu4 := fun i => hp_cell HU4.out i
  clear hbig hlv
  go_wp2_with (go_at_call 9999)
  go_at_call 13
  refine (BU.out _ HB4.out).mono ?_
  rintro _ w4b ⟨he, b4⟩
  have HB4b := Lib.hid (HB4.out.trans (b4.mono HB4.out.size)); have HV4b := Lib.hid (below_hp HV4.out b4); have HU4b := Lib.hid (below_hp HU4.out b4)
  clear b4 hcu4 HB4 HV4 HU4
  by_cases hbig : vl (m' + 1) y 10000 < 0
  · rw [decide_eq_true hbig] at he
    subst he
    clear hbig
    go_wp2_with (go_at_call 9999)
    go_at_call 11
    refine (LIV.out _ HB4b.out).mono ?_
    rintro _ w5 ⟨rfl, b5⟩
    have HB5 := Lib.hid (HB4b.out.trans (b5.mono HB4b.out.size)); clear b5
    go_wp2_with fail
    go_ret
    exact ⟨rfl, HB5.out⟩
  rw [decide_eq_false hbig] at he
  subst he
  have hlv : lv (m' + 1) y := fun z hz => RdP.lv m' _ _ HYY.out.2.2.2 z hz
  have HFU := Lib.hid (Vo.few_of (m' + 1) y 10000 hlv (by omega) (by omega))
  clear hbig hlv
  go_wp2_with (go_at_call 9999)
  go_at_call 14
  refine (COMP.out _ HB4b.out).mono ?_
  rintro _ w5 ⟨⟨z, hz, rfl⟩ | ⟨c, rfl, ⟨S, hcd⟩, hgood⟩, b5⟩
  · have HB5 := Lib.hid (HB4b.out.trans (b5.mono HB4b.out.size)); clear b5
    go_wp2_with fail
    go_ret
    exact ⟨rfl, HB5.out⟩
  have HB5 := Lib.hid (HB4b.out.trans (b5.mono HB4b.out.size)); have HV5 := Lib.hid (below_hp HV4b.out b5); have HU5 := Lib.hid (below_hp HU4b.out b5)
  have hc5 := fun i => hp_cell HV5.out i
  have HCD := Lib.hid hcd; have HG := Lib.hid hgood
  clear b5 hcd hgood HB4b HV4b HU4b
  obtain ⟨F, hF⟩ : ∃ F, F = Vu.chk Vh.pF Lib.validD 7 l x 1 := ⟨_, rfl⟩
  obtain ⟨R, hR⟩ : ∃ R, R = encW 7 l x := ⟨_, rfl⟩
  obtain ⟨G, hG⟩ : ∃ G, G = Vu.chk Vh.pF Lib.validD 7 l y 1 := ⟨_, rfl⟩
  obtain ⟨Q, hQ⟩ : ∃ Q, Q = encW 7 l y := ⟨_, rfl⟩
  have enc := Ey.pEnc S c m 6 7 l _ _ _ x w5 HCD.out HG.out.ok (HXX.out.below HB5.out) HFV.out (HT.out.below HB5.out) (by decide)
  rw [← hF, ← hR] at enc
  have enc2 := fun w' (h' : Below w5.heap.size w5 w') => Ey.pEnc S c m' 6 7 l _ _ _ y w' (HCD.out.below h') HG.out.ok (HYY.out.below (HB5.out.trans (h'.mono HB5.out.size))) HFU.out (HT.out.below (HB5.out.trans (h'.mono HB5.out.size))) (by decide)
  rw [← hG, ← hQ] at enc2
  have ENC := Lib.hid enc; have ENC2 := Lib.hid enc2; have HF := Lib.hid hF; have HR := Lib.hid hR; have HG' := Lib.hid hG; have HQ := Lib.hid hQ
  clear enc enc2 hF hR hG hQ
  go_wp2_with (go_at_call 9999)
  go_at_call 15
  refine ENC.out.mono ?_
  rintro _ w6 (⟨v6, h0, rfl, he6, b6⟩ | ⟨A6, c6, h0, rfl, ho6, b6⟩)
  · obtain ⟨k6, rfl⟩ : ∃ k, v6 = .iface 92 (.pointer (some ⟨k, 0, none⟩)) := by
      rcases he6 with ⟨h, -⟩ | ⟨-, k, -, h, -⟩
      · exact absurd h h0
      · exact ⟨k, h⟩
    have hcu6 := fun i => hp_cell (below_hp HU5.out b6) i
    have B6 := Lib.hid b6
    clear b6 he6 hc5 h0
    go_wp2_with (go_at_call 9999)
    go_at_call 15
    refine (ENC2.out w6 B6.out).mono ?_
    intro e w7 he7
    have he7' : (∃ A7 m7 c7 v7, e = .returned (.tuple #[.slice A7 m7 c7, v7])) ∧ Below w6.heap.size w6 w7 := by
      rcases he7 with ⟨v7, -, rfl, -, b7⟩ | ⟨A7, c7, -, rfl, -, b7⟩
      · exact ⟨⟨_, _, _, _, rfl⟩, b7⟩
      · exact ⟨⟨_, _, _, _, rfl⟩, b7⟩
    obtain ⟨⟨A7, m7, c7, v7, rfl⟩, b7⟩ := he7'
    have hB7 := HB5.out.trans ((B6.out.trans (b7.mono B6.out.size)).mono HB5.out.size)
    have B7 := Lib.hid hB7
    clear b7 hcu6 he7 hB7
    go_wp2_with fail
    refine wp_region_calm (S := Past W) (by kernel_rfl) (by kernel_rfl) B7.out.drew ?_
    intro hN
    repeat (go_big_quiet_step (fail))
    refine wpQuiet_nil ?_
    intro u
    have hub : Below W.heap.size W u.w := u.h
    go_wp2_with fail
    go_ret
    exact ⟨rfl, hub⟩
  have hcu6 := fun i => hp_cell (below_hp HU5.out b6) i
  have B6 := Lib.hid b6; have HO6 := Lib.hid ho6; have H0 := Lib.hid h0
  clear b6 ho6 hc5 h0
  go_wp2_with (go_at_call 9999)
  go_at_call 15
  refine (ENC2.out w6 B6.out).mono ?_
  rintro _ w7 (⟨v7, g0, rfl, he7, b7⟩ | ⟨A7, c7, g0, rfl, ho7, b7⟩)
  · obtain ⟨k7, rfl⟩ : ∃ k, v7 = .iface 92 (.pointer (some ⟨k, 0, none⟩)) := by
      rcases he7 with ⟨h, -⟩ | ⟨-, k, -, h, -⟩
      · exact absurd h g0
      · exact ⟨k, h⟩
    have hB7 := HB5.out.trans ((B6.out.trans (b7.mono B6.out.size)).mono HB5.out.size)
    have B7 := Lib.hid hB7
    clear b7 hcu6 he7 hB7 g0
    go_wp2_with fail
    refine wp_region_calm (S := Past W) (by kernel_rfl) (by kernel_rfl) B7.out.drew ?_
    intro hN
    repeat (go_big_quiet_step (fail))
    refine wpQuiet_nil ?_
    intro u
    have hub : Below W.heap.size W u.w := u.h
    go_wp2_with fail
    go_ret
    exact ⟨rfl, hub⟩
  have B7 := Lib.hid (B6.out.trans (b7.mono B6.out.size))
  have H7 := Lib.hid (HB5.out.trans (B7.out.mono HB5.out.size))
  have hV : ∀ (u : Held (Past w7)) i, u.w.cell? ⟨W.heap.size, i, none⟩ = _ := fun u i => hp_cell (below_hp (below_hp HV5.out B7.out) u.h) i
  have hU : ∀ (u : Held (Past w7)) i, u.w.cell? ⟨W.heap.size + 1, i, none⟩ = _ := fun u i => hp_cell (below_hp (below_hp HU5.out B7.out) u.h) i
  have hs1 : ∀ (u : Held (Past w7)), (convert 24 9 (.slice A6 R.length c6)).run Tryd.prog u.w = .ok (.string ⟨R.toArray⟩) u.w := fun u => run_str Nm.u8 Tryd.underlying5 Tryd.underlying9 ((HO6.out.below b7).below u.h).rd
  have hs2 : ∀ (u : Held (Past w7)), (convert 24 9 (.slice A7 Q.length c7)).run Tryd.prog u.w = .ok (.string ⟨Q.toArray⟩) u.w := fun u => run_str Nm.u8 Tryd.underlying5 Tryd.underlying9 (ho7.below u.h).rd
  obtain ⟨rr, hrr⟩ : ∃ rr : Bool, (rr = true ↔ x = y) := by
    by_cases hxy : x = y
    · exact ⟨true, by simp [hxy]⟩
    · exact ⟨false, by simp [hxy]⟩
  have hsame : ∀ (u : Held (Past w7)), Calls Tryd.prog 19 #[.agg #[.int .u64 x.num, .slice Ad x.data.length cd, .slice Ap x.parts.length cp], .agg #[.int .u64 y.num, .slice Ad' y.data.length cd', .slice Ap' y.parts.length cp']] u.w fun e w' => e = .returned (.bool rr) ∧ Below u.w.heap.size u.w w' := fun u => by
    have hbu := H7.out.trans (Below.mono u.h H7.out.size)
    refine (Sm.same m m' _ _ _ _ _ _ x y u.w (HXX.out.below hbu) (HYY.out.below hbu) (Yg.pb_le (Nat.le_succ m) (Yg.pb_of (m + 1) x HFV.out))).mono ?_
    rintro _ w' ⟨r, rfl, hr, hb⟩
    have : r = rr := by
      have h1 : r = true ↔ rr = true := hr.trans hrr.symm
      cases r <;> cases rr <;> simp_all
    exact ⟨by rw [this], hb⟩
  have hk1 : (Vu.chk Vh.pF Lib.validD 7 l x 1).2.2 = 0 := HF.out ▸ H0.out
  have hk2 : (Vu.chk Vh.pF Lib.validD 7 l y 1).2.2 = 0 := HG'.out ▸ g0
  obtain ⟨-, -, hback1⟩ := Yc.back Lib.validD 7 l x 1 (m + 1) HG.out.sch HG.out.room hk1 (Yg.num_of HXX.out)
  obtain ⟨-, -, hback2⟩ := Yc.back Lib.validD 7 l y 1 (m' + 1) HG.out.sch HG.out.room hk2 (Yg.num_of HYY.out)
  have heq : (R == Q) = rr := by
    have h2 : R = Q ↔ x = y := by
      constructor
      · intro h
        have a1 := hback1 0
        have a2 := hback2 0
        rw [← HR.out, h] at a1
        rw [← HQ.out, a1] at a2
        exact (Prod.mk.inj a2).2
      · intro h
        rw [HR.out, HQ.out, h]
    have h3 : (R == Q) = true ↔ rr = true := by
      rw [hrr, ← h2]
      simp
    cases rr <;> cases hh : (R == Q) <;> simp_all
  have HS := Lib.hid hsame; have HEQ := Lib.hid heq
  clear heq b7 ho7 hcu6 hsame hk1 hk2 hback1 hback2 g0 hrr
  go_wp2_with fail
  refine wp_region_calm (S := Past w7) (by kernel_rfl) (by kernel_rfl) (Below.refl _ _).drew ?_
  intro hN
  repeat (go_big_quiet_step (first | (go_at_call 19; exact calm_call (HS.out _) (fun w' hs hr => hs.on hr))))
  refine wpQuiet_nil ?_
  intro u
  have hub : Below W.heap.size W u.w := H7.out.trans (Below.mono u.h H7.out.size)
  clear hV hU hs1 hs2
  go_wp2_with fail
  go_ret
  refine ⟨?_, hub⟩
  show Ending.returned (.bool ((R == Q) == rr)) = _
  rw [HEQ.out]
  cases rr <;> rfl
end Go.Proofs.YtinngljphjdpoaaDoor.Wn
