/- The law SchemaOnly, walked. -/
import Derived.Test.YtinngljphjdpoaaDoorJLi
import Derived.Test.YtinngljphjdpoaaDoorJYk
import Derived.Test.YtinngljphjdpoaaDoorJRa
namespace Go.Proofs.YtinngljphjdpoaaDoor.Wo
open Go Go.RowKit Go.Proofs.YtinngljphjdpoaaDoor.Pa Go.Proofs.YtinngljphjdpoaaDoor.Pb Go.Proofs.YtinngljphjdpoaaDoor.Pc Go.Proofs.YtinngljphjdpoaaDoor.Pf Go.Proofs.YtinngljphjdpoaaDoor.Sc Go.Proofs.YtinngljphjdpoaaDoor.Rs Go.Proofs.YtinngljphjdpoaaDoor.Sl Go.Proofs.YtinngljphjdpoaaDoor.Hs Go.Proofs.YtinngljphjdpoaaDoor.Vu Go.Proofs.YtinngljphjdpoaaDoor.Vo Go.Proofs.YtinngljphjdpoaaDoor.Ca Go.Proofs.YtinngljphjdpoaaDoor.Cm Go.Proofs.YtinngljphjdpoaaDoor.Ra Go.Proofs.YtinngljphjdpoaaDoor.Ea Go.Proofs.YtinngljphjdpoaaDoor.Hx Go.Proofs.YtinngljphjdpoaaDoor.Ow Go.Proofs.YtinngljphjdpoaaDoor.Es Go.Proofs.YtinngljphjdpoaaDoor.Rv Go.Proofs.YtinngljphjdpoaaDoor.Gw Go.Proofs.YtinngljphjdpoaaDoor.Yk Go.Proofs.YtinngljphjdpoaaDoor.Yb
set_option linter.unusedVariables false
set_option linter.unusedSimpArgs false
set_option maxHeartbeats 2000000 in
set_option maxRecDepth 100000 in
theorem walk {n : Nat} {v bv : Value} {l : List Slot} {b : List UInt8} (W : World) (h : RdS W n v l) (hx : Rd W bv b) (hbl : b.length ≤ 140737488351232) (hT : Vh.TabU W) :
    Calls Tryd.prog 4 #[v, bv] W fun e w' => e = .returned (.bool true) ∧ Below W.heap.size W w' := by
  obtain ⟨A, c0, rfl, hlc, hcm⟩ := h.slice
  have hxx := hx
  obtain ⟨Ad, cd, rfl, -⟩ := hx
  have LIV := Lib.hid (fun w' (h' : Below W.heap.size W w') => Li.lives w' (hT.below h'))
  have BG := Lib.hid (fun w' (h' : Below W.heap.size W w') => big w' (h.below h'))
  have COMP := Lib.hid (fun w' (h' : Below W.heap.size W w') => comp w' (h.below h'))
  have HXX := Lib.hid hxx; have HT := Lib.hid hT; have HBL := Lib.hid hbl
  clear hxx hT h hbl
  go_enter Tryd.func4, Tryd.ntmps4
  go_wp2_with (go_at_call 9999)
  go_at_call 11
  refine (LIV.out _ (Below.refl _ _)).mono ?_
  rintro _ w2 ⟨rfl, b2⟩
  have HB2 := Lib.hid b2
  clear b2
  go_wp2_with (go_at_call 9999)
  go_at_call 12
  refine (BG.out _ HB2.out).mono ?_
  rintro _ w3 ⟨he, rfl⟩
  by_cases hbig : sl n l 10000 < 0
  · rw [decide_eq_true hbig] at he
    subst he
    clear hbig
    go_wp2_with (go_at_call 9999)
    go_at_call 11
    refine (LIV.out _ HB2.out).mono ?_
    rintro _ w4 ⟨rfl, b4⟩
    have HB4 := Lib.hid (HB2.out.trans (b4.mono HB2.out.size)); clear b4
    go_wp2_with fail
    go_ret
    exact ⟨rfl, HB4.out⟩
  rw [decide_eq_false hbig] at he
  subst he
  clear hbig
  go_wp2_with (go_at_call 9999)
  go_at_call 14
  refine (COMP.out _ HB2.out).mono ?_
  rintro _ w5 ⟨⟨z, hz, rfl⟩ | ⟨c, rfl, ⟨S, hcd⟩, hgood⟩, b5⟩
  · have HB5 := Lib.hid (HB2.out.trans (b5.mono HB2.out.size)); clear b5
    go_wp2_with fail
    go_ret
    exact ⟨rfl, HB5.out⟩
  have HB5 := Lib.hid (HB2.out.trans (b5.mono HB2.out.size))
  have HCD := Lib.hid hcd; have HG := Lib.hid hgood
  clear b5 hcd hgood HB2
  have dec := De.pDec Lib.validD Uv.utf S c 6 7 l _ b w5 HCD.out (HXX.out.below HB5.out) HG.out.ok (HT.out.below HB5.out) (by have := HBL.out; omega)
  obtain ⟨F, hF⟩ : ∃ F, F = (rdv Lib.validD 7 l b 0).1 := ⟨_, rfl⟩
  obtain ⟨X, hX⟩ : ∃ X, X = (rdv Lib.validD 7 l b 0).2 := ⟨_, rfl⟩
  rw [← hF, ← hX] at dec
  have DEC := Lib.hid dec; have HF := Lib.hid hF; have HX := Lib.hid hX
  clear dec hF hX
  go_wp2_with (go_at_call 9999)
  go_at_call 17
  refine DEC.out.mono ?_
  rintro _ w6 ⟨⟨h0, v6, rfl, he6⟩ | ⟨h0, nv6, dv6, pv6, rfl, ho6⟩, b6⟩
  · obtain ⟨k6, rfl⟩ : ∃ k, v6 = .iface 92 (.pointer (some ⟨k, 0, none⟩)) := by
      rcases he6 with ⟨h, -⟩ | ⟨-, k, -, h, -⟩
      · exact absurd h h0
      · exact ⟨k, h⟩
    have B6 := Lib.hid b6
    clear b6 he6 h0
    go_wp2_with fail
    go_ret
    refine ⟨rfl, ?_⟩
    have hb : Below W.heap.size W w6 := HB5.out.trans (B6.out.mono HB5.out.size)
    exact hb.alloc hb.size _
  have hr0 : (rdv Lib.validD 7 l b 0).1.2.2 = 0 := HF.out ▸ h0
  have hrd6 := ho6.rd
  obtain ⟨hchk, henc, hwe, hfl, -⟩ := Yc.only Lib.validD 7 l b 0 1 HG.out.sch hr0
  have hfew := Yg.few_rdv Lib.validD 7 l b 0 HG.out.sch hr0
  rw [← HX.out] at hchk henc hfew
  obtain ⟨hr1, hr2, -⟩ := Yc.back Lib.validD 7 l X 1 _ HG.out.sch HG.out.room hchk (Yg.num_of hrd6)
  rw [henc] at hr1 hr2
  obtain ⟨-, rfl, x3, x4⟩ := ho6
  obtain ⟨A8, c8, rfl⟩ := x3.slice
  obtain ⟨A9, c9, -, -, -, e2', -⟩ := id x4
  subst e2'
  obtain ⟨w7, hw7⟩ : ∃ y, y = w6.alloc (.cells #[.int .u64 (X.num : Int), .slice A8 X.data.length c8, .slice A9 X.parts.length c9] 27) := ⟨_, rfl⟩
  have hb7 : Below w6.heap.size w6 w7 := by rw [hw7]; exact vb _ _
  have hq7 : Pa.hp w7 w6.heap.size = some (.cells #[.int .u64 (X.num : Int), .slice A8 X.data.length c8, .slice A9 X.parts.length c9] 27 (0, 0)) := by rw [hw7]; exact hp_alloc_at _ _ rfl
  have hq7c := fun i => hp_cell hq7 i
  have hb57 : Below w5.heap.size w5 w7 := b6.trans (hb7.mono b6.size)
  have hbW7 := HB5.out.trans (hb57.mono HB5.out.size)
  have enc := Ey.pEnc S c (2 * 7 + 1) 6 7 l _ _ _ X w7 (HCD.out.below hb57) HG.out.ok (hrd6.below hb7) (Yg.few_up (by omega) hfew) (HT.out.below hbW7) (by decide)
  have chk := fun w' (h' : Below w7.heap.size w7 w') => Vj.pCheck Lib.validD Uv.utf S c (2 * 7 + 1) 7 l _ _ _ X w' (HCD.out.below (hb57.trans (h'.mono hb57.size))) ((hrd6.below hb7).below h') (HT.out.below (hbW7.trans (h'.mono hbW7.size))) (by decide)
  rw [henc] at enc
  obtain ⟨G, hG⟩ : ∃ G, G = Vu.chk Vh.pF Lib.validD 7 l X 1 := ⟨_, rfl⟩
  rw [← hG] at hchk enc chk
  have wdec := fun w' (h' : Below w7.heap.size w7 w') => Gd.decode _ b w' ((HXX.out.below hbW7).below h') (by have := HBL.out; omega)
  rw [hwe] at wdec
  have rng := fun w' (h' : Below w7.heap.size w7 w') => Ra.pRange (HCD.out.below (hb57.trans (h'.mono hb57.size)))
  rw [HG.out.least, HG.out.most] at rng
  obtain ⟨a, ha⟩ : ∃ a, a = (exSpan 7 l).1 := ⟨_, rfl⟩
  obtain ⟨z, hz⟩ : ∃ z, z = (exSpan 7 l).2 := ⟨_, rfl⟩
  rw [← ha] at hr1 rng
  rw [← hz] at hr2 rng
  obtain ⟨fl, hfls⟩ : ∃ fl, fl = (Hq.D b 0 0).fs.length := ⟨_, rfl⟩
  rw [← hfls] at hfl wdec
  have hi1 : (a : Int) ≤ (b.length : Int) := by omega
  have hi2 : (b.length : Int) ≤ (z : Int) := by omega
  have hi3 : (fl : Int) = (l.length : Int) := by omega
  have ENC := Lib.hid enc; have CHK := Lib.hid chk; have WDEC := Lib.hid wdec; have RNG := Lib.hid rng; have B7 := Lib.hid hbW7; have H0 := Lib.hid hchk; have HQ7 := Lib.hid hq7
  clear enc chk wdec rng hG ha hz hfls hb57 hbW7 hb7 hq7 x3 x4 b6 hrd6 hr0 hr1 hr2 hfl hfew henc hwe hchk h0 DEC HF HX
  unfold ptr at CHK RNG
  go_upto_region 9 with fail
  rw [← hw7]
  clear hw7
  go_wp2_with (go_at_call 9999)
  go_at_call 15
  refine ENC.out.mono ?_
  rintro _ w8 (⟨v8, h0, -⟩ | ⟨A10, c10, -, rfl, ho8, b8⟩)
  · exact absurd H0.out h0
  have B8 := Lib.hid b8; have HO8 := Lib.hid ho8
  clear b8 ho8 hq7c
  go_wp2_with (go_at_call 9999)
  go_at_call 20
  refine (WDEC.out w8 B8.out).mono ?_
  rintro _ w9 ⟨v9, rfl, b9, hx9⟩
  obtain ⟨A11, c11, xs, rfl, -⟩ := hx9 (by trivial)
  have B9 := Lib.hid (B8.out.trans (b9.mono B8.out.size)); have HO9 := Lib.hid (HO8.out.below b9)
  clear b9 hx9
  go_wp2_with (go_at_call 9999)
  go_at_call 18
  refine (RNG.out w9 B9.out).mono ?_
  rintro _ w10 ⟨rfl, b10⟩
  have hq10 := fun i => hp_cell (below_hp HQ7.out (B9.out.trans (b10.mono B9.out.size))) i
  have B10 := Lib.hid (B9.out.trans (b10.mono B9.out.size)); have HO10 := Lib.hid (HO9.out.below b10)
  clear b10
  go_wp2_with (go_at_call 9999)
  go_at_call 16
  refine (CHK.out w10 B10.out).mono ?_
  rintro _ w11 ⟨v11, rfl, he11, b11⟩
  obtain rfl : v11 = .nilIface := by
    rcases he11 with ⟨-, h⟩ | ⟨h, -⟩
    · exact h
    · exact absurd H0.out h
  have B11 := Lib.hid (B7.out.trans ((B10.out.trans (b11.mono B10.out.size)).mono B7.out.size))
  have hcs1 := run_str Nm.u8 Tryd.underlying5 Tryd.underlying9 (HO10.out.below b11).rd
  have hcs2 := run_str Nm.u8 Tryd.underlying5 Tryd.underlying9 (HXX.out.below B11.out)
  clear b11 he11 hq10
  go_wp2_with fail
  go_ret
  exact ⟨rfl, B11.out⟩
end Go.Proofs.YtinngljphjdpoaaDoor.Wo
