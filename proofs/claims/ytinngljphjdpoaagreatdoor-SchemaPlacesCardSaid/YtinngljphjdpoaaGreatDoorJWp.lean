/- The law SchemaPlaces, walked. -/
import Derived.Test.YtinngljphjdpoaaGreatDoorJYk
import Derived.Test.YtinngljphjdpoaaGreatDoorJRa
import Derived.Test.YtinngljphjdpoaaGreatDoorJKu
namespace Go.Proofs.YtinngljphjdpoaaGreatDoor.Wp
open Go Go.RowKit Go.Proofs.YtinngljphjdpoaaGreatDoor.Pa Go.Proofs.YtinngljphjdpoaaGreatDoor.Pb Go.Proofs.YtinngljphjdpoaaGreatDoor.Pc Go.Proofs.YtinngljphjdpoaaGreatDoor.Pf Go.Proofs.YtinngljphjdpoaaGreatDoor.Sc Go.Proofs.YtinngljphjdpoaaGreatDoor.Rs Go.Proofs.YtinngljphjdpoaaGreatDoor.Sl Go.Proofs.YtinngljphjdpoaaGreatDoor.Hs Go.Proofs.YtinngljphjdpoaaGreatDoor.Vu Go.Proofs.YtinngljphjdpoaaGreatDoor.Vo Go.Proofs.YtinngljphjdpoaaGreatDoor.Ca Go.Proofs.YtinngljphjdpoaaGreatDoor.Cm Go.Proofs.YtinngljphjdpoaaGreatDoor.Ra Go.Proofs.YtinngljphjdpoaaGreatDoor.Ea Go.Proofs.YtinngljphjdpoaaGreatDoor.Hx Go.Proofs.YtinngljphjdpoaaGreatDoor.Ow Go.Proofs.YtinngljphjdpoaaGreatDoor.Es Go.Proofs.YtinngljphjdpoaaGreatDoor.Rv Go.Proofs.YtinngljphjdpoaaGreatDoor.Yk Go.Proofs.YtinngljphjdpoaaGreatDoor.Yb
set_option linter.unusedVariables false
set_option linter.unusedSimpArgs false
set_option maxHeartbeats 2000000 in
set_option maxRecDepth 100000 in
theorem walk {n m : Nat} {v nv dv pv : Value} {l : List Slot} {x : Vu.Va} (W : World) (h : RdS W n v l) {bv : Value} {b : List UInt8} (hbr : Rd W bv b) (hbl : b.length ≤ 140737488351232) (hx : Vu.RdV W m nv dv pv x) (hT : Vh.TabU W) (hE : Fz.Et W) :
    Calls Tryz.prog 7 #[v, bv, .agg #[nv, dv, pv]] W fun e w' => e = .returned (.bool true) ∧ Below W.heap.size W w' := by
  obtain ⟨A, c0, rfl, -⟩ := h.slice
  have hxx := hx
  obtain ⟨hnum, rfl, hdv, hpv⟩ := hx
  obtain ⟨Ad, cd, rfl, -⟩ := hdv
  obtain ⟨Ap, cp, rfl, -⟩ := hpv.slice
  clear hpv
  have hbb := hbr
  obtain ⟨Ab, cb0, rfl, -⟩ := hbr
  have HBR := Lib.hid hbb; have HBL := Lib.hid hbl; have HE := Lib.hid hE
  clear hbb hbl hE
  obtain ⟨w1, hw1⟩ : ∃ y, y = W.alloc (.cells #[.int .u64 x.num, .slice Ad x.data.length cd, .slice Ap x.parts.length cp] 32) := ⟨_, rfl⟩
  have hb1 : Below W.heap.size W w1 := by rw [hw1]; exact vb _ _
  have hv1 : Pa.hp w1 W.heap.size = some (.cells #[.int .u64 x.num, .slice Ad x.data.length cd, .slice Ap x.parts.length cp] 32 (0, 0)) := by rw [hw1]; exact hp_alloc_at _ _ rfl
  have LIV := Lib.hid (fun w' (h' : Below W.heap.size W w') => Li.lives w' (hT.below h'))
  have BG := Lib.hid (fun w' (h' : Below W.heap.size W w') => big w' (h.below h'))
  have BV := Lib.hid (fun w' (h' : Below W.heap.size W w') => Vk.big w' hxx h')
  have COMP := Lib.hid (fun w' (h' : Below W.heap.size W w') => comp w' (h.below h'))
  have HB1 := Lib.hid hb1; have HV1 := Lib.hid hv1; have HXX := Lib.hid hxx; have HT := Lib.hid hT
  clear hb1 hv1 hxx hT h
  go_enter Tryz.func7, Tryz.ntmps7
  go_wp2_with (go_at_call 9999)
  rw [← hw1]
  clear hw1
  go_at_call 32
  refine (LIV.out _ HB1.out).mono ?_
  rintro _ w2 ⟨rfl, b2⟩
  have HB2 := Lib.hid (HB1.out.trans (b2.mono HB1.out.size)); have HV2 := Lib.hid (below_hp HV1.out b2)
  have hc2 := fun i => hp_cell HV2.out i
  clear b2 HB1 HV1
  go_wp2_with (go_at_call 9999)
  go_at_call 10
  refine (BG.out _ HB2.out).mono ?_
  rintro _ w3 ⟨he, rfl⟩
  by_cases hbig : sl n l 10000 < 0
  · rw [decide_eq_true hbig] at he
    subst he
    clear hbig hc2
    go_wp2_with (go_at_call 9999)
    go_at_call 32
    refine (LIV.out _ HB2.out).mono ?_
    rintro _ w4 ⟨rfl, b4⟩
    have HB4 := Lib.hid (HB2.out.trans (b4.mono HB2.out.size)); clear b4
    go_wp2_with fail
    go_ret
    exact ⟨rfl, HB4.out⟩
  rw [decide_eq_false hbig] at he
  subst he
  clear hbig
  go_wp2_with (go_at_call 9999)
  go_at_call 25
  refine (BV.out _ HB2.out).mono ?_
  rintro _ w4 ⟨he, b4⟩
  have HB4 := Lib.hid (HB2.out.trans (b4.mono HB2.out.size)); have HV4 := Lib.hid (below_hp HV2.out b4)
  clear b4 hc2 HB2 HV2
  by_cases hbig : vl (m + 1) x 10000 < 0
  · rw [decide_eq_true hbig] at he
    subst he
    clear hbig
    go_wp2_with (go_at_call 9999)
    go_at_call 32
    refine (LIV.out _ HB4.out).mono ?_
    rintro _ w5 ⟨rfl, b5⟩
    have HB5 := Lib.hid (HB4.out.trans (b5.mono HB4.out.size)); clear b5
    go_wp2_with fail
    go_ret
    exact ⟨rfl, HB5.out⟩
  rw [decide_eq_false hbig] at he
  subst he
  have hlv : lv (m + 1) x := fun y hy => RdP.lv m _ _ HXX.out.2.2.2 y hy
  have HFV := Lib.hid (Vo.few_of (m + 1) x 10000 hlv (by omega) (by omega))
  clear hbig hlv
  go_wp2_with (go_at_call 9999)
  go_at_call 33
  refine (COMP.out _ HB4.out).mono ?_
  rintro _ w5 ⟨⟨z, hz, rfl⟩ | ⟨c, rfl, ⟨S, hcd⟩, hgood⟩, b5⟩
  · have HB5 := Lib.hid (HB4.out.trans (b5.mono HB4.out.size)); clear b5
    go_wp2_with fail
    go_ret
    exact ⟨rfl, HB5.out⟩
  have HB5 := Lib.hid (HB4.out.trans (b5.mono HB4.out.size)); have HV5 := Lib.hid (below_hp HV4.out b5)
  have hc5 := fun i => hp_cell HV5.out i
  have HCD := Lib.hid hcd; have HG := Lib.hid hgood
  clear b5 hcd hgood HB4 HV4
  obtain ⟨F, hF⟩ : ∃ F, F = (rdv Lib.validD 7 l b 0).1 := ⟨_, rfl⟩
  obtain ⟨X, hX⟩ : ∃ X, X = (rdv Lib.validD 7 l b 0).2 := ⟨_, rfl⟩
  obtain ⟨G, hG⟩ : ∃ G, G = Vu.chk Vh.pF Lib.validD 7 l x 1 := ⟨_, rfl⟩
  have dec := De.pDec Lib.validD Uv.utf S c 6 7 l _ b w5 HCD.out (HBR.out.below HB5.out) HG.out.ok (HT.out.below HB5.out) (by have := HBL.out; omega)
  rw [← hF, ← hX] at dec
  have chk := fun w' (h' : Below w5.heap.size w5 w') => Vj.pCheck Lib.validD Uv.utf S c m 7 l _ _ _ x w' (HCD.out.below h') (HXX.out.below (HB5.out.trans (h'.mono HB5.out.size))) (HT.out.below (HB5.out.trans (h'.mono HB5.out.size))) (by decide)
  rw [← hG] at chk
  have hins := Ye.inside Lib.validD 7 l b 0
  rw [← hF] at hins
  have hcin := Ye.c_chk Vh.pF Yg.pf_in Lib.validD 6 7 l x 1 HG.out.ok
  rw [← hG] at hcin
  have DEC := Lib.hid dec; have CHK := Lib.hid chk; have HINS := Lib.hid hins; have HCIN := Lib.hid hcin
  clear dec chk hF hX hG hins hcin
  unfold ptr at CHK
  go_wp2_with (go_at_call 9999)
  go_at_call 12
  refine DEC.out.mono ?_
  intro e6 w6 he6
  obtain ⟨n6, A8, m8, c8, A9, m9, c9, v6, rfl, hv6, b6⟩ : ∃ (n6 : Int) (A8 : Option Addr) (m8 c8 : Nat) (A9 : Option Addr) (m9 c9 : Nat) (v6 : Value), e6 = .returned (.tuple #[.agg #[.int .u64 n6, .slice A8 m8 c8, .slice A9 m9 c9], v6]) ∧ Vj.ErrOf F w5.heap.size v6 w6 ∧ Below w5.heap.size w5 w6 := by
    obtain ⟨⟨h0, v6, rfl, he⟩ | ⟨h0, nv6, dv6, pv6, rfl, ho⟩, b6⟩ := he6
    · exact ⟨0, none, 0, 0, none, 0, 0, v6, rfl, he, b6⟩
    · obtain ⟨-, rfl, x3, x4⟩ := ho
      obtain ⟨A8, c8, rfl⟩ := x3.slice
      obtain ⟨A9, c9, -, -, -, e2', -⟩ := id x4
      subst e2'
      exact ⟨_, _, _, _, _, _, _, _, rfl, .inl ⟨h0, rfl⟩, b6⟩
  clear he6
  have HV6 := Lib.hid (below_hp HV5.out b6)
  obtain ⟨w7, hw7⟩ : ∃ y, y = (w6.alloc (.cells #[.int .u64 n6, .slice A8 m8 c8, .slice A9 m9 c9] 32)).alloc (.cells #[.pointer none] 76) := ⟨_, rfl⟩
  have hb7 : Below w6.heap.size w6 w7 := by rw [hw7]; exact Vh.b2 w6 _ _
  have ht7 : Pa.hp w7 (w6.heap.size + 1) = some (.cells #[.pointer none] 76 (0, 0)) := by rw [hw7]; exact hp_alloc_at _ _ (by simp)
  have hs7 : w7.heap.size = w6.heap.size + 2 := by rw [hw7]; simp
  have h57 : Below w5.heap.size w5 w7 := b6.trans (hb7.mono b6.size)
  rcases hv6 with ⟨h0, rfl⟩ | ⟨h0, k6, hk6, rfl, hf6⟩
  · have BX := Lib.hid h57
    have hcx := fun i => hp_cell (below_hp HV6.out hb7) i
    clear h57 hc5 hb7 ht7 hs7 b6 h0
    go_upto_region 8 with fail
    rw [← hw7]
    clear hw7
    go_wp2_with (go_at_call 9999)
    go_at_call 28
    refine (CHK.out w7 BX.out).mono ?_
    rintro _ w9 ⟨v9, rfl, he9, b9⟩
    rcases he9 with ⟨g0, rfl⟩ | ⟨g0, k9, hk9, rfl, hf9⟩
    · have BN := Lib.hid (HB5.out.trans ((BX.out.trans (b9.mono BX.out.size)).mono HB5.out.size))
      clear b9 hcx
      go_wp2_with fail
      go_ret
      exact ⟨rfl, BN.out.alloc BN.out.size _⟩
    obtain ⟨G1, G2, G3⟩ := G
    obtain ⟨wa, hwa⟩ : ∃ y, y = w9.alloc (.cells #[.pointer none] 76) := ⟨_, rfl⟩
    have hba : Below w9.heap.size w9 wa := by rw [hwa]; exact vb _ _
    have hsa : wa.heap.size = w9.heap.size + 1 := by rw [hwa]; simp
    have hta : Pa.hp wa w9.heap.size = some (.cells #[.pointer none] 76 (0, 0)) := by rw [hwa]; exact hp_alloc_at _ _ rfl
    have hfa := below_hp hf9 hba
    have hklt : k9 < w9.heap.size := (Array.getElem?_eq_some_iff.1 hf9).1
    have hBa := HB5.out.trans ((BX.out.trans ((b9.trans (hba.mono b9.size)).mono BX.out.size)).mono HB5.out.size)
    have AS := Lib.hid (Fj.as_full k9 w9.heap.size _ wa hfa hta (by omega) (HE.out.below hBa))
    obtain ⟨q1, q2, q3, q4, q5⟩ := HCIN.out g0
    have HBA := Lib.hid hBa; have HFA := Lib.hid hfa; have HK := Lib.hid (show k9 < wa.heap.size ∧ k9 ≠ w9.heap.size ∧ W.heap.size ≤ wa.heap.size ∧ W.heap.size ≤ w9.heap.size from ⟨by omega, by omega, hBa.size, by have := (HB5.out.trans ((BX.out.trans (b9.mono BX.out.size)).mono HB5.out.size)).size; omega⟩)
    have H0 := Lib.hid g0
    simp only at q1 q2 q3 q4 q5
    have q2 : G1 ≤ 6 := by omega
    clear b9 hcx hba hta hfa hklt hBa hf9 hk9 g0 hsa
    go_upto_region 12 with fail
    rw [← hwa]
    clear hwa
    go_wp2_with (go_at_call 9999)
    go_at_call 34
    refine AS.out.mono ?_
    rintro _ wb ⟨rfl, htb, hob, hbb⟩
    have hfb := (hob k9 HK.out.1 HK.out.2.1).trans HFA.out
    have hBb := hbb _ _ HBA.out HK.out.2.2.1 HK.out.2.2.2
    have HBB := Lib.hid hBb
    have ct := fun i => hp_cell htb i
    have cf := fun i => hp_cell hfb i
    clear htb hob hbb hfb hBb
    rcases q5 with rfl | rfl | rfl
    all_goals
      go_wp2_with fail
      go_ret
      exact ⟨rfl, HBB.out⟩
  obtain ⟨F1, F2, F3⟩ := F
  obtain ⟨p1, p2, p3⟩ := HINS.out h0
  simp only at p1 p2 p3 h0
  subst p1
  have p3 : F2 ≤ (b.length : Int) := by omega
  have h3z : (F3 == 0) = false := by simpa using h0
  have hk6lt : k6 < w6.heap.size := (Array.getElem?_eq_some_iff.1 hf6).1
  have hB7 := HB5.out.trans (h57.mono HB5.out.size)
  have AS := Lib.hid (Fj.as_full k6 (w6.heap.size + 1) _ w7 (below_hp hf6 hb7) ht7 (by omega) (HE.out.below hB7))
  have HK := Lib.hid (show k6 < w7.heap.size ∧ k6 ≠ w6.heap.size + 1 ∧ w5.heap.size ≤ w7.heap.size ∧ w5.heap.size ≤ w6.heap.size + 1 ∧ W.heap.size < w7.heap.size ∧ W.heap.size ≠ w6.heap.size + 1 from by
    have h1 := b6.size
    have h2 := (Array.getElem?_eq_some_iff.1 HV6.out).1
    omega)
  have HF7 := Lib.hid (below_hp hf6 hb7); have HV7 := Lib.hid (below_hp HV6.out hb7); have H57 := Lib.hid h57
  clear h57 hc5 hb7 ht7 hs7 b6 hk6 hk6lt hf6 hB7
  go_upto_region 8 with fail
  rw [← hw7]
  clear hw7
  go_wp2_with (go_at_call 9999)
  go_at_call 34
  refine AS.out.mono ?_
  rintro _ w8 ⟨rfl, ht8, ho8, hb8⟩
  have hf8 := (ho8 k6 HK.out.1 HK.out.2.1).trans HF7.out
  have hv8 := (ho8 W.heap.size HK.out.2.2.2.2.1 HK.out.2.2.2.2.2).trans HV7.out
  have BX := Lib.hid (hb8 _ _ H57.out HK.out.2.2.1 HK.out.2.2.2.1)
  have ct := fun i => hp_cell ht8 i
  have cf := fun i => hp_cell hf8 i
  have hcx := fun i => hp_cell hv8 i
  clear ht8 ho8 hb8 hf8 hv8
  go_upto_region 10 with fail
  clear ct cf p2 p3 h0 h3z
  go_wp2_with (go_at_call 9999)
  go_at_call 28
  refine (CHK.out w8 BX.out).mono ?_
  rintro _ w9 ⟨v9, rfl, he9, b9⟩
  rcases he9 with ⟨g0, rfl⟩ | ⟨g0, k9, hk9, rfl, hf9⟩
  · have BN := Lib.hid (HB5.out.trans ((BX.out.trans (b9.mono BX.out.size)).mono HB5.out.size))
    clear b9 hcx
    go_wp2_with fail
    go_ret
    exact ⟨rfl, BN.out.alloc BN.out.size _⟩
  obtain ⟨G1, G2, G3⟩ := G
  obtain ⟨wa, hwa⟩ : ∃ y, y = w9.alloc (.cells #[.pointer none] 76) := ⟨_, rfl⟩
  have hba : Below w9.heap.size w9 wa := by rw [hwa]; exact vb _ _
  have hsa : wa.heap.size = w9.heap.size + 1 := by rw [hwa]; simp
  have hta : Pa.hp wa w9.heap.size = some (.cells #[.pointer none] 76 (0, 0)) := by rw [hwa]; exact hp_alloc_at _ _ rfl
  have hfa := below_hp hf9 hba
  have hklt : k9 < w9.heap.size := (Array.getElem?_eq_some_iff.1 hf9).1
  have hBa := HB5.out.trans ((BX.out.trans ((b9.trans (hba.mono b9.size)).mono BX.out.size)).mono HB5.out.size)
  have AS := Lib.hid (Fj.as_full k9 w9.heap.size _ wa hfa hta (by omega) (HE.out.below hBa))
  obtain ⟨q1, q2, q3, q4, q5⟩ := HCIN.out g0
  have HBA := Lib.hid hBa; have HFA := Lib.hid hfa; have HK := Lib.hid (show k9 < wa.heap.size ∧ k9 ≠ w9.heap.size ∧ W.heap.size ≤ wa.heap.size ∧ W.heap.size ≤ w9.heap.size from ⟨by omega, by omega, hBa.size, by have := (HB5.out.trans ((BX.out.trans (b9.mono BX.out.size)).mono HB5.out.size)).size; omega⟩)
  have H0 := Lib.hid g0
  simp only at q1 q2 q3 q4 q5
  have q2 : G1 ≤ 6 := by omega
  clear b9 hcx hba hta hfa hklt hBa hf9 hk9 g0 hsa
  go_upto_region 12 with fail
  rw [← hwa]
  clear hwa
  go_wp2_with (go_at_call 9999)
  go_at_call 34
  refine AS.out.mono ?_
  rintro _ wb ⟨rfl, htb, hob, hbb⟩
  have hfb := (hob k9 HK.out.1 HK.out.2.1).trans HFA.out
  have hBb := hbb _ _ HBA.out HK.out.2.2.1 HK.out.2.2.2
  have HBB := Lib.hid hBb
  have ct := fun i => hp_cell htb i
  have cf := fun i => hp_cell hfb i
  clear htb hob hbb hfb hBb
  rcases q5 with rfl | rfl | rfl
  all_goals
    go_wp2_with fail
    go_ret
    exact ⟨rfl, HBB.out⟩
end Go.Proofs.YtinngljphjdpoaaGreatDoor.Wp
