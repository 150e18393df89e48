/- lives: the document's example, by the program. -/
import Derived.Test.YtinngljphjdpoaaDoorJDe
import Derived.Test.YtinngljphjdpoaaDoorJYk
import Derived.Test.YtinngljphjdpoaaDoorJYl
import Derived.Test.YtinngljphjdpoaaDoorJRa
import Derived.Test.YtinngljphjdpoaaDoorJUv
import Derived.Deep.DeepCutAuto
import Derived.Lib.SlBytesConst
namespace Go.Proofs.YtinngljphjdpoaaDoor.Li
open Go Go.RowKit Go.Proofs.YtinngljphjdpoaaDoor.Pa Go.Proofs.YtinngljphjdpoaaDoor.Pb Go.Proofs.YtinngljphjdpoaaDoor.Pc Go.Proofs.YtinngljphjdpoaaDoor.Pf Go.Proofs.YtinngljphjdpoaaDoor.Sc Go.Proofs.YtinngljphjdpoaaDoor.Rs Go.Proofs.YtinngljphjdpoaaDoor.Hs Go.Proofs.YtinngljphjdpoaaDoor.Vu Go.Proofs.YtinngljphjdpoaaDoor.Vo Go.Proofs.YtinngljphjdpoaaDoor.Vh Go.Proofs.YtinngljphjdpoaaDoor.Ca Go.Proofs.YtinngljphjdpoaaDoor.Cm Go.Proofs.YtinngljphjdpoaaDoor.Ra Go.Proofs.YtinngljphjdpoaaDoor.Ea Go.Proofs.YtinngljphjdpoaaDoor.Hx Go.Proofs.YtinngljphjdpoaaDoor.Ow Go.Proofs.YtinngljphjdpoaaDoor.Yl
set_option linter.unusedVariables false
set_option linter.unusedSimpArgs false
theorem u_ab : Lib.validD [97, 98] = true := by decide
/-- The example's schema, as a literal lays it. -/
theorem rds0 {w : World} {a b : Nat} (ha : Pa.hp w a = some (.cells #[.int .i64 1, .int .i64 4, .int .u64 0, .int .u64 0, .slice none 0 0] 53 (0, 0)))
    (hb : Pa.hp w b = some (.cells #[.int .i64 1, .int .i64 1, .int .u64 1, .int .u64 300, .slice none 0 0, .int .i64 2, .int .i64 6, .int .u64 0, .int .u64 10, .slice none 0 0, .int .i64 5, .int .i64 9, .int .u64 0, .int .u64 2, .slice (some ⟨a, 0, none⟩) 1 1] 53 (0, 0))) :
    RdS w 3 (.slice (some ⟨b, 0, none⟩) 3 3) S0 := by
  refine ⟨_, 3, rfl, by decide, by simp [maxLen], fun _ => ⟨_, rfl, fun i t ht => ?_⟩⟩
  have hadd : ∀ g k, (⟨g, 0, none⟩ : Addr).add k = ⟨g, k, none⟩ := fun g k => by unfold Addr.add; split <;> simp_all
  have c := fun k => hp_cell hb k
  have d := fun k => hp_cell ha k
  rw [hadd]
  rcases i with _ | _ | _ | i
  · obtain rfl : t = .mk 1 1 1 300 [] := by simpa [S0] using ht.symm
    exact ⟨⟨by decide, by decide, by decide, by decide, by decide, by decide⟩, .slice none 0 0, ⟨c 0, c 1, c 2, c 3, c 4⟩, RdS.nil w 1⟩
  · obtain rfl : t = .mk 2 6 0 10 [] := by simpa [S0] using ht.symm
    exact ⟨⟨by decide, by decide, by decide, by decide, by decide, by decide⟩, .slice none 0 0, ⟨c 5, c 6, c 7, c 8, c 9⟩, RdS.nil w 1⟩
  · obtain rfl : t = .mk 5 9 0 2 [.mk 1 4 0 0 []] := by simpa [S0] using ht.symm
    refine ⟨⟨by decide, by decide, by decide, by decide, by decide, by decide⟩, .slice (some ⟨a, 0, none⟩) 1 1, ⟨c 10, c 11, c 12, c 13, c 14⟩, ?_⟩
    refine ⟨_, 1, rfl, by decide, by simp [maxLen], fun _ => ⟨_, rfl, fun i t ht => ?_⟩⟩
    rw [hadd]
    rcases i with _ | i
    · obtain rfl : t = .mk 1 4 0 0 [] := by simpa [Slot.sub] using ht.symm
      exact ⟨⟨by decide, by decide, by decide, by decide, by decide, by decide⟩, .slice none 0 0, ⟨d 0, d 1, d 2, d 3, d 4⟩, RdS.nil w 0⟩
    · simp [Slot.sub] at ht
  · simp [S0] at ht
theorem rdp_nil (w : World) (n : Nat) : RdP w (n + 1) (.slice none 0 0) [] := ⟨none, 0, rfl, by decide, by simp [maxLen], fun h => absurd h (by simp)⟩
/-- The example's message, as a literal lays it. -/
theorem rdv0 {w : World} {a b c d : Nat} {fr : Nat × Nat} (ha : Pa.hp w a = some (.cells #[.int .u8 97, .int .u8 98] 5 fr))
    (hb : Pa.hp w b = some (.cells #[.int .u64 1, .slice none 0 0, .slice none 0 0] 27 (0, 0)))
    (hc : Pa.hp w c = some (.cells #[.int .u64 0, .slice none 0 0, .slice (some ⟨b, 0, none⟩) 1 1] 27 (0, 0)))
    (hd : Pa.hp w d = some (.cells #[.int .u64 300, .slice none 0 0, .slice none 0 0, .int .u64 0, .slice (some ⟨a, 0, none⟩) 2 2, .slice none 0 0, .int .u64 0, .slice none 0 0, .slice (some ⟨c, 0, none⟩) 1 1] 27 (0, 0))) :
    RdV w 4 (.int .u64 0) (.slice none 0 0) (.slice (some ⟨d, 0, none⟩) 3 3) V0 := by
  have hadd : ∀ g k, (⟨g, 0, none⟩ : Addr).add k = ⟨g, k, none⟩ := fun g k => by unfold Addr.add; split <;> simp_all
  have ka := fun k => hp_cell ha k
  have kb := fun k => hp_cell hb k
  have kc := fun k => hp_cell hc k
  have kd := fun k => hp_cell hd k
  have nilr : Rd w (.slice none 0 0) [] := Rd.nil w
  have bytes : Rd w (.slice (some ⟨a, 0, none⟩) 2 2) [97, 98] := ⟨_, 2, rfl, by decide, by simp [maxLen], fun _ => ⟨_, rfl, fun j u hu => by
    rw [hadd, ka]
    rcases j with _ | _ | j
    · simpa [cb] using hu
    · simpa [cb] using hu
    · simp [cb] at hu⟩⟩
  refine ⟨by decide, rfl, nilr, ⟨_, 3, rfl, by decide, by simp [maxLen], fun _ => ⟨_, rfl, fun i x hx => ?_⟩⟩⟩
  simp only [hadd]
  rcases i with _ | _ | _ | i
  · obtain rfl : x = .mk 300 [] [] := by simpa [V0, Va.parts] using hx.symm
    exact ⟨by decide, _, _, kd 0, kd 1, kd 2, nilr, rdp_nil w 2⟩
  · obtain rfl : x = .mk 0 [97, 98] [] := by simpa [V0, Va.parts] using hx.symm
    exact ⟨by decide, _, _, kd 3, kd 4, kd 5, bytes, rdp_nil w 2⟩
  · obtain rfl : x = .mk 0 [] [.mk 0 [] [.mk 1 [] []]] := by simpa [V0, Va.parts] using hx.symm
    refine ⟨by decide, _, _, kd 6, kd 7, kd 8, nilr, ⟨_, 1, rfl, by decide, by simp [maxLen], fun _ => ⟨_, rfl, fun i x hx => ?_⟩⟩⟩
    simp only [hadd]
    rcases i with _ | i
    · obtain rfl : x = .mk 0 [] [.mk 1 [] []] := by simpa [Va.parts] using hx.symm
      refine ⟨by decide, _, _, kc 0, kc 1, kc 2, nilr, ⟨_, 1, rfl, by decide, by simp [maxLen], fun _ => ⟨_, rfl, fun i x hx => ?_⟩⟩⟩
      simp only [hadd]
      rcases i with _ | i
      · obtain rfl : x = .mk 1 [] [] := by simpa [Va.parts] using hx.symm
        exact ⟨by decide, _, _, kb 0, kb 1, kb 2, nilr, rdp_nil w 0⟩
      · simp [Va.parts] at hx
    · simp [Va.parts] at hx
  · simp [V0, Va.parts] at hx
theorem few0 : FewV 5 V0 := by
  simp [FewV, V0, Va.data, Va.parts]
theorem pb0 : Sm.PB 4 V0 := by
  simp [Sm.PB, V0, Va.parts]
set_option maxHeartbeats 2000000 in
set_option maxRecDepth 100000 in
theorem lives (w : World) (hT : TabU w) : Calls Tryd.prog 11 #[] w fun e w' => e = .returned (.bool true) ∧ Below w.heap.size w w' := by
  obtain ⟨w2, hw2⟩ : ∃ y, y = (w.alloc (.cells #[.int .i64 1, .int .i64 4, .int .u64 0, .int .u64 0, .slice none 0 0] 53)).alloc (.cells #[.int .i64 1, .int .i64 1, .int .u64 1, .int .u64 300, .slice none 0 0, .int .i64 2, .int .i64 6, .int .u64 0, .int .u64 10, .slice none 0 0, .int .i64 5, .int .i64 9, .int .u64 0, .int .u64 2, .slice (some ⟨w.heap.size, 0, none⟩) 1 1] 53) := ⟨_, rfl⟩
  have hb2 : Below w.heap.size w w2 := by rw [hw2]; exact Vh.b2 w _ _
  have ha2 : Pa.hp w2 w.heap.size = some (.cells #[.int .i64 1, .int .i64 4, .int .u64 0, .int .u64 0, .slice none 0 0] 53 (0, 0)) := by rw [hw2]; exact below_hp (hp_alloc_at _ _ rfl) (vb _ _)
  have hs2 : Pa.hp w2 (w.heap.size + 1) = some (.cells #[.int .i64 1, .int .i64 1, .int .u64 1, .int .u64 300, .slice none 0 0, .int .i64 2, .int .i64 6, .int .u64 0, .int .u64 10, .slice none 0 0, .int .i64 5, .int .i64 9, .int .u64 0, .int .u64 2, .slice (some ⟨w.heap.size, 0, none⟩) 1 1] 53 (0, 0)) := by rw [hw2]; exact hp_alloc_at _ _ (by simp)
  have CMP := Lib.hid (pCompile w2 (rds0 ha2 hs2))
  have HB2 := Lib.hid hb2; have HT := Lib.hid hT
  clear hb2 ha2 hs2 hT
  go_enter Tryd.func11, Tryd.ntmps11
  go_wp2_with (go_at_call 9999)
  rw [← hw2]
  clear hw2
  go_at_call 14
  refine CMP.out.mono ?_
  rintro _ w3 ⟨⟨h0, -⟩ | ⟨-, c, rfl, hc3⟩, b3⟩
  · exact absurd valid0 h0
  have HC := Lib.hid hc3; have HB3 := Lib.hid (HB2.out.trans (b3.mono HB2.out.size))
  unfold ptr
  clear hc3 b3
  have hcv : ∀ W : World, (convert 24 24 (.slice (some ⟨W.heap.size, 0, none⟩) 2 2)).run Tryd.prog (W.alloc (.cells #[.int .u8 97, .int .u8 98] 5)) = .ok (.slice (some ⟨W.heap.size, 0, none⟩) 2 2) (W.alloc (.cells #[.int .u8 97, .int .u8 98] 5 (2, 3))) :=
    fun W => Lib.run_convert_bytes_const W _ _ #[.int .u8 97, .int .u8 98] 2 2 Tryd.underlying24 Tryd.underlying5
  go_upto_region 5 with fail
  clear hcv
  obtain ⟨w5, hw5⟩ : ∃ y, y = (((((w3.alloc (.cells #[.int .u8 97, .int .u8 98] 5 (2, 3))).alloc (.cells #[.int .u64 1, .slice none 0 0, .slice none 0 0] 27)).alloc (.cells #[.int .u64 0, .slice none 0 0, .slice (some ⟨w3.heap.size + 1, 0, none⟩) 1 1] 27)).alloc
    (.cells #[.int .u64 300, .slice none 0 0, .slice none 0 0, .int .u64 0, .slice (some ⟨w3.heap.size, 0, none⟩) 2 2, .slice none 0 0, .int .u64 0, .slice none 0 0, .slice (some ⟨w3.heap.size + 1 + 1, 0, none⟩) 1 1] 27)).alloc (.cells #[.int .u64 0, .slice none 0 0, .slice (some ⟨w3.heap.size + 1 + 1 + 1, 0, none⟩) 3 3] 27)) := ⟨_, rfl⟩
  rw [← hw5]
  have hb5 : Below w3.heap.size w3 w5 := by
    have h : ∀ {w' : World} (o : Obj), Below w3.heap.size w3 w' → Below w3.heap.size w3 (w'.alloc o) := fun o hb => hb.alloc hb.size _
    rw [hw5]; exact h _ (h _ (h _ (h _ (h _ (Below.refl _ _)))))
  have k0 : Pa.hp w5 w3.heap.size = some (.cells #[.int .u8 97, .int .u8 98] 5 (2, 3)) := by rw [hw5]; exact below_hp (below_hp (below_hp (below_hp (hp_alloc_at _ _ rfl) (vb _ _)) (vb _ _)) (vb _ _)) (vb _ _)
  have k1 : Pa.hp w5 (w3.heap.size + 1) = some (.cells #[.int .u64 1, .slice none 0 0, .slice none 0 0] 27 (0, 0)) := by rw [hw5]; exact below_hp (below_hp (below_hp (hp_alloc_at _ _ (by simp)) (vb _ _)) (vb _ _)) (vb _ _)
  have k2 : Pa.hp w5 (w3.heap.size + 1 + 1) = some (.cells #[.int .u64 0, .slice none 0 0, .slice (some ⟨w3.heap.size + 1, 0, none⟩) 1 1] 27 (0, 0)) := by rw [hw5]; exact below_hp (below_hp (hp_alloc_at _ _ (by simp)) (vb _ _)) (vb _ _)
  have k3 : Pa.hp w5 (w3.heap.size + 1 + 1 + 1) = some (.cells #[.int .u64 300, .slice none 0 0, .slice none 0 0, .int .u64 0, .slice (some ⟨w3.heap.size, 0, none⟩) 2 2, .slice none 0 0, .int .u64 0, .slice none 0 0, .slice (some ⟨w3.heap.size + 1 + 1, 0, none⟩) 1 1] 27 (0, 0)) := by rw [hw5]; exact below_hp (hp_alloc_at _ _ (by simp)) (vb _ _)
  have k4 : Pa.hp w5 (w3.heap.size + 1 + 1 + 1 + 1) = some (.cells #[.int .u64 0, .slice none 0 0, .slice (some ⟨w3.heap.size + 1 + 1 + 1, 0, none⟩) 3 3] 27 (0, 0)) := by rw [hw5]; exact hp_alloc_at _ _ (by simp)
  clear hw5
  obtain ⟨-, -, hok, -⟩ := spans_eq valid0
  have hB5 := HB3.out.trans (hb5.mono HB3.out.size)
  have hrv := rdv0 k0 k1 k2 k3
  have ENC := Lib.hid (Ey.pEnc _ c 4 6 3 S0 _ _ _ V0 w5 (HC.out.below hb5) hok hrv few0 (HT.out.below hB5) (by decide))
  have hc4 := fun i => hp_cell k4 i
  have HRV := Lib.hid hrv; have HB5 := Lib.hid hB5; have HC5 := Lib.hid (HC.out.below hb5); have HOK := Lib.hid hok; have K4 := Lib.hid k4
  clear k0 k1 k2 k3 k4 hb5 hB5 hrv hok HC
  rw [chk0 Lib.validD u_ab, enc0] at ENC
  go_wp2_with (go_at_call 9999)
  go_at_call 15
  refine ENC.out.mono ?_
  rintro _ w6 (⟨v6, h0, -⟩ | ⟨A6, c6, -, rfl, ho6, b6⟩)
  · exact absurd rfl h0
  have hB6 := HB5.out.trans (b6.mono HB5.out.size)
  have hok := HOK.out
  have DEC := Lib.hid (De.pDec Lib.validD Uv.utf _ c 6 3 S0 _ B0 w6 (HC5.out.below b6) ho6.rd hok (HT.out.below hB6) (by decide))
  rw [back0 Lib.validD u_ab] at DEC
  have HO6 := Lib.hid ho6; have HB6 := Lib.hid hB6; have HC6 := Lib.hid (HC5.out.below b6); have HRV6 := Lib.hid (HRV.out.below b6); have K46 := Lib.hid (below_hp K4.out b6)
  clear ho6 hB6 b6 hok HC5 HRV K4 hc4
  rw [show B0.length = 12 from rfl] at DEC HO6 ⊢
  go_wp2_with (go_at_call 9999)
  go_at_call 17
  refine DEC.out.mono ?_
  rintro _ w7 ⟨⟨h0, -⟩ | ⟨-, nv, dv, pv, rfl, ho7⟩, b7⟩
  · exact absurd rfl h0
  have hrv7 := ho7.rd
  obtain ⟨-, rfl, x3, x4⟩ := ho7
  obtain ⟨A1, c1, rfl⟩ := x3.slice
  obtain ⟨A2, c2, -, -, -, e2', -⟩ := id x4
  subst e2'
  obtain ⟨w8, hw8⟩ : ∃ y, y = w7.alloc (.cells #[.int .u64 (V0.num : Int), .slice A1 V0.data.length c1, .slice A2 V0.parts.length c2] 27) := ⟨_, rfl⟩
  have hb8 : Below w7.heap.size w7 w8 := by rw [hw8]; exact vb _ _
  have hq8 : Pa.hp w8 w7.heap.size = some (.cells #[.int .u64 (V0.num : Int), .slice A1 V0.data.length c1, .slice A2 V0.parts.length c2] 27 (0, 0)) := by rw [hw8]; exact hp_alloc_at _ _ rfl
  have hB68 : Below w6.heap.size w6 w8 := b7.trans (hb8.mono b7.size)
  have ho8 := HO6.out.below hB68
  have hr8 := ho8.rd
  obtain ⟨g6, rfl⟩ : ∃ g, A6 = some ⟨g, 0, none⟩ := by
    rcases ho8.2 with ⟨e, h0⟩ | ⟨g, cap, cur, e, -⟩
    · exact absurd h0 (by decide)
    · simp only [Value.slice.injEq] at e
      exact ⟨g, e.1⟩
  have hcap : 12 ≤ c6 := hr8.len.2.1
  have hhalf := Gs.rd_mid hr8 0 6 (by decide) (by decide)
  rw [if_neg (by omega)] at hhalf
  have hh : Rd w8 (.slice (some ⟨g6, 0, none⟩) 6 c6) [8, 172, 2, 18, 2, 97] := by simpa [Addr.add, B0] using hhalf
  have hB8 := HB6.out.trans (hB68.mono HB6.out.size)
  have DEC2 := Lib.hid (De.pDec Lib.validD Uv.utf _ c 6 3 S0 _ _ w8 (HC6.out.below hB68) hh HOK.out (HT.out.below hB8) (by decide))
  have hne2 := half0 Lib.validD u_ab
  have HO8 := Lib.hid ho8; have HB8 := Lib.hid hB8; have HC8 := Lib.hid (HC6.out.below hB68); have HRV8 := Lib.hid (HRV6.out.below hB68); have K48 := Lib.hid (below_hp K46.out hB68); have HQ8 := Lib.hid hq8; have HRD8 := Lib.hid (hrv7.below hb8); have HNE2 := Lib.hid hne2
  have hcap' : (6 : Int) ≤ (c6 : Int) := by omega
  clear ho8 hB8 hB68 hb8 hq8 hr8 hhalf hh hne2 hrv7 x3 x4 b7 HO6 HB6 HC6 HRV6 K46 DEC
  go_upto_region 7 with fail
  rw [← hw8]
  clear hw8
  go_wp2_with (go_at_call 9999)
  go_at_call 17
  refine DEC2.out.mono ?_
  rintro _ w9 ⟨⟨h9, v9, rfl, he9⟩ | ⟨h9, -⟩, b9⟩
  rotate_left
  · exact absurd h9 HNE2.out
  obtain ⟨k9, rfl⟩ : ∃ k, v9 = .iface 92 (.pointer (some ⟨k, 0, none⟩)) := by
    rcases he9 with ⟨h, -⟩ | ⟨-, k, -, h, -⟩
    · exact absurd h h9
    · exact ⟨k, h⟩
  clear h9 he9 hcap'
  obtain ⟨w10, hw10⟩ : ∃ y, y = w9.alloc (.cells #[.int .u64 0, .slice none 0 0, .slice none 0 0] 27) := ⟨_, rfl⟩
  have hb10 : Below w9.heap.size w9 w10 := by rw [hw10]; exact vb _ _
  have hB810 : Below w8.heap.size w8 w10 := b9.trans (hb10.mono b9.size)
  have hpr := pRange (HC8.out.below hB810)
  rw [span0p] at hpr
  unfold ptr at hpr
  have PR := Lib.hid hpr; have HB810 := Lib.hid hB810
  clear hb10 hB810 hpr b9
  go_upto_region 8 with fail
  rw [← hw10]
  clear hw10
  go_wp2_with (go_at_call 9999)
  go_at_call 18
  refine PR.out.mono ?_
  rintro _ w11 ⟨rfl, b11⟩
  have hB811 : Below w8.heap.size w8 w11 := HB810.out.trans (b11.mono HB810.out.size)
  have hcs := run_str Nm.u8 Tryd.underlying5 Tryd.underlying9 (HO8.out.below hB811).rd
  have hcs' : (convert 24 9 (.slice (some ⟨g6, 0, none⟩) 12 c6)).run Tryd.prog w11 = .ok (.string ⟨#[8, 172, 2, 18, 2, 97, 98, 42, 3, 2, 8, 1]⟩) w11 := hcs
  have hq := below_hp HQ8.out hB811
  have hk4 := below_hp K48.out hB811
  have hcq := fun i => hp_cell hq i
  have hck := fun i => hp_cell hk4 i
  have hsm := Sm.same 4 7 _ _ _ _ _ _ V0 V0 w11 (HRV8.out.below hB811) (HRD8.out.below hB811) pb0
  have HSM := Lib.hid hsm; have HB811 := Lib.hid hB811
  clear hcs hq hk4 hsm hB811 b11
  go_wp2_with (go_at_call 9999)
  go_at_call 19
  refine HSM.out.mono ?_
  rintro _ w12 ⟨r, rfl, hr, b12⟩
  obtain rfl : r = true := hr.2 rfl
  have HB12 := Lib.hid (HB8.out.trans ((HB811.out.trans (b12.mono HB811.out.size)).mono HB8.out.size))
  clear hr b12 hcq hck hcs'
  go_wp2_with fail
  go_ret
  exact ⟨rfl, HB12.out⟩
end Go.Proofs.YtinngljphjdpoaaDoor.Li
