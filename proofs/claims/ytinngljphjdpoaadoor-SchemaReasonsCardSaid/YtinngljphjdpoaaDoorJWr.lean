/- The law SchemaReasons, walked. -/
import Derived.Test.YtinngljphjdpoaaDoorJLi
import Derived.Test.YtinngljphjdpoaaDoorJYk
import Derived.Test.YtinngljphjdpoaaDoorJRa
import Derived.Test.YtinngljphjdpoaaDoorJLs
import Derived.Test.YtinngljphjdpoaaDoorJFi
import Derived.BigQuiet
namespace Go.Proofs.YtinngljphjdpoaaDoor.Wr
open Go Go.RowKit Go.Proofs.YtinngljphjdpoaaDoor.Vl Go.Proofs.YtinngljphjdpoaaDoor.Pa Go.Proofs.YtinngljphjdpoaaDoor.Pb Go.Proofs.YtinngljphjdpoaaDoor.Pc Go.Proofs.YtinngljphjdpoaaDoor.Pf Go.Proofs.YtinngljphjdpoaaDoor.Sc Go.Proofs.YtinngljphjdpoaaDoor.Rs Go.Proofs.YtinngljphjdpoaaDoor.Sl Go.Proofs.YtinngljphjdpoaaDoor.Hs Go.Proofs.YtinngljphjdpoaaDoor.Vu Go.Proofs.YtinngljphjdpoaaDoor.Vo Go.Proofs.YtinngljphjdpoaaDoor.Ca Go.Proofs.YtinngljphjdpoaaDoor.Cm Go.Proofs.YtinngljphjdpoaaDoor.Ra Go.Proofs.YtinngljphjdpoaaDoor.Ea Go.Proofs.YtinngljphjdpoaaDoor.Hx Go.Proofs.YtinngljphjdpoaaDoor.Ow Go.Proofs.YtinngljphjdpoaaDoor.Es Go.Proofs.YtinngljphjdpoaaDoor.Yk Go.Proofs.YtinngljphjdpoaaDoor.Yb
set_option linter.unusedVariables false
set_option linter.unusedSimpArgs false
set_option maxHeartbeats 2000000 in
set_option maxRecDepth 100000 in
theorem walk {n m : Nat} {v nv dv pv : Value} {l : List Slot} {x : Vu.Va} (W : World) (h : RdS W n v l) (hx : Vu.RdV W m nv dv pv x) (hT : Vh.TabU W) :
    Calls Tryd.prog 8 #[v, .agg #[nv, dv, pv]] W fun e w' => e = .returned (.bool true) ∧ Below W.heap.size W w' := by
  obtain ⟨A, c0, rfl, -⟩ := h.slice
  have hxx := hx
  obtain ⟨hnum, rfl, hdv, hpv⟩ := hx
  obtain ⟨Ad, cd, rfl, -⟩ := hdv
  obtain ⟨Ap, cp, rfl, -⟩ := hpv.slice
  clear hpv
  obtain ⟨w1, hw1⟩ : ∃ y, y = W.alloc (.cells #[.int .u64 x.num, .slice Ad x.data.length cd, .slice Ap x.parts.length cp] 27) := ⟨_, rfl⟩
  have hb1 : Below W.heap.size W w1 := by rw [hw1]; exact vb _ _
  have hv1 : Pa.hp w1 W.heap.size = some (.cells #[.int .u64 x.num, .slice Ad x.data.length cd, .slice Ap x.parts.length cp] 27 (0, 0)) := by rw [hw1]; exact hp_alloc_at _ _ rfl
  have LIV := Lib.hid (fun w' (h' : Below W.heap.size W w') => Li.lives w' (hT.below h'))
  have BG := Lib.hid (fun w' (h' : Below W.heap.size W w') => big w' (h.below h'))
  have BV := Lib.hid (fun w' (h' : Below W.heap.size W w') => Vk.big w' hxx h')
  have COMP := Lib.hid (fun w' (h' : Below W.heap.size W w') => comp w' (h.below h'))
  have HB1 := Lib.hid hb1; have HV1 := Lib.hid hv1; have HXX := Lib.hid hxx; have HT := Lib.hid hT
  clear hb1 hv1 hxx hT h
  go_enter Tryd.func8, Tryd.ntmps8
  go_wp2_with (go_at_call 9999)
  rw [← hw1]
  clear hw1
  go_at_call 11
  refine (LIV.out _ HB1.out).mono ?_
  rintro _ w2 ⟨rfl, b2⟩
  have HB2 := Lib.hid (HB1.out.trans (b2.mono HB1.out.size)); have HV2 := Lib.hid (below_hp HV1.out b2)
  have hc2 := fun i => hp_cell HV2.out i
  clear b2 HB1 HV1
  go_wp2_with (go_at_call 9999)
  go_at_call 12
  refine (BG.out _ HB2.out).mono ?_
  rintro _ w3 ⟨he, rfl⟩
  by_cases hbig : sl n l 10000 < 0
  · rw [decide_eq_true hbig] at he
    subst he
    clear hbig hc2
    go_wp2_with (go_at_call 9999)
    go_at_call 11
    refine (LIV.out _ HB2.out).mono ?_
    rintro _ w4 ⟨rfl, b4⟩
    have HB4 := Lib.hid (HB2.out.trans (b4.mono HB2.out.size)); clear b4
    go_wp2_with fail
    go_ret
    exact ⟨rfl, HB4.out⟩
  rw [decide_eq_false hbig] at he
  subst he
  clear hbig
  go_wp2_with (go_at_call 9999)
  go_at_call 13
  refine (BV.out _ HB2.out).mono ?_
  rintro _ w4 ⟨he, b4⟩
  have HB4 := Lib.hid (HB2.out.trans (b4.mono HB2.out.size)); have HV4 := Lib.hid (below_hp HV2.out b4)
  clear b4 hc2 HB2 HV2
  by_cases hbig : vl (m + 1) x 10000 < 0
  · rw [decide_eq_true hbig] at he
    subst he
    clear hbig
    go_wp2_with (go_at_call 9999)
    go_at_call 11
    refine (LIV.out _ HB4.out).mono ?_
    rintro _ w5 ⟨rfl, b5⟩
    have HB5 := Lib.hid (HB4.out.trans (b5.mono HB4.out.size)); clear b5
    go_wp2_with fail
    go_ret
    exact ⟨rfl, HB5.out⟩
  rw [decide_eq_false hbig] at he
  subst he
  have hlv : lv (m + 1) x := fun y hy => RdP.lv m _ _ HXX.out.2.2.2 y hy
  have HFV := Lib.hid (Vo.few_of (m + 1) x 10000 hlv (by omega) (by omega))
  clear hbig hlv
  go_wp2_with (go_at_call 9999)
  go_at_call 14
  refine (COMP.out _ HB4.out).mono ?_
  rintro _ w5 ⟨⟨z, hz, rfl⟩ | ⟨c, rfl, ⟨S, hcd⟩, hgood⟩, b5⟩
  · have HB5 := Lib.hid (HB4.out.trans (b5.mono HB4.out.size)); clear b5
    go_wp2_with fail
    go_ret
    exact ⟨rfl, HB5.out⟩
  have HB5 := Lib.hid (HB4.out.trans (b5.mono HB4.out.size)); have HV5 := Lib.hid (below_hp HV4.out b5)
  have hc5 := fun i => hp_cell HV5.out i
  have HCD := Lib.hid hcd; have HG := Lib.hid hgood
  clear b5 hcd hgood HB4 HV4
  obtain ⟨F, hF⟩ : ∃ F, F = Vu.chk Vh.pF Lib.validD 7 l x 1 := ⟨_, rfl⟩
  obtain ⟨R, hR⟩ : ∃ R, R = encW 7 l x := ⟨_, rfl⟩
  have enc := Ey.pEnc S c m 6 7 l _ _ _ x w5 HCD.out HG.out.ok (HXX.out.below HB5.out) HFV.out (HT.out.below HB5.out) (by decide)
  rw [← hF, ← hR] at enc
  have chk := fun w' (h' : Below w5.heap.size w5 w') => Vj.pCheck Lib.validD Uv.utf S c m 7 l _ _ _ x w' (HCD.out.below h') (HXX.out.below (HB5.out.trans (h'.mono HB5.out.size))) (HT.out.below (HB5.out.trans (h'.mono HB5.out.size))) (by decide)
  rw [← hF] at chk
  have ENC := Lib.hid enc; have CHK := Lib.hid chk; have HF := Lib.hid hF; have HR := Lib.hid hR
  clear enc chk hF hR
  unfold ptr at CHK
  go_wp2_with (go_at_call 9999)
  go_at_call 15
  refine ENC.out.mono ?_
  rintro _ w6 (⟨v6, h0, rfl, he6, b6⟩ | ⟨A6, c6, h0, rfl, ho6, b6⟩)
  · obtain ⟨k6, hk6, rfl, hf6⟩ : ∃ k, w5.heap.size ≤ k ∧ v6 = .iface 92 (.pointer (some ⟨k, 0, none⟩)) ∧ Pa.hp w6 k = some (.cells #[.int .i64 F.1, .int .i64 F.2.1, .int .i64 F.2.2] 94 (0, 0)) := by
      rcases he6 with ⟨h, -⟩ | ⟨-, k, hk, h, hc⟩
      · exact absurd h h0
      · exact ⟨k, hk, h, hc⟩
    have HV6 := Lib.hid (below_hp HV5.out b6); have B6 := Lib.hid b6; have H0 := Lib.hid h0; have HF6 := Lib.hid hf6
    have hc6 := fun i => hp_cell HV6.out i
    have hin := Ye.c_chk Vh.pF Yg.pf_in Lib.validD 6 7 l x 1 HG.out.ok
    rw [← HF.out] at hin
    have HIN := Lib.hid (hin h0).2.2.2.2
    clear b6 he6 hc5 h0 hf6 hk6 hin
    go_wp2_with (go_at_call 9999)
    go_at_call 16
    refine (CHK.out w6 B6.out).mono ?_
    rintro _ w7 ⟨v7, rfl, he7, b7⟩
    obtain ⟨k7, rfl, hf7⟩ : ∃ k, v7 = .iface 92 (.pointer (some ⟨k, 0, none⟩)) ∧ Pa.hp w7 k = some (.cells #[.int .i64 F.1, .int .i64 F.2.1, .int .i64 F.2.2] 94 (0, 0)) := by
      rcases he7 with ⟨h, -⟩ | ⟨-, k, -, h, hc⟩
      · exact absurd h H0.out
      · exact ⟨k, h, hc⟩
    obtain ⟨w8, hw8⟩ : ∃ y, y = w7.alloc (.cells #[.int .i64 81, .int .i64 83, .int .i64 84] 57) := ⟨_, rfl⟩
    have hb8 : Below w7.heap.size w7 w8 := by rw [hw8]; exact vb _ _
    have hy8 : Pa.hp w8 w7.heap.size = some (.cells #[.int .i64 81, .int .i64 83, .int .i64 84] 57 (0, 0)) := by rw [hw8]; exact hp_alloc_at _ _ rfl
    have hy := fun (u : Held (Past w8)) i => hp_cell (below_hp hy8 u.h) i
    have hb78 : Below w6.heap.size w6 w8 := b7.trans (hb8.mono b7.size)
    have hWB := HB5.out.trans ((B6.out.trans (hb78.mono B6.out.size)).mono HB5.out.size)
    obtain ⟨F1, F2, F3⟩ := F
    have hise := fun (z : Int) (r : Bool) (w' : World) (h' : Below w8.heap.size w8 w') (hr : (F3 == z) = r) => Fi.is_fault k6 F1 F2 F3 z w' (below_hp (below_hp HF6.out hb78) h')
    have hisa := fun (z : Int) (r : Bool) (w' : World) (h' : Below w8.heap.size w8 w') (hr : (F3 == z) = r) => Fi.is_fault k7 F1 F2 F3 z w' (below_hp (below_hp hf7 hb8) h')
    have hISE : ∀ (z : Int) (r : Bool) (w' : World), Below w8.heap.size w8 w' → (F3 == z) = r → Calls Tryd.prog 23 #[.iface 92 (.pointer (some ⟨k6, 0, none⟩)), .iface 32 (.int .i64 z)] w' fun e w'' => e = .returned (.bool r) ∧ w' = w'' := fun z r w' h' hr => by rw [← hr]; exact (hise z r w' h' hr).mono fun _ _ ⟨h1, h2⟩ => ⟨h1, h2.symm⟩
    have ISE := Lib.hid hISE
    clear hISE
    have hISB : ∀ (k : Nat) (z : Int) (r : Bool) (w' : World), (k = k6 ∨ k = k7) → Below w8.heap.size w8 w' → (F3 == z) = r → Calls Tryd.prog 23 #[.iface 92 (.pointer (some ⟨k, 0, none⟩)), .iface 32 (.int .i64 z)] w' fun e w'' => e = .returned (.bool r) ∧ w' = w'' := fun k z r w' hk h' hr => by
      rw [← hr]
      rcases hk with rfl | rfl
      · exact (hise z r w' h' hr).mono fun _ _ ⟨h1, h2⟩ => ⟨h1, h2.symm⟩
      · exact (hisa z r w' h' hr).mono fun _ _ ⟨h1, h2⟩ => ⟨h1, h2.symm⟩
    have ISB := Lib.hid hISB
    clear hISB
    have hy0 := fun i => hp_cell hy8 i
    have HY := Lib.hid hy; have HY0 := Lib.hid hy0; have HWB := Lib.hid hWB
    have hin : F3 = 81 ∨ F3 = 83 ∨ F3 = 84 := HIN.out
    clear b7 he7 hc6 hf7 hise hisa hy hy0 hy8 hb8 hb78 hWB HIN HF6 HF H0 ENC CHK HR
    rcases hin with h81 | h83 | h84
    · subst h81
      go_wp2_with fail
      rw [← hw8]
      clear hw8
      refine wp_loop_rounds 4 ?_
      rw [rounds_succ]
      have hy := HY0.out
      go_wp2_with (go_at_call 9999)
      go_at_call 23
      refine (ISE.out 81 true _ (Below.refl _ _) rfl).mono ?_
      rintro _ _ ⟨rfl, rfl⟩
      clear hy
      have hy := HY.out
      go_wp2_with fail
      refine wp_region_calm (S := Past w8) (by kernel_rfl) (by kernel_rfl) (Below.drew (Below.refl _ _)) ?_
      intro hN
      repeat (go_big_quiet_step (first | (go_at_call 23; exact calm_call (ISB.out _ 81 true _ (by first | exact .inl rfl | exact .inr rfl) (Held.h _) rfl) (fun w' hs hr => hr ▸ hs))))
      refine wpQuiet_nil ?_
      intro u0
      have hu0 : Below w8.heap.size w8 u0.w := u0.h
      clear hN hy
      go_wp2_with fail
      rw [rounds_succ]
      have hy := HY.out
      go_wp2_with (go_at_call 9999)
      go_at_call 23
      refine (ISE.out 83 false _ (hu0) rfl).mono ?_
      rintro _ _ ⟨rfl, rfl⟩
      clear hy
      have hy := HY.out
      go_wp2_with fail
      refine wp_region_calm (S := Past w8) (by kernel_rfl) (by kernel_rfl) (Below.drew (hu0)) ?_
      intro hN
      repeat (go_big_quiet_step (first | (go_at_call 23; exact calm_call (ISB.out _ 83 false _ (by first | exact .inl rfl | exact .inr rfl) (Held.h _) rfl) (fun w' hs hr => hr ▸ hs))))
      refine wpQuiet_nil ?_
      intro u1
      have hu1 : Below w8.heap.size w8 u1.w := u1.h
      clear hN hy
      go_wp2_with fail
      rw [rounds_succ]
      have hy := HY.out
      go_wp2_with (go_at_call 9999)
      go_at_call 23
      refine (ISE.out 84 false _ (hu1) rfl).mono ?_
      rintro _ _ ⟨rfl, rfl⟩
      clear hy
      have hy := HY.out
      go_wp2_with fail
      refine wp_region_calm (S := Past w8) (by kernel_rfl) (by kernel_rfl) (Below.drew (hu1)) ?_
      intro hN
      repeat (go_big_quiet_step (first | (go_at_call 23; exact calm_call (ISB.out _ 84 false _ (by first | exact .inl rfl | exact .inr rfl) (Held.h _) rfl) (fun w' hs hr => hr ▸ hs))))
      refine wpQuiet_nil ?_
      intro u2
      have hu2 : Below w8.heap.size w8 u2.w := u2.h
      clear hN hy
      go_wp2_with fail
      rw [rounds_succ]
      go_wp2_with (go_at_call 9999)
      go_at_call 23
      refine (ISE.out 0 false _ hu2 rfl).mono ?_
      rintro _ _ ⟨rfl, rfl⟩
      go_wp2_with fail
      go_ret
      exact ⟨rfl, HWB.out.trans (hu2.mono HWB.out.size)⟩
    · subst h83
      go_wp2_with fail
      rw [← hw8]
      clear hw8
      refine wp_loop_rounds 4 ?_
      rw [rounds_succ]
      have hy := HY0.out
      go_wp2_with (go_at_call 9999)
      go_at_call 23
      refine (ISE.out 81 false _ (Below.refl _ _) rfl).mono ?_
      rintro _ _ ⟨rfl, rfl⟩
      clear hy
      have hy := HY.out
      go_wp2_with fail
      refine wp_region_calm (S := Past w8) (by kernel_rfl) (by kernel_rfl) (Below.drew (Below.refl _ _)) ?_
      intro hN
      repeat (go_big_quiet_step (first | (go_at_call 23; exact calm_call (ISB.out _ 81 false _ (by first | exact .inl rfl | exact .inr rfl) (Held.h _) rfl) (fun w' hs hr => hr ▸ hs))))
      refine wpQuiet_nil ?_
      intro u0
      have hu0 : Below w8.heap.size w8 u0.w := u0.h
      clear hN hy
      go_wp2_with fail
      rw [rounds_succ]
      have hy := HY.out
      go_wp2_with (go_at_call 9999)
      go_at_call 23
      refine (ISE.out 83 true _ (hu0) rfl).mono ?_
      rintro _ _ ⟨rfl, rfl⟩
      clear hy
      have hy := HY.out
      go_wp2_with fail
      refine wp_region_calm (S := Past w8) (by kernel_rfl) (by kernel_rfl) (Below.drew (hu0)) ?_
      intro hN
      repeat (go_big_quiet_step (first | (go_at_call 23; exact calm_call (ISB.out _ 83 true _ (by first | exact .inl rfl | exact .inr rfl) (Held.h _) rfl) (fun w' hs hr => hr ▸ hs))))
      refine wpQuiet_nil ?_
      intro u1
      have hu1 : Below w8.heap.size w8 u1.w := u1.h
      clear hN hy
      go_wp2_with fail
      rw [rounds_succ]
      have hy := HY.out
      go_wp2_with (go_at_call 9999)
      go_at_call 23
      refine (ISE.out 84 false _ (hu1) rfl).mono ?_
      rintro _ _ ⟨rfl, rfl⟩
      clear hy
      have hy := HY.out
      go_wp2_with fail
      refine wp_region_calm (S := Past w8) (by kernel_rfl) (by kernel_rfl) (Below.drew (hu1)) ?_
      intro hN
      repeat (go_big_quiet_step (first | (go_at_call 23; exact calm_call (ISB.out _ 84 false _ (by first | exact .inl rfl | exact .inr rfl) (Held.h _) rfl) (fun w' hs hr => hr ▸ hs))))
      refine wpQuiet_nil ?_
      intro u2
      have hu2 : Below w8.heap.size w8 u2.w := u2.h
      clear hN hy
      go_wp2_with fail
      rw [rounds_succ]
      go_wp2_with (go_at_call 9999)
      go_at_call 23
      refine (ISE.out 0 false _ hu2 rfl).mono ?_
      rintro _ _ ⟨rfl, rfl⟩
      go_wp2_with fail
      go_ret
      exact ⟨rfl, HWB.out.trans (hu2.mono HWB.out.size)⟩
    · subst h84
      go_wp2_with fail
      rw [← hw8]
      clear hw8
      refine wp_loop_rounds 4 ?_
      rw [rounds_succ]
      have hy := HY0.out
      go_wp2_with (go_at_call 9999)
      go_at_call 23
      refine (ISE.out 81 false _ (Below.refl _ _) rfl).mono ?_
      rintro _ _ ⟨rfl, rfl⟩
      clear hy
      have hy := HY.out
      go_wp2_with fail
      refine wp_region_calm (S := Past w8) (by kernel_rfl) (by kernel_rfl) (Below.drew (Below.refl _ _)) ?_
      intro hN
      repeat (go_big_quiet_step (first | (go_at_call 23; exact calm_call (ISB.out _ 81 false _ (by first | exact .inl rfl | exact .inr rfl) (Held.h _) rfl) (fun w' hs hr => hr ▸ hs))))
      refine wpQuiet_nil ?_
      intro u0
      have hu0 : Below w8.heap.size w8 u0.w := u0.h
      clear hN hy
      go_wp2_with fail
      rw [rounds_succ]
      have hy := HY.out
      go_wp2_with (go_at_call 9999)
      go_at_call 23
      refine (ISE.out 83 false _ (hu0) rfl).mono ?_
      rintro _ _ ⟨rfl, rfl⟩
      clear hy
      have hy := HY.out
      go_wp2_with fail
      refine wp_region_calm (S := Past w8) (by kernel_rfl) (by kernel_rfl) (Below.drew (hu0)) ?_
      intro hN
      repeat (go_big_quiet_step (first | (go_at_call 23; exact calm_call (ISB.out _ 83 false _ (by first | exact .inl rfl | exact .inr rfl) (Held.h _) rfl) (fun w' hs hr => hr ▸ hs))))
      refine wpQuiet_nil ?_
      intro u1
      have hu1 : Below w8.heap.size w8 u1.w := u1.h
      clear hN hy
      go_wp2_with fail
      rw [rounds_succ]
      have hy := HY.out
      go_wp2_with (go_at_call 9999)
      go_at_call 23
      refine (ISE.out 84 true _ (hu1) rfl).mono ?_
      rintro _ _ ⟨rfl, rfl⟩
      clear hy
      have hy := HY.out
      go_wp2_with fail
      refine wp_region_calm (S := Past w8) (by kernel_rfl) (by kernel_rfl) (Below.drew (hu1)) ?_
      intro hN
      repeat (go_big_quiet_step (first | (go_at_call 23; exact calm_call (ISB.out _ 84 true _ (by first | exact .inl rfl | exact .inr rfl) (Held.h _) rfl) (fun w' hs hr => hr ▸ hs))))
      refine wpQuiet_nil ?_
      intro u2
      have hu2 : Below w8.heap.size w8 u2.w := u2.h
      clear hN hy
      go_wp2_with fail
      rw [rounds_succ]
      go_wp2_with (go_at_call 9999)
      go_at_call 23
      refine (ISE.out 0 false _ hu2 rfl).mono ?_
      rintro _ _ ⟨rfl, rfl⟩
      go_wp2_with fail
      go_ret
      exact ⟨rfl, HWB.out.trans (hu2.mono HWB.out.size)⟩
  have HV6 := Lib.hid (below_hp HV5.out b6); have B6 := Lib.hid b6; have H0 := Lib.hid h0
  have hc6 := fun i => hp_cell HV6.out i
  clear b6 ho6 hc5 h0
  go_wp2_with (go_at_call 9999)
  go_at_call 16
  refine (CHK.out w6 B6.out).mono ?_
  rintro _ w7 ⟨v7, rfl, he7, b7⟩
  obtain rfl : v7 = .nilIface := by
    rcases he7 with ⟨-, h⟩ | ⟨h, -⟩
    · exact h
    · exact absurd H0.out h
  have B7 := Lib.hid (B6.out.trans (b7.mono B6.out.size))
  clear b7 he7 hc6
  go_wp2_with fail
  go_ret
  exact ⟨rfl, HB5.out.trans (B7.out.mono HB5.out.size)⟩
end Go.Proofs.YtinngljphjdpoaaDoor.Wr
