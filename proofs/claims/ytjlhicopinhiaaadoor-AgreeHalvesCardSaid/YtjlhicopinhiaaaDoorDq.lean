/- The reference's Safety. -/
import Derived.Test.YtjlhicopinhiaaaDoorDs
namespace Go.Proofs.YtjlhicopinhiaaaDoor.Dq
open Go Go.RowKit Go.Proofs.YtjlhicopinhiaaaDoor.Pa Go.Proofs.YtjlhicopinhiaaaDoor.Pb Go.Proofs.YtjlhicopinhiaaaDoor.Pc Go.Proofs.YtjlhicopinhiaaaDoor.Pf Go.Proofs.YtjlhicopinhiaaaDoor.Pq Go.Proofs.YtjlhicopinhiaaaDoor.Pr Go.Proofs.YtjlhicopinhiaaaDoor.Sv Go.Proofs.YtjlhicopinhiaaaDoor.Sk Go.Proofs.YtjlhicopinhiaaaDoor.Sd Go.Proofs.YtjlhicopinhiaaaDoor.Se Go.Proofs.YtjlhicopinhiaaaDoor.Sf Go.Proofs.YtjlhicopinhiaaaDoor.Su Go.Proofs.YtjlhicopinhiaaaDoor.Sy Go.Proofs.YtjlhicopinhiaaaDoor.Dg Go.Proofs.YtjlhicopinhiaaaDoor.Dp Go.Proofs.YtjlhicopinhiaaaDoor.Dr Go.Proofs.YtjlhicopinhiaaaDoor.Ds
set_option linter.unusedVariables false
set_option linter.unusedSimpArgs false
theorem cat_two (l m : List UInt8) : ((⟨l.toArray⟩ : ByteArray) ++ ⟨m.toArray⟩) = ⟨(l ++ m).toArray⟩ := ByteArray.ext (by rw [ByteArray.data_append]; simp)
theorem cut_str (l : List UInt8) (i j : Nat) : (⟨l.toArray⟩ : ByteArray).extract i j = ⟨((l.drop i).take (j - i)).toArray⟩ := ByteArray.ext (by rw [ByteArray.data_extract]; simp [List.extract_eq_take_drop])
set_option maxHeartbeats 1000000 in
set_option maxRecDepth 100000 in
theorem rsafety (a b : Vector UInt8 32) (r : Int) (w : World) :
    Calls Tryd.prog 7 #[.agg (bv a), .agg (bv b), .int .i64 r] w fun e w' => (e = .returned (.tuple #[.string ⟨(if 1 ≤ r ∧ r ≤ 6000 then safe a b r.toNat else []).toArray⟩, .int .i64 (if 1 ≤ r ∧ r ≤ 6000 then 0 else 1)])) ∧ Below w.heap.size w w' := by
  have al : ∀ (w : World) (o : Obj), Below w.heap.size w (w.alloc o) := fun w o => (Below.refl _ _).alloc (Nat.le_refl _) _
  go_enter Tryd.func7, Tryd.ntmps7
  by_cases h1 : r < 1
  · go_wp2_with fail
    go_ret2
    refine ⟨?_, ((al w _).trans ((al _ _).mono (by simp)))⟩
    rfl
  · by_cases h2 : 6000 < r
    · go_wp2_with fail
      go_ret2
      refine ⟨?_, ((al w _).trans ((al _ _).mono (by simp)))⟩
      rfl
    · obtain ⟨n, rfl⟩ : ∃ n : Nat, r = (n : Int) := ⟨r.toNat, by omega⟩
      have h1n : 1 ≤ n := by omega
      have h2n : n ≤ 6000 := by omega
      have b0 : Below w.heap.size w ((w.alloc (.cells (bv a) 23)).alloc (.cells (bv b) 23)) := (al w _).trans ((al _ _).mono (by simp))
      have ka : By ((w.alloc (.cells (bv a) 23)).alloc (.cells (bv b) 23)) w.heap.size 23 a := by unfold By; simp [go_sem]
      have kb : By ((w.alloc (.cells (bv a) 23)).alloc (.cells (bv b) 23)) (w.heap.size + 1) 23 b := by unfold By; exact hp_alloc_at _ _ (by simp)
      have KA := Lib.hid ka; have KB := Lib.hid kb; have B0 := Lib.hid b0; clear ka kb b0
      go_wp2_with fail
      generalize hw1 : (w.alloc (.cells (bv a) 23)).alloc (.cells (bv b) 23) = w1 at *
      have hra : ∀ u : Held (Like w1), (convert 30 9 (.slice (some ⟨w.heap.size, 0, none⟩) 32 32)).run Tryd.prog u.w = .ok (.string ⟨a.toList.toArray⟩) u.w := fun u => run_str uu8 Tryd.underlying5 Tryd.underlying9 (By.rd (w := u.w) (g := w.heap.size) (T := 23) (k := a) (by obtain ⟨m, hm⟩ := u.h; rw [hm]; exact (hp_drewN m _).trans KA.out) (by simp [maxLen]))
      have hrb : ∀ u : Held (Like w1), (convert 30 9 (.slice (some ⟨w.heap.size + 1, 0, none⟩) 32 32)).run Tryd.prog u.w = .ok (.string ⟨b.toList.toArray⟩) u.w := fun u => run_str uu8 Tryd.underlying5 Tryd.underlying9 (By.rd (w := u.w) (g := w.heap.size + 1) (T := 23) (k := b) (by obtain ⟨m, hm⟩ := u.h; rw [hm]; exact (hp_drewN m _).trans KB.out) (by simp [maxLen]))
      refine wp_region_calm (S := Like w1) (by kernel_rfl) (by kernel_rfl) (Like.refl _) ?_
      intro hN
      repeat (go_big_quiet_step (fail))
      refine wpQuiet_nil ?_
      intro u
      obtain ⟨m, hm⟩ := u.h
      rw [hm]
      clear hN hra hrb hm u
      have ka : hp (w1.drewN m) w.heap.size = some (.cells (bv a) 23 (0, 0)) := (hp_drewN m _).trans KA.out
      have kb : hp (w1.drewN m) (w.heap.size + 1) = some (.cells (bv b) 23 (0, 0)) := (hp_drewN m _).trans KB.out
      have b1 : Below w.heap.size w (w1.drewN m) := ⟨B0.out.os, B0.out.tape, B0.out.output, B0.out.size, B0.out.block⟩
      have B1 := Lib.hid b1
      generalize w1.drewN m = w2 at *
      clear KA KB B0 b1 hw1 w1
      by_cases hc : Op.bytesLess b.toList a.toList = true
      · have HL := Lib.hid hc
        have KA := Lib.hid ka; have KB := Lib.hid kb
        go_wp2_with fail
        obtain ⟨X, HXe⟩ : ∃ X, X = b := ⟨_, rfl⟩
        obtain ⟨Y, HYe⟩ : ∃ Y, Y = a := ⟨_, rfl⟩
        obtain ⟨wq, hwq⟩ : ∃ x, x = (w2.setRow w.heap.size (bv b)).setRow (w.heap.size + 1) (bv a) := ⟨_, rfl⟩
        have HX := Lib.hid (show hp wq w.heap.size = some (.cells (bv X) 23 (0, 0)) by rw [hwq, HXe]; exact (hp_setRow_other _ _ _ (by omega)).trans (hp_setRow_same _ _ _ _ _ KA.out))
        have HY := Lib.hid (show hp wq (w.heap.size + 1) = some (.cells (bv Y) 23 (0, 0)) by rw [hwq, HYe]; exact hp_setRow_same _ _ _ _ _ ((hp_setRow_other _ _ _ (by omega)).trans KB.out))
        have BQ := Lib.hid (show Below w.heap.size w wq by rw [hwq]; exact Below.setRow (Below.setRow B1.out (by omega) _) (by omega) _)
        rw [← hwq]
        have HXE := Lib.hid HXe; have HYE := Lib.hid HYe
        clear hwq ka kb KA KB B1 w2 HXe HYe
        have hcx : ∀ u : Held (fun W => Below wq.heap.size wq W), hp u.w w.heap.size = some (.cells (bv X) 23 (0, 0)) := fun u => By.below (T := 23) (k := X) HX.out u.h
        have hcy : ∀ u : Held (fun W => Below wq.heap.size wq W), hp u.w (w.heap.size + 1) = some (.cells (bv Y) 23 (0, 0)) := fun u => By.below (T := 23) (k := Y) HY.out u.h
        have hcat : ¬ 9223372036854775807 < (digits X n).length + (digits Y n).length := by rw [digits_length, digits_length]; decide
        refine wp_region_calm (S := fun W => Below wq.heap.size wq W) (by kernel_rfl) (by kernel_rfl) ((Below.refl _ _).drew) ?_
        intro hN
        repeat (go_big_quiet_step (first | (go_at_call 15; exact calm_call (rdigits _ n h1n h2n _) (fun w' hs hr => hs.trans (hr.mono hs.size)))))
        refine wpQuiet_nil ?_
        intro u
        have bu := BQ.out.trans (u.h.mono BQ.out.size)
        clear hcx hcy
        obtain ⟨S0, hS⟩ : ∃ S, S = ((⟨(digits X n).toArray⟩ : ByteArray) ++ ⟨(digits Y n).toArray⟩) := ⟨_, rfl⟩
        have hsz : S0.size = 72 := by rw [hS, ByteArray.size_append]; show (digits X n).toArray.size + (digits Y n).toArray.size = 72; simp [digits_length]
        rw [← hS]
        have HS := Lib.hid hS; clear hS hcat
        have BU := Lib.hid bu; clear bu
        go_wp2_with fail
        go_ret2
        refine ⟨?_, BU.out⟩
        have e : (digits X n ++ digits Y n).drop 1 = safe a b n := by
          rw [safe, HXE.out, HYE.out]
          rw [if_pos HL.out]
        show Ending.returned (.tuple #[.string (S0.extract 1 72), .int .i64 0]) = _
        rw [HS.out, cat_two, cut_str, List.take_of_length_le (by simp [digits_length]), e]
        all_goals (exfalso; simp_all; done)
      · have HL := Lib.hid hc
        have KA := Lib.hid ka; have KB := Lib.hid kb
        go_wp2_with fail
        obtain ⟨X, HXe⟩ : ∃ X, X = a := ⟨_, rfl⟩
        obtain ⟨Y, HYe⟩ : ∃ Y, Y = b := ⟨_, rfl⟩
        obtain ⟨wq, hwq⟩ : ∃ x, x = w2 := ⟨_, rfl⟩
        have HX := Lib.hid (show hp wq w.heap.size = some (.cells (bv X) 23 (0, 0)) by rw [hwq, HXe]; exact KA.out)
        have HY := Lib.hid (show hp wq (w.heap.size + 1) = some (.cells (bv Y) 23 (0, 0)) by rw [hwq, HYe]; exact KB.out)
        have BQ := Lib.hid (show Below w.heap.size w wq by rw [hwq]; exact B1.out)
        rw [← hwq]
        have HXE := Lib.hid HXe; have HYE := Lib.hid HYe
        clear hwq ka kb KA KB B1 w2 HXe HYe
        have hcx : ∀ u : Held (fun W => Below wq.heap.size wq W), hp u.w w.heap.size = some (.cells (bv X) 23 (0, 0)) := fun u => By.below (T := 23) (k := X) HX.out u.h
        have hcy : ∀ u : Held (fun W => Below wq.heap.size wq W), hp u.w (w.heap.size + 1) = some (.cells (bv Y) 23 (0, 0)) := fun u => By.below (T := 23) (k := Y) HY.out u.h
        have hcat : ¬ 9223372036854775807 < (digits X n).length + (digits Y n).length := by rw [digits_length, digits_length]; decide
        refine wp_region_calm (S := fun W => Below wq.heap.size wq W) (by kernel_rfl) (by kernel_rfl) ((Below.refl _ _).drew) ?_
        intro hN
        repeat (go_big_quiet_step (first | (go_at_call 15; exact calm_call (rdigits _ n h1n h2n _) (fun w' hs hr => hs.trans (hr.mono hs.size)))))
        refine wpQuiet_nil ?_
        intro u
        have bu := BQ.out.trans (u.h.mono BQ.out.size)
        clear hcx hcy
        obtain ⟨S0, hS⟩ : ∃ S, S = ((⟨(digits X n).toArray⟩ : ByteArray) ++ ⟨(digits Y n).toArray⟩) := ⟨_, rfl⟩
        have hsz : S0.size = 72 := by rw [hS, ByteArray.size_append]; show (digits X n).toArray.size + (digits Y n).toArray.size = 72; simp [digits_length]
        rw [← hS]
        have HS := Lib.hid hS; clear hS hcat
        have BU := Lib.hid bu; clear bu
        go_wp2_with fail
        go_ret2
        refine ⟨?_, BU.out⟩
        have e : (digits X n ++ digits Y n).drop 1 = safe a b n := by
          rw [safe, HXE.out, HYE.out]
          rw [if_neg HL.out]
        show Ending.returned (.tuple #[.string (S0.extract 1 72), .int .i64 0]) = _
        rw [HS.out, cat_two, cut_str, List.take_of_length_le (by simp [digits_length]), e]
end Go.Proofs.YtjlhicopinhiaaaDoor.Dq
