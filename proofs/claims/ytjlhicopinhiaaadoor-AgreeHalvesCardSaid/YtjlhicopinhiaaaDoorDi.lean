/- The law's side, and the half of a number. -/
import Derived.Test.YtjlhicopinhiaaaDoorDj
namespace Go.Proofs.YtjlhicopinhiaaaDoor.Di
open Go Go.RowKit Go.Proofs.YtjlhicopinhiaaaDoor.Pa Go.Proofs.YtjlhicopinhiaaaDoor.Pb Go.Proofs.YtjlhicopinhiaaaDoor.Pc Go.Proofs.YtjlhicopinhiaaaDoor.Pf Go.Proofs.YtjlhicopinhiaaaDoor.Pq Go.Proofs.YtjlhicopinhiaaaDoor.Pr Go.Proofs.YtjlhicopinhiaaaDoor.Sv Go.Proofs.YtjlhicopinhiaaaDoor.Sk Go.Proofs.YtjlhicopinhiaaaDoor.Sd Go.Proofs.YtjlhicopinhiaaaDoor.Se Go.Proofs.YtjlhicopinhiaaaDoor.Sf Go.Proofs.YtjlhicopinhiaaaDoor.Su Go.Proofs.YtjlhicopinhiaaaDoor.Dg Go.Proofs.YtjlhicopinhiaaaDoor.Dp Go.Proofs.YtjlhicopinhiaaaDoor.Ds Go.Proofs.YtjlhicopinhiaaaDoor.Dq Go.Proofs.YtjlhicopinhiaaaDoor.Dm
set_option linter.unusedVariables false
set_option linter.unusedSimpArgs false
/-- The half of a key, g groups of it, a blank behind each. -/
def halfs (H : Vector UInt8 32) (g : Nat) : List UInt8 := (groups H g ++ [32]).drop 1
theorem halfs_succ (H : Vector UInt8 32) (g : Nat) : halfs H (g + 1) = halfs H g ++ (group (five H g 5)).drop 1 ++ [32] := by
  unfold halfs
  rw [groups]
  cases hg : groups H g with
  | nil => simp [group]
  | cons x t => simp [group]
theorem halfs_length (H : Vector UInt8 32) (g : Nat) : (halfs H g).length = 6 * g := by simp [halfs, groups_length]
theorem halfs_six (a : Vector UInt8 32) (r : Nat) : (halfs (turnsN a (r - 1)) 6).take 35 = (digits a r).drop 1 := by
  unfold halfs digits
  rw [List.drop_append_of_le_length (by rw [groups_length]; decide), List.take_left' (by simp [groups_length])]
theorem side_half (a b : Vector UInt8 32) (r : Nat) : (if Op.bytesLess b.toList a.toList = true then (safe a b r).drop 36 else (safe a b r).take 35) = (digits a r).drop 1 := by
  unfold safe
  split
  · rw [List.drop_drop, show 1 + 36 = 36 + 1 from rfl, ← List.drop_drop, List.drop_left' (digits_length b r)]
  · rw [List.drop_append_of_le_length (by rw [digits_length]; decide), List.take_left' (by simp [digits_length])]
def pq : Nat → Nat
  | 0 => 10000
  | 1 => 1000
  | 2 => 100
  | 3 => 10
  | 4 => 1
  | _ => 0
theorem pq_pos (j : Nat) (h : j < 5) : 0 < pq j := by
  obtain rfl | rfl | rfl | rfl | rfl : j = 0 ∨ j = 1 ∨ j = 2 ∨ j = 3 ∨ j = 4 := by omega
  all_goals decide
theorem pq_le (j : Nat) : pq j ≤ 10000 := by unfold pq; split <;> decide
theorem pq_next (j : Nat) (h : j < 5) : pq j / 10 = pq (j + 1) := by
  obtain rfl | rfl | rfl | rfl | rfl : j = 0 ∨ j = 1 ∨ j = 2 ∨ j = 3 ∨ j = 4 := by omega
  all_goals decide
theorem digit_next (N j : Nat) (h : j < 5) : ((group N).drop 1).take j ++ [UInt8.ofNat (48 + N % 100000 / pq j % 10)] = ((group N).drop 1).take (j + 1) := by
  have e0 : N % 100000 / 10000 % 10 = N / 10000 % 10 := by omega
  have e1 : N % 100000 / 1000 % 10 = N / 1000 % 10 := by omega
  have e2 : N % 100000 / 100 % 10 = N / 100 % 10 := by omega
  have e3 : N % 100000 / 10 % 10 = N / 10 % 10 := by omega
  have e4 : N % 100000 / 1 % 10 = N % 10 := by omega
  obtain rfl | rfl | rfl | rfl | rfl : j = 0 ∨ j = 1 ∨ j = 2 ∨ j = 3 ∨ j = 4 := by omega
  · rw [show pq 0 = 10000 from rfl, e0]; rfl
  · rw [show pq 1 = 1000 from rfl, e1]; rfl
  · rw [show pq 2 = 100 from rfl, e2]; rfl
  · rw [show pq 3 = 10 from rfl, e3]; rfl
  · rw [show pq 4 = 1 from rfl, e4]; rfl
set_option maxHeartbeats 1000000 in
set_option maxRecDepth 100000 in
theorem pside {S : ByteArray} (hS : S.size = 71) (a b : Vector UInt8 32) (w : World) :
    Calls Tryd.prog 11 #[.string S, .agg (bv a), .agg (bv b)] w fun e w' => e = .returned (.string (if Op.bytesLess b.toList a.toList = true then S.extract 36 71 else S.extract 0 35)) ∧ Below w.heap.size w w' := by
  have b0 : Below w.heap.size w ((w.alloc (.cells (bv a) 23)).alloc (.cells (bv b) 23)) := ((Below.refl _ _).alloc (Nat.le_refl _) _).alloc (by simp) _
  have ka : By ((w.alloc (.cells (bv a) 23)).alloc (.cells (bv b) 23)) w.heap.size 23 a := by unfold By; simp [go_sem]
  have kb : By ((w.alloc (.cells (bv a) 23)).alloc (.cells (bv b) 23)) (w.heap.size + 1) 23 b := by unfold By; exact hp_alloc_at _ _ (by simp)
  have KA := Lib.hid ka; have KB := Lib.hid kb; have B0 := Lib.hid b0; clear ka kb b0
  go_enter Tryd.func11, Tryd.ntmps11
  go_wp2_with fail
  generalize hw1 : (w.alloc (.cells (bv a) 23)).alloc (.cells (bv b) 23) = w1 at *
  have hra : ∀ u : Held (Like w1), (convert 30 9 (.slice (some ⟨w.heap.size, 0, none⟩) 32 32)).run Tryd.prog u.w = .ok (.string ⟨a.toList.toArray⟩) u.w := fun u => run_str uu8 Tryd.underlying5 Tryd.underlying9 (By.rd (w := u.w) (g := w.heap.size) (T := 23) (k := a) (by obtain ⟨m, hm⟩ := u.h; rw [hm]; exact (hp_drewN m _).trans KA.out) (by simp [maxLen]))
  have hrb : ∀ u : Held (Like w1), (convert 30 9 (.slice (some ⟨w.heap.size + 1, 0, none⟩) 32 32)).run Tryd.prog u.w = .ok (.string ⟨b.toList.toArray⟩) u.w := fun u => run_str uu8 Tryd.underlying5 Tryd.underlying9 (By.rd (w := u.w) (g := w.heap.size + 1) (T := 23) (k := b) (by obtain ⟨m, hm⟩ := u.h; rw [hm]; exact (hp_drewN m _).trans KB.out) (by simp [maxLen]))
  refine wp_region_calm (S := Like w1) (by kernel_rfl) (by kernel_rfl) (Like.refl _) ?_
  intro hN
  repeat (go_big_quiet_step (fail))
  refine wpQuiet_nil ?_
  intro u
  obtain ⟨m, hm⟩ := u.h
  rw [hm]
  have b1 : Below w.heap.size w (w1.drewN m) := ⟨B0.out.os, B0.out.tape, B0.out.output, B0.out.size, B0.out.block⟩
  have B1 := Lib.hid b1
  clear hN hra hrb hm u KA KB B0 b1 hw1
  by_cases hc : Op.bytesLess b.toList a.toList = true
  · have e : (if Op.bytesLess b.toList a.toList = true then S.extract 36 71 else S.extract 0 35) = S.extract 36 71 := if_pos hc
    have HE := Lib.hid e; clear e
    go_wp2_with fail
    · go_ret
      refine ⟨?_, B1.out⟩
      rfl
    all_goals (exfalso; simp_all; done)
  · have e : (if Op.bytesLess b.toList a.toList = true then S.extract 36 71 else S.extract 0 35) = S.extract 0 35 := if_neg hc
    have HE := Lib.hid e; clear e
    go_wp2_with fail
    all_goals first
      | (exfalso; simp_all; done)
      | (go_ret
         refine ⟨?_, B1.out⟩
         rfl)
end Go.Proofs.YtjlhicopinhiaaaDoor.Di
