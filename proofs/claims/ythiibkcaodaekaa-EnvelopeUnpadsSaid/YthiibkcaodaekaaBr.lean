/- The buckets, the reference's side; how many bytes a number has, on both sides. -/
import Derived.Test.YthiibkcaodaekaaBk
import Derived.Test.YthiibkcaodaekaaPb
namespace Go.Proofs.Ythiibkcaodaekaa.Br
open Go Go.RowKit Go.Proofs.Ythiibkcaodaekaa.Pa Go.Proofs.Ythiibkcaodaekaa.Pb Go.Proofs.Ythiibkcaodaekaa.Bk
set_option linter.unusedVariables false
set_option linter.unusedSimpArgs false

theorem rnext1 (b : Nat) (hb : b ≤ 4194304) (w : World) : Calls Try.prog 27 #[.int .i64 1, .int .i64 b] w fun e w' => e = .returned (.int .i64 (next 1 b : Nat)) ∧ w = w' := by
  go_enter Try.func27, Try.ntmps27
  go_wp2
  go_ret
  exact ⟨by simp [next], rfl⟩
theorem rnext2 (b : Nat) (hb : b ≤ 4194304) (w : World) : Calls Try.prog 27 #[.int .i64 2, .int .i64 b] w fun e w' => e = .returned (.int .i64 (next 2 b : Nat)) ∧ w = w' := by
  go_enter Try.func27, Try.ntmps27
  go_wp2
  go_loop [5] (fun s => ∃ e : Nat, 0 < e ∧ (e = 1 ∨ e ≤ b) ∧ U b e = U b 1 ∧ s = .int .i64 e) (fun s => b + 1 - (intOf s).toNat)
  case atStart => exact ⟨1, by omega, by omega, rfl, rfl⟩
  case round =>
    obtain ⟨e, h0, h1, h2, rfl⟩ := hrel
    have HU : Hid (U b e = U b 1) := h2
    clear h2
    have hq : wrap64 ((b : Int) / (e : Int)) = ((b / e : Nat) : Int) := by
      have : b / e ≤ b := Nat.div_le_self _ _
      rw [← Int.natCast_ediv]
      generalize b / e = q at *
      exact w64 (by omega) (by omega)
    by_cases h : 16 ≤ b / e
    · have h3 := room h0 h
      have h' : (15 : Int) < ((b / e : Nat) : Int) := by omega
      go_wp2
      go_round
      case rel => exact ⟨2 * e, by omega, by omega, by rw [U_step h0 h]; exact HU.out, by go_num⟩
      case measure => simp [intOf]; omega
    · have h' : ((b / e : Nat) : Int) ≤ 15 := by omega
      go_wp2
      go_ret
      have : U b 1 = e := by rw [← HU.out, U_end h]
      exact ⟨by simp [next, this], rfl⟩

theorem rleast1 (n : Nat) (hn : n ≤ 1048580) (w : World) : Calls Try.prog 21 #[.int .i64 1, .int .i64 n] w fun e w' => e = .returned (.int .i64 (up 1 n 64 : Nat)) ∧ w = w' := by
  go_enter Try.func21, Try.ntmps21
  go_wp2
  go_loop [5] (fun s => ∃ b : Nat, 0 < b ∧ (b = 64 ∨ b ≤ 2 * n) ∧ up 1 n b = up 1 n 64 ∧ s = .int .i64 b) (fun s => n - (intOf s).toNat)
  case atStart => exact ⟨64, by omega, by omega, rfl, rfl⟩
  case round =>
    obtain ⟨b, b0, b1, b2, rfl⟩ := hrel
    have HU := Lib.hid b2; clear b2
    have hgt := next_gt 1 b b0
    have hle := next_le 1 b b0
    by_cases h : b < n
    · go_wp2_with (go_at_call 27; refine (rnext1 b (by omega) _).mono ?_; rintro e w2 ⟨rfl, rfl⟩)
      go_round
      case rel => exact ⟨next 1 b, by omega, by omega, by rw [up_step b0 h]; exact HU.out, rfl⟩
      case measure => simp [intOf]; omega
    · go_wp2
      go_ret
      rw [← HU.out, up_end h]
      exact ⟨rfl, rfl⟩
theorem rleast2 (n : Nat) (hn : n ≤ 1048580) (w : World) : Calls Try.prog 21 #[.int .i64 2, .int .i64 n] w fun e w' => e = .returned (.int .i64 (up 2 n 64 : Nat)) ∧ w = w' := by
  go_enter Try.func21, Try.ntmps21
  go_wp2
  go_loop [5] (fun s => ∃ b : Nat, 0 < b ∧ (b = 64 ∨ b ≤ 2 * n) ∧ up 2 n b = up 2 n 64 ∧ s = .int .i64 b) (fun s => n - (intOf s).toNat)
  case atStart => exact ⟨64, by omega, by omega, rfl, rfl⟩
  case round =>
    obtain ⟨b, b0, b1, b2, rfl⟩ := hrel
    have HU := Lib.hid b2; clear b2
    have hgt := next_gt 2 b b0
    have hle := next_le 2 b b0
    by_cases h : b < n
    · go_wp2_with (go_at_call 27; refine (rnext2 b (by omega) _).mono ?_; rintro e w2 ⟨rfl, rfl⟩)
      go_round
      case rel => exact ⟨next 2 b, by omega, by omega, by rw [up_step b0 h]; exact HU.out, rfl⟩
      case measure => simp [intOf]; omega
    · go_wp2
      go_ret
      rw [← HU.out, up_end h]
      exact ⟨rfl, rfl⟩
theorem rknown (v : Int) (w : World) : Calls Try.prog 20 #[.int .i64 v] w fun e w' => e = .returned (.bool (known v)) ∧ w = w' := by
  by_cases h : v = 1
  · subst h
    go_enter Try.func20, Try.ntmps20
    go_wp2
    go_ret
    exact ⟨rfl, rfl⟩
  · have e1 : (v == 1) = false := by simpa using h
    go_enter Try.func20, Try.ntmps20
    go_wp2
    go_ret
    exact ⟨by simp [known, e1], rfl⟩

theorem rbucket (v n : Int) (w : World) :
    Calls Try.prog 14 #[.int .i64 v, .int .i64 n] w fun e w' => e = .returned (.tuple #[.int .i64 (bucket v n).1, .int .i64 (bucket v n).2]) ∧ w = w' := by
  by_cases hv : v = 1 ∨ v = 2
  · have hk : known v = true := by rcases hv with rfl | rfl <;> rfl
    by_cases h1 : n < 0
    · have hb : bucket v n = (0, 1) := by unfold bucket; rw [if_neg (by omega), if_pos h1]
      have Hb := Lib.hid hb; clear hb
      go_enter Try.func14, Try.ntmps14
      go_wp2_with (go_at_call 20; refine (rknown _ _).mono ?_; rintro e w1 ⟨rfl, rfl⟩)
      go_ret2
      rw [Hb.out]
      exact ⟨rfl, rfl⟩
    · by_cases h2 : 1048576 < n
      · have hb : bucket v n = (0, 2) := by unfold bucket; rw [if_neg (by omega), if_neg h1, if_pos h2]
        have Hb := Lib.hid hb; clear hb
        go_enter Try.func14, Try.ntmps14
        go_wp2_with (go_at_call 20; refine (rknown _ _).mono ?_; rintro e w1 ⟨rfl, rfl⟩)
        go_ret2
        rw [Hb.out]
        exact ⟨rfl, rfl⟩
      · obtain ⟨m, rfl⟩ := Int.eq_ofNat_of_zero_le (show 0 ≤ n by omega)
        have hb : bucket v m = (((up v.toNat (m + 4) 64 : Nat) : Int), 0) := by unfold bucket; rw [if_neg (by omega), if_neg h1, if_neg h2]; rfl
        have Hb := Lib.hid hb; clear hb
        have hm : (m : Int) ≤ 1048576 := by omega
        rcases hv with rfl | rfl
        · go_enter Try.func14, Try.ntmps14
          go_wp2_with (first | (go_at_call 20; refine (rknown _ _).mono ?_; rintro e w1 ⟨rfl, rfl⟩) | (go_at_call 21; refine (rleast1 (m + 4) (by omega) _).mono ?_; rintro e w1 ⟨rfl, rfl⟩))
          go_ret2
          rw [Hb.out]
          exact ⟨rfl, rfl⟩
        · go_enter Try.func14, Try.ntmps14
          go_wp2_with (first | (go_at_call 20; refine (rknown _ _).mono ?_; rintro e w1 ⟨rfl, rfl⟩) | (go_at_call 21; refine (rleast2 (m + 4) (by omega) _).mono ?_; rintro e w1 ⟨rfl, rfl⟩))
          go_ret2
          rw [Hb.out]
          exact ⟨rfl, rfl⟩
  · have hk : known v = false := by simp [known]; omega
    have hb : bucket v n = (0, 100) := by unfold bucket; rw [if_pos hv]
    have Hb := Lib.hid hb; clear hb
    go_enter Try.func14, Try.ntmps14
    go_wp2_with (go_at_call 20; refine (rknown _ _).mono ?_; rintro e w1 ⟨rfl, rfl⟩)
    go_ret2
    rw [Hb.out]
    exact ⟨rfl, rfl⟩
end Go.Proofs.Ythiibkcaodaekaa.Br
