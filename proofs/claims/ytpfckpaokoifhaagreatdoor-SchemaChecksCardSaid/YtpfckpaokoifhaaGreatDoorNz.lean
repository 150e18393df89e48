/- A number's bytes, and how many they are: plain. -/
import Derived.Test.YtpfckpaokoifhaaGreatDoorPb
namespace Go.Proofs.YtpfckpaokoifhaaGreatDoor.Nz
set_option linter.unusedVariables false

/-- A number's bytes. -/
def num (n : Nat) : List UInt8 := if h : 128 ≤ n then UInt8.ofNat (n % 128 + 128) :: num (n / 128) else [UInt8.ofNat n]
termination_by n
decreasing_by omega
theorem num_step {n : Nat} (h : 128 ≤ n) : num n = UInt8.ofNat (n % 128 + 128) :: num (n / 128) := by
  rw [num, dif_pos h]
theorem num_end {n : Nat} (h : ¬ 128 ≤ n) : num n = [UInt8.ofNat n] := by rw [num, dif_neg h]
/-- How many they are. -/
def sz (n : Nat) : Nat := (num n).length
theorem sz_step {n : Nat} (h : 128 ≤ n) : sz n = sz (n / 128) + 1 := by simp [sz, num_step h]
theorem sz_end {n : Nat} (h : ¬ 128 ≤ n) : sz n = 1 := by simp [sz, num_end h]
theorem sz_pos (n : Nat) : 0 < sz n := by
  by_cases h : 128 ≤ n
  · rw [sz_step h]; omega
  · rw [sz_end h]; omega
theorem sz_le : ∀ (k n : Nat), n < 128 ^ (k + 1) → sz n ≤ k + 1
  | 0, n, h => by rw [sz_end (by omega)]; omega
  | k + 1, n, h => by
    by_cases hn : 128 ≤ n
    · rw [sz_step hn]
      have := sz_le k (n / 128) (by rw [Nat.div_lt_iff_lt_mul (by omega), ← Nat.pow_succ]; exact h)
      omega
    · rw [sz_end hn]; omega
theorem sz_u64 (n : Nat) (h : n < 18446744073709551616) : sz n ≤ 10 := sz_le 9 n (by omega)
end Go.Proofs.YtpfckpaokoifhaaGreatDoor.Nz
