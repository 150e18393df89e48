/- A key's digits, plain. No program in sight. -/
import Derived.Test.YtjlhicopinhiaaaDoorSd
namespace Go.Proofs.YtjlhicopinhiaaaDoor.Dg
open Go Go.RowKit Go.Proofs.YtjlhicopinhiaaaDoor.Pa Go.Proofs.YtjlhicopinhiaaaDoor.Sd
set_option linter.unusedVariables false

/-- "pawl safety". -/
def label : List UInt8 := [112, 97, 119, 108, 32, 115, 97, 102, 101, 116, 121]
/-- The hash after 1 + n rounds. -/
def turnsN (k : Vector UInt8 32) : Nat → Vector UInt8 32
  | 0 => sha (label ++ k.toList)
  | n + 1 => sha ((turnsN k n).toList ++ k.toList)
/-- Five bytes' number, the greatest first. -/
def five (h : Vector UInt8 32) (g : Nat) : Nat → Nat
  | 0 => 0
  | j + 1 => five h g j * 256 + (h.toList.getD (5 * g + j) 0).toNat
theorem five_lt (h : Vector UInt8 32) (g j : Nat) : five h g j < 256 ^ j := by
  induction j with
  | zero => simp [five]
  | succ j ih =>
    have := (h.toList.getD (5 * g + j) 0).toNat_lt
    simp only [five, Nat.pow_succ]
    omega
/-- A blank and five digits. -/
def group (n : Nat) : List UInt8 := [32, UInt8.ofNat (48 + n / 10000 % 10), UInt8.ofNat (48 + n / 1000 % 10), UInt8.ofNat (48 + n / 100 % 10), UInt8.ofNat (48 + n / 10 % 10), UInt8.ofNat (48 + n % 10)]
theorem group_length (n : Nat) : (group n).length = 6 := rfl
/-- The divisors. -/
def pw : Nat → Nat
  | 0 => 10000
  | 1 => 1000
  | 2 => 100
  | 3 => 10
  | _ => 1
theorem pw_pos (p : Nat) : 0 < pw p := by unfold pw; split <;> decide
theorem group_take (n p : Nat) (hp : p < 5) : (group n).take (1 + p) ++ [UInt8.ofNat (48 + n / pw p % 10)] = (group n).take (1 + (p + 1)) := by
  obtain rfl | rfl | rfl | rfl | rfl : p = 0 ∨ p = 1 ∨ p = 2 ∨ p = 3 ∨ p = 4 := by omega
  all_goals simp [group, pw]
/-- The last j digits. -/
def last (M : Nat) : Nat → List UInt8
  | 0 => []
  | j + 1 => UInt8.ofNat (48 + M / 10 ^ j % 10) :: last M j
theorem last_length (M j : Nat) : (last M j).length = j := by
  induction j with
  | zero => rfl
  | succ j ih => simp [last, ih]
theorem last_five (N : Nat) : 32 :: last (N % 100000) 5 = group N := by
  simp only [last, group, show (10 : Nat) ^ 4 = 10000 from rfl, show (10 : Nat) ^ 3 = 1000 from rfl, show (10 : Nat) ^ 2 = 100 from rfl, show (10 : Nat) ^ 1 = 10 from rfl, show (10 : Nat) ^ 0 = 1 from rfl, Nat.div_one]
  have h1 : N % 100000 / 10000 % 10 = N / 10000 % 10 := by omega
  have h2 : N % 100000 / 1000 % 10 = N / 1000 % 10 := by omega
  have h3 : N % 100000 / 100 % 10 = N / 100 % 10 := by omega
  have h4 : N % 100000 / 10 % 10 = N / 10 % 10 := by omega
  have h5 : N % 100000 % 10 = N % 10 := by omega
  rw [h1, h2, h3, h4, h5]
theorem div_ten (M j : Nat) : M / 10 ^ (j + 1) = M / 10 ^ j / 10 := by rw [Nat.div_div_eq_div_mul, Nat.pow_succ]
/-- The first g groups. -/
def groups (h : Vector UInt8 32) : Nat → List UInt8
  | 0 => []
  | g + 1 => groups h g ++ group (five h g 5)
theorem groups_length (h : Vector UInt8 32) (g : Nat) : (groups h g).length = 6 * g := by
  induction g with
  | zero => rfl
  | succ g ih => simp only [groups, List.length_append, ih, group_length]; omega
def digits (k : Vector UInt8 32) (rounds : Nat) : List UInt8 := groups (turnsN k (rounds - 1)) 6
theorem digits_length (k : Vector UInt8 32) (rounds : Nat) : (digits k rounds).length = 36 := groups_length _ 6
end Go.Proofs.YtjlhicopinhiaaaDoor.Dg
