/- The hash of bytes, plain: padding, blocks, the words' bytes. No program in sight. -/
import Derived.Test.YtjlhicopinhiaaaDoorSv
namespace Go.Proofs.YtjlhicopinhiaaaDoor.Sd
open Go Go.RowKit Go.Proofs.YtjlhicopinhiaaaDoor.Pa Go.Proofs.YtjlhicopinhiaaaDoor.Pb Go.Proofs.YtjlhicopinhiaaaDoor.Pc Go.Proofs.YtjlhicopinhiaaaDoor.Pf Go.Proofs.YtjlhicopinhiaaaDoor.Sh Go.Proofs.YtjlhicopinhiaaaDoor.Sv
set_option linter.unusedVariables false
set_option linter.unusedSimpArgs false

def H0 : Vector UInt32 8 := #v[1779033703, 3144134277, 1013904242, 2773480762, 1359893119, 2600822924, 528734635, 1541459225]
/-- Eight bytes, the greatest first. -/
def be8 (x : Nat) : List UInt8 := [UInt8.ofNat (x / 72057594037927936), UInt8.ofNat (x / 281474976710656), UInt8.ofNat (x / 1099511627776), UInt8.ofNat (x / 4294967296), UInt8.ofNat (x / 16777216), UInt8.ofNat (x / 65536), UInt8.ofNat (x / 256), UInt8.ofNat x]
theorem be8_length (x : Nat) : (be8 x).length = 8 := rfl
def zeros (n : Nat) : Nat := (119 - n % 64) % 64
theorem zeros_lt (n : Nat) : zeros n < 64 := Nat.mod_lt _ (by omega)
/-- What stands behind n bytes. -/
def padN (n : Nat) : List UInt8 := 128 :: (List.replicate (zeros n) 0 ++ be8 (8 * n % 18446744073709551616))
theorem padN_length (n : Nat) : (padN n).length = zeros n + 9 := by simp [padN, be8]
theorem padN_mod (n : Nat) : (n + (padN n).length) % 64 = 0 := by rw [padN_length]; unfold zeros; omega
/-- The k-th block of bytes. -/
def chunk (l : List UInt8) (k : Nat) : Vector UInt8 64 := Vector.ofFn fun j => l.getD (64 * k + j) 0
theorem chunk_at (l : List UInt8) (k j : Nat) (hj : j < 64) : (chunk l k)[j] = l.getD (64 * k + j) 0 := by simp [chunk]
/-- The words behind k blocks. -/
def foldN (h : Vector UInt32 8) (l : List UInt8) : Nat → Vector UInt32 8
  | 0 => h
  | k + 1 => block Kc (foldN h l k) (bf (chunk l k))
theorem chunk_append (l m : List UInt8) (k : Nat) (h : 64 * (k + 1) ≤ l.length) : chunk (l ++ m) k = chunk l k := by
  apply Vector.ext; intro j hj
  rw [chunk_at _ _ _ hj, chunk_at _ _ _ hj]
  simp only [List.getD_eq_getElem?_getD]
  rw [List.getElem?_append_left (by omega)]
theorem foldN_append (h : Vector UInt32 8) (l m : List UInt8) (k : Nat) (hk : 64 * k ≤ l.length) : foldN h (l ++ m) k = foldN h l k := by
  induction k with
  | zero => rfl
  | succ k ih => rw [foldN, foldN, ih (by omega), chunk_append l m k (by omega)]
theorem chunk_drop (l : List UInt8) (a k : Nat) : chunk (l.drop (64 * a)) k = chunk l (a + k) := by
  apply Vector.ext; intro j hj
  rw [chunk_at _ _ _ hj, chunk_at _ _ _ hj]
  simp only [List.getD_eq_getElem?_getD, List.getElem?_drop]
  congr 2; omega
theorem foldN_drop (h : Vector UInt32 8) (l : List UInt8) (a k : Nat) : foldN (foldN h l a) (l.drop (64 * a)) k = foldN h l (a + k) := by
  induction k with
  | zero => rfl
  | succ k ih => rw [foldN, ih, chunk_drop, ← Nat.add_assoc, foldN]
def bytesOf (h : Vector UInt32 8) : Vector UInt8 32 := Vector.ofFn fun i => UInt8.ofNat (h[i.val / 4].toNat / 2 ^ (24 - 8 * (i.val % 4)))
def whole (l : List UInt8) : List UInt8 := l ++ padN l.length
def sha (l : List UInt8) : Vector UInt8 32 := bytesOf (foldN H0 (whole l) ((whole l).length / 64))
theorem whole_mod (l : List UInt8) : (whole l).length % 64 = 0 := by
  unfold whole; rw [List.length_append]; exact padN_mod _
end Go.Proofs.YtjlhicopinhiaaaDoor.Sd
