/- SHA-256's words: what the walk's operations on 32 bits come to; the functions of the compression. No program in sight; no conditions. -/
import Derived.Test.YtjlhicopinhiaaaDoorPa
import Derived.Laws.BitsAllLaws
namespace Go.Proofs.YtjlhicopinhiaaaDoor.Sh
open Go Go.RowKit Go.Proofs.YtjlhicopinhiaaaDoor.Pa
set_option linter.unusedVariables false
set_option linter.unusedSimpArgs false

/-- A word's number. -/
def uw (x : UInt32) : Int := (x.toNat : Int)
theorem uw_0 (x : UInt32) : 0 ≤ uw x := by unfold uw; omega
theorem uw_lt (x : UInt32) : uw x < 4294967296 := by have := x.toNat_lt; unfold uw; omega
theorem uw_inj {a b : UInt32} (h : uw a = uw b) : a = b := by unfold uw at h; exact UInt32.toNat_inj.1 (by omega)
@[go_sem] theorem uw_xor (a b : UInt32) : bits BinOp.xor IntKind.u32 (uw a) (uw b) = uw (a ^^^ b) := by
  unfold uw; rw [u32_xor_nat _ _ a.toNat_lt b.toNat_lt, UInt32.toNat_xor]
@[go_sem] theorem uw_and (a b : UInt32) : bits BinOp.and IntKind.u32 (uw a) (uw b) = uw (a &&& b) := by
  unfold uw; rw [u32_and_nat _ _ a.toNat_lt b.toNat_lt, UInt32.toNat_and]
@[go_sem] theorem uw_or (a b : UInt32) : bits BinOp.or IntKind.u32 (uw a) (uw b) = uw (a ||| b) := by
  unfold uw; rw [u32_or_nat _ _ a.toNat_lt b.toNat_lt, UInt32.toNat_or]
@[go_sem] theorem uw_add (a b : UInt32) : IntKind.u32.wrap (uw a + uw b) = uw (a + b) := by
  have h1 := a.toNat_lt
  have h2 := b.toNat_lt
  have h3 : (a + b).toNat = (a.toNat + b.toNat) % 4294967296 := UInt32.toNat_add a b
  unfold uw
  rw [h3]
  simp only [IntKind.wrap, IntKind.signed, IntKind.bits]
  simp
@[go_sem] theorem uw_add' (a b : UInt32) : (uw a + uw b) % 4294967296 = uw (a + b) := by
  have h3 : (a + b).toNat = (a.toNat + b.toNat) % 4294967296 := UInt32.toNat_add a b
  unfold uw
  rw [h3]
  simp
def inv (a : UInt32) : UInt32 := 4294967295 ^^^ a
@[go_sem] theorem uw_not (a : UInt32) : bits BinOp.xor IntKind.u32 (if IntKind.u32.signed = true then -1 else IntKind.u32.max) (uw a) = uw (inv a) := by
  have h : (if IntKind.u32.signed = true then -1 else IntKind.u32.max) = uw 4294967295 := by decide
  rw [h, uw_xor]; rfl
/-- x turned by n places to the right. -/
def rot (x : UInt32) (n : Nat) : UInt32 := UInt32.ofNat (x.toNat / 2 ^ n ||| x.toNat * 2 ^ (32 - n) % 4294967296)
def shr (x : UInt32) (n : Nat) : UInt32 := UInt32.ofNat (x.toNat / 2 ^ n)
theorem div_lt (x : UInt32) (n : Nat) : x.toNat / 2 ^ n < 4294967296 := Nat.lt_of_le_of_lt (Nat.div_le_self _ _) x.toNat_lt
theorem or_lt32 {a b : Nat} (ha : a < 4294967296) (hb : b < 4294967296) : a ||| b < 4294967296 := Nat.or_lt_two_pow (n := 32) ha hb
theorem uw_rot (x : UInt32) (n : Nat) : bits BinOp.or IntKind.u32 (uw x / 2 ^ n) (uw x * 2 ^ (32 - n) % 4294967296) = uw (rot x n) := by
  have h1 := div_lt x n
  have h2 : x.toNat * 2 ^ (32 - n) % 4294967296 < 4294967296 := Nat.mod_lt _ (by omega)
  have e1 : uw x / 2 ^ n = ((x.toNat / 2 ^ n : Nat) : Int) := by unfold uw; simp
  have e2 : uw x * 2 ^ (32 - n) % 4294967296 = ((x.toNat * 2 ^ (32 - n) % 4294967296 : Nat) : Int) := by unfold uw; simp
  rw [e1, e2, u32_or_nat _ _ h1 h2]
  unfold uw rot
  rw [UInt32.toNat_ofNat_of_lt' (or_lt32 h1 h2)]
theorem uw_rot' (x : UInt32) (n : Nat) : bits BinOp.or IntKind.u32 (uw x * 2 ^ (32 - n) % 4294967296) (uw x / 2 ^ n) = uw (rot x n) := by
  have h1 := div_lt x n
  have h2 : x.toNat * 2 ^ (32 - n) % 4294967296 < 4294967296 := Nat.mod_lt _ (by omega)
  have e1 : uw x / 2 ^ n = ((x.toNat / 2 ^ n : Nat) : Int) := by unfold uw; simp
  have e2 : uw x * 2 ^ (32 - n) % 4294967296 = ((x.toNat * 2 ^ (32 - n) % 4294967296 : Nat) : Int) := by unfold uw; simp
  rw [e1, e2, u32_or_nat _ _ h2 h1, Nat.or_comm]
  unfold uw rot
  rw [UInt32.toNat_ofNat_of_lt' (or_lt32 h1 h2)]
theorem uw_shr (x : UInt32) (n m : Nat) (h : m = 2 ^ n) : uw x / (m : Int) = uw (shr x n) := by
  subst h
  unfold shr
  have h1 := div_lt x n
  unfold uw
  rw [UInt32.toNat_ofNat_of_lt' h1]
  simp
@[go_sem] theorem uw_shr3 (x : UInt32) : uw x / 8 = uw (shr x 3) := uw_shr x 3 8 rfl
@[go_sem] theorem uw_shr10 (x : UInt32) : uw x / 1024 = uw (shr x 10) := uw_shr x 10 1024 rfl
def sg0 (x : UInt32) : UInt32 := rot x 7 ^^^ rot x 18 ^^^ shr x 3
def sg1 (x : UInt32) : UInt32 := rot x 17 ^^^ rot x 19 ^^^ shr x 10
def Sg0 (x : UInt32) : UInt32 := rot x 2 ^^^ rot x 13 ^^^ rot x 22
def Sg1 (x : UInt32) : UInt32 := rot x 6 ^^^ rot x 11 ^^^ rot x 25
end Go.Proofs.YtjlhicopinhiaaaDoor.Sh
