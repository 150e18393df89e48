/- Floats: the program's test of a float's bits by the order of its bits. No program is walked here. -/
import Derived.Test.YtinngljphjdpoaaDoorJKd
import Derived.Lib.ValidLaws
namespace Go.Proofs.YtinngljphjdpoaaDoor.Fl
open Go Go.RowKit Go.Proofs.YtinngljphjdpoaaDoor.Vh
set_option linter.unusedVariables false
set_option linter.unusedSimpArgs false
/-- What a rung stands for, in units of the least place. -/
def val (a : Nat) : Nat := if a < 4503599627370496 then a else (4503599627370496 + a % 4503599627370496) * 2 ^ (a / 4503599627370496 - 1)
theorem val_lt {a b : Nat} (h : a < b) : val a < val b := by
  unfold val
  by_cases hb : b < 4503599627370496
  · rw [if_pos (by omega), if_pos hb]; exact h
  · rw [if_neg hb]
    by_cases ha : a < 4503599627370496
    · rw [if_pos ha]
      have : 1 ≤ 2 ^ (b / 4503599627370496 - 1) := Nat.one_le_two_pow
      have := Nat.mul_le_mul_left (4503599627370496 + b % 4503599627370496) this
      omega
    · rw [if_neg ha]
      by_cases hq : a / 4503599627370496 = b / 4503599627370496
      · rw [hq]
        exact Nat.mul_lt_mul_of_pos_right (by omega) (Nat.two_pow_pos _)
      · have hlt : a / 4503599627370496 < b / 4503599627370496 := by omega
        obtain ⟨d, hd⟩ : ∃ d, b / 4503599627370496 - 1 = (a / 4503599627370496 - 1) + 1 + d := ⟨b / 4503599627370496 - 1 - (a / 4503599627370496 - 1) - 1, by omega⟩
        rw [hd, Nat.pow_add, Nat.pow_add]
        have h1 : 1 ≤ 2 ^ d := Nat.one_le_two_pow
        have h2 : 0 < 2 ^ (a / 4503599627370496 - 1) := Nat.two_pow_pos _
        generalize 2 ^ (a / 4503599627370496 - 1) = p at *
        generalize 2 ^ d = e at *
        have h3 : a % 4503599627370496 < 4503599627370496 := Nat.mod_lt _ (by decide)
        generalize a % 4503599627370496 = r at *
        generalize b % 4503599627370496 = s at *
        have h4 : (4503599627370496 + r) * p < 9007199254740992 * p := Nat.mul_lt_mul_of_pos_right (by omega) h2
        have h5 : 9007199254740992 * p ≤ (4503599627370496 + s) * (p * 2 ^ 1 * e) := by
          have : 4503599627370496 * (p * 2 ^ 1 * 1) ≤ (4503599627370496 + s) * (p * 2 ^ 1 * e) := Nat.mul_le_mul (by omega) (Nat.mul_le_mul (Nat.le_refl _) h1)
          omega
        omega
theorem val_cmp (a b : Nat) : compare (val a : Int) (val b : Int) = compare a b := by
  rcases Nat.lt_trichotomy a b with h | h | h
  · have := val_lt h
    rw [Nat.compare_eq_lt.2 h]
    exact Int.compare_eq_lt.2 (by omega)
  · subst h; simp
  · have := val_lt h
    rw [Nat.compare_eq_gt.2 h]
    exact Int.compare_eq_gt.2 (by omega)
/-- A finite word of the positive ones. -/
theorem read_fin {a : Nat} (h : a < 9218868437227405312) : ∃ m e : Nat, FloatKind.f64.format.read a = .number false m (-1074 + (e : Int)) ∧ m * 2 ^ e = val a := by
  have hs : FloatKind.f64.format = Ieee.double := rfl
  rw [hs]
  unfold Ieee.Format.read val
  have e1 : Ieee.double.signWeight = 9223372036854775808 := by decide
  have e2 : Ieee.double.binade = 4503599627370496 := by decide
  have e3 : Ieee.double.infRung = 9218868437227405312 := by decide
  have e4 : Ieee.double.leastPlace = -1074 := by decide
  simp only [e1, e2, e3, e4]
  have h1 : a / 9223372036854775808 = 0 := by omega
  have h2 : a % 9223372036854775808 = a := Nat.mod_eq_of_lt (by omega)
  rw [h1, h2]
  by_cases hb : a < 4503599627370496
  · rw [if_pos hb, if_pos hb]; exact ⟨a, 0, rfl, by simp⟩
  · rw [if_neg hb, if_pos h, if_neg hb]
    exact ⟨_, _, rfl, rfl⟩
theorem ord_fin {a b : Nat} (ha : a < 9218868437227405312) (hb : b < 9218868437227405312) : ord a b = some (compare a b) := by
  obtain ⟨m, e, h1, h2⟩ := read_fin ha
  obtain ⟨n, f, h3, h4⟩ := read_fin hb
  unfold ord Ieee.Format.order
  rw [h1, h3]
  unfold Ieee.Datum.order
  simp only [Option.some.injEq]
  rw [← val_cmp a b, ← h2, ← h4]
  unfold Ieee.signed
  simp only [Bool.false_eq_true, if_false, Nat.shiftLeft_eq]
  rcases Nat.le_total e f with hef | hef
  · obtain ⟨d, rfl⟩ : ∃ d, f = e + d := ⟨f - e, by omega⟩
    have em : min (-1074 + (e : Int)) (-1074 + ((e + d : Nat) : Int)) = -1074 + (e : Int) := by omega
    rw [em]
    have t1 : (-1074 + (e : Int) - (-1074 + (e : Int))).toNat = 0 := by omega
    have t2 : (-1074 + ((e + d : Nat) : Int) - (-1074 + (e : Int))).toNat = d := by omega
    rw [t1, t2, Nat.pow_add]
    have hp : 0 < 2 ^ e := Nat.two_pow_pos _
    generalize 2 ^ e = p at *
    generalize 2 ^ d = q at *
    have x1 : n * (p * q) = (n * q) * p := by rw [Nat.mul_comm p q, Nat.mul_assoc]
    rw [x1, Nat.pow_zero, Nat.mul_one]
    generalize n * q = y
    rcases Nat.lt_trichotomy m y with h | h | h
    · have := Nat.mul_lt_mul_of_pos_right h hp
      rw [Int.compare_eq_lt.2 (by omega), Int.compare_eq_lt.2 (by omega)]
    · subst h; simp
    · have := Nat.mul_lt_mul_of_pos_right h hp
      rw [Int.compare_eq_gt.2 (by omega), Int.compare_eq_gt.2 (by omega)]
  · obtain ⟨d, rfl⟩ : ∃ d, e = f + d := ⟨e - f, by omega⟩
    have em : min (-1074 + ((f + d : Nat) : Int)) (-1074 + (f : Int)) = -1074 + (f : Int) := by omega
    rw [em]
    have t1 : (-1074 + (f : Int) - (-1074 + (f : Int))).toNat = 0 := by omega
    have t2 : (-1074 + ((f + d : Nat) : Int) - (-1074 + (f : Int))).toNat = d := by omega
    rw [t1, t2, Nat.pow_add]
    have hp : 0 < 2 ^ f := Nat.two_pow_pos _
    generalize 2 ^ f = p at *
    generalize 2 ^ d = q at *
    have x1 : m * (p * q) = (m * q) * p := by rw [Nat.mul_comm p q, Nat.mul_assoc]
    rw [x1, Nat.pow_zero, Nat.mul_one]
    generalize m * q = y
    rcases Nat.lt_trichotomy y n with h | h | h
    · have := Nat.mul_lt_mul_of_pos_right h hp
      rw [Int.compare_eq_lt.2 (by omega), Int.compare_eq_lt.2 (by omega)]
    · subst h; simp
    · have := Nat.mul_lt_mul_of_pos_right h hp
      rw [Int.compare_eq_gt.2 (by omega), Int.compare_eq_gt.2 (by omega)]
/-- The bits of a whole number as a float. -/
def whole (n : Nat) : Nat := if n = 0 then 0 else if 52 < n.log2 then (1023 + n.log2) * 4503599627370496 else (1022 + n.log2) * 4503599627370496 + n * 2 ^ (52 - n.log2)
theorem nearest_whole (n : Nat) (h : n ≤ 9007199254740992) : FloatKind.f64.nearest (n : Int) = whole n := by
  have hs : FloatKind.f64.format = Ieee.double := rfl
  have e2 : Ieee.double.binade = 4503599627370496 := by decide
  have e3 : Ieee.double.infRung = 9218868437227405312 := by decide
  have e4 : Ieee.double.leastPlace = -1074 := by decide
  have e5 : Ieee.double.fractionBits = 52 := by decide
  unfold FloatKind.nearest FloatKind.encode
  rw [hs]
  unfold Ieee.Format.write Ieee.Format.nearest whole
  simp only [e2, e3, e4, e5, Int.natAbs_natCast]
  have hneg : decide ((n : Int) < 0) = false := decide_eq_false (by omega)
  rw [hneg]
  by_cases h0 : n = 0
  · rw [if_pos h0, if_pos h0]; rfl
  · rw [if_neg h0, if_neg h0]
    have hl1 : 2 ^ n.log2 ≤ n := Nat.log2_self_le h0
    have hl2 : n < 2 ^ (n.log2 + 1) := Nat.lt_log2_self
    have hl3 : n.log2 ≤ 53 := by
      have : ¬ 53 < n.log2 := fun hc => by
        have := Nat.pow_le_pow_right (n := 2) (by decide) (show 54 ≤ n.log2 by omega)
        have e : (2 : Nat) ^ 54 = 18014398509481984 := by decide
        omega
      omega
    unfold Ieee.Format.word
    simp only [Bool.false_eq_true, if_false]
    by_cases h52 : 52 < n.log2
    · rw [if_pos h52]
      have hL : n.log2 = 53 := by omega
      rw [hL] at hl1 ⊢
      have hn : n = 9007199254740992 := by have e : (2 : Nat) ^ 53 = 9007199254740992 := by decide
                                           omega
      subst hn
      decide
    · rw [if_neg h52]
      generalize n.log2 = L at *
      have em : max (0 + (L : Int) - (52 : Nat)) (-1074) = (L : Int) - 52 := by omega
      rw [em]
      have t1 : (0 - ((L : Int) - 52)).toNat = 52 - L := by omega
      have t2 : ((L : Int) - 52 - 0).toNat = 0 := by omega
      have t3 : ((L : Int) - 52 - -1074).toNat = 1022 + L := by omega
      rw [t1, t2, t3]
      unfold Ieee.Toward.cut
      simp only [Nat.zero_min, Nat.shiftLeft_zero, Nat.shiftLeft_eq, Nat.div_one, Nat.mod_one, Nat.mul_zero, Nat.pow_zero, Nat.mul_one, Nat.one_mul]
      have hm : n * 2 ^ (52 - L) < 9007199254740992 := by
        have : n * 2 ^ (52 - L) < 2 ^ (L + 1) * 2 ^ (52 - L) := Nat.mul_lt_mul_of_pos_right hl2 (Nat.two_pow_pos _)
        rw [← Nat.pow_add, show L + 1 + (52 - L) = 53 by omega] at this
        have e : (2 : Nat) ^ 53 = 9007199254740992 := by decide
        omega
      have hm2 : n * 2 ^ (52 - L) < 9007199254740992 := hm
      generalize n * 2 ^ (52 - L) = y at *
      have hd : (decide ((1 : Nat) < 0) || (1 == 0 && y % 2 == 1)) = false := by simp
      rw [hd]
      have hmin : min ((1022 + L) * 4503599627370496 + (y + false.toNat)) 9218868437227405312 = (1022 + L) * 4503599627370496 + y := by
        rw [Nat.min_def, if_pos (by show _ + (y + 0) ≤ _; omega)]; rfl
      exact hmin
theorem whole_lt (n : Nat) (h : n ≤ 9007199254740992) : whole n < 9218868437227405312 := by
  unfold whole
  by_cases h0 : n = 0
  · rw [if_pos h0]; decide
  · rw [if_neg h0]
    have hl2 : n < 2 ^ (n.log2 + 1) := Nat.lt_log2_self
    have hl1 : 2 ^ n.log2 ≤ n := Nat.log2_self_le h0
    have hl3 : n.log2 ≤ 53 := by
      have : ¬ 53 < n.log2 := fun hc => by
        have := Nat.pow_le_pow_right (n := 2) (by decide) (show 54 ≤ n.log2 by omega)
        have e : (2 : Nat) ^ 54 = 18014398509481984 := by decide
        omega
      omega
    split
    · omega
    · generalize n.log2 = L at *
      have : n * 2 ^ (52 - L) < 2 ^ (L + 1) * 2 ^ (52 - L) := Nat.mul_lt_mul_of_pos_right hl2 (Nat.two_pow_pos _)
      rw [← Nat.pow_add, show L + 1 + (52 - L) = 53 by omega] at this
      have e : (2 : Nat) ^ 53 = 9007199254740992 := by decide
      omega
/-- The reference's test. -/
def rF (n most : Nat) : Int := if 9218868437227405312 ≤ n % 9223372036854775808 ∨ n = 9223372036854775808 then 84 else if whole most < n % 9223372036854775808 then 83 else 0
theorem signed_zero (s : Bool) (m e : Nat) : (Ieee.signed s m e = 0) ↔ m = 0 := by
  unfold Ieee.signed
  rw [Nat.shiftLeft_eq]
  have hp : 0 < 2 ^ e := Nat.two_pow_pos _
  constructor
  · intro h
    have h2 : ((m * 2 ^ e : Nat) : Int) = 0 := by cases s <;> simp at h ⊢ <;> omega
    have h3 : m * 2 ^ e = 0 := by exact_mod_cast h2
    rcases Nat.mul_eq_zero.1 h3 with h | h
    · exact h
    · omega
  · rintro rfl; cases s <;> simp
theorem ord_num (s : Bool) (m e : Nat) : ((Ieee.Datum.number s m (-1074 + (e : Int))).order (.number false 0 (-1074)) == some Ordering.eq) = decide (m = 0) := by
  unfold Ieee.Datum.order
  have em : min (-1074 + (e : Int)) (-1074) = -1074 := by omega
  simp only [em]
  have t1 : (-1074 + (e : Int) - -1074).toNat = e := by omega
  have t2 : ((-1074 : Int) - -1074).toNat = 0 := by omega
  rw [t1, t2]
  have hz : Ieee.signed false 0 0 = 0 := by decide
  rw [hz]
  by_cases hm : m = 0
  · have := (signed_zero s m e).2 hm
    rw [this]; simp [hm]
  · have : Ieee.signed s m e ≠ 0 := fun h => hm ((signed_zero s m e).1 h)
    have h2 : compare (Ieee.signed s m e) 0 ≠ .eq := fun h => this (Int.compare_eq_eq.1 h)
    simp [hm, h2]
theorem ord_zero (s : Bool) (r : Nat) (h : r < 9218868437227405312) : ((if r < 4503599627370496 then Ieee.Datum.number s r (-1074) else if r < 9218868437227405312 then .number s (4503599627370496 + r % 4503599627370496) (-1074 + (r / 4503599627370496 - 1 : Nat)) else if r = 9218868437227405312 then .infinity s else .nan s (r - 9218868437227405312)).order (.number false 0 (-1074)) == some Ordering.eq) = decide (r = 0) := by
  by_cases hb : r < 4503599627370496
  · rw [if_pos hb]
    have := ord_num s r 0
    simpa using this
  · rw [if_neg hb, if_pos h, ord_num]
    have h1 : ¬ (4503599627370496 + r % 4503599627370496 = 0) := by omega
    have h2 : ¬ r = 0 := by omega
    simp [h1, h2]
theorem pF_eq (n most : Nat) (hn : n < 18446744073709551616) (hm : most ≤ 9007199254740992) : pF n most = rF n most := by
  have hs : FloatKind.f64.format = Ieee.double := rfl
  have e1 : Ieee.double.signWeight = 9223372036854775808 := by decide
  have e2 : Ieee.double.binade = 4503599627370496 := by decide
  have e3 : Ieee.double.infRung = 9218868437227405312 := by decide
  have e4 : Ieee.double.leastPlace = -1074 := by decide
  unfold pF rF
  obtain ⟨r, hr⟩ : ∃ r, n % 9223372036854775808 = r := ⟨_, rfl⟩
  have hr63 : r < 9223372036854775808 := by omega
  have rd : ∀ a, Ieee.double.read a = (if a % 9223372036854775808 < 4503599627370496 then .number (a / 9223372036854775808 % 2 == 1) (a % 9223372036854775808) (-1074) else if a % 9223372036854775808 < 9218868437227405312 then .number (a / 9223372036854775808 % 2 == 1) (4503599627370496 + a % 9223372036854775808 % 4503599627370496) (-1074 + (a % 9223372036854775808 / 4503599627370496 - 1 : Nat)) else if a % 9223372036854775808 = 9218868437227405312 then .infinity (a / 9223372036854775808 % 2 == 1) else .nan (a / 9223372036854775808 % 2 == 1) (a % 9223372036854775808 - 9218868437227405312)) := fun a => by
    unfold Ieee.Format.read; simp only [e1, e2, e3, e4]
  rw [hr]
  by_cases hbig : 9218868437227405312 ≤ r
  · rw [if_pos (show 9218868437227405312 ≤ r ∨ _ from .inl hbig), if_pos]
    by_cases heq : r = 9218868437227405312
    · have hz : ord r 9218868437227405311 = some .gt := by
        unfold ord Ieee.Format.order
        rw [hs, rd r, rd 9218868437227405311]
        subst heq
        decide
      rw [hz]; simp
    · have hz : ord n n = none := by
        unfold ord Ieee.Format.order
        rw [hs, rd n, hr, if_neg (by omega), if_neg (by omega), if_neg heq]
        rfl
      rw [hz]; simp
  · have hfin : r < 9218868437227405312 := by omega
    have hnn : ord n n = some .eq := by
      unfold ord Ieee.Format.order
      rw [hs, rd n, hr]
      split
      · simp [Ieee.Datum.order, Int.compare_eq_eq]
      · simp [Ieee.Datum.order, Int.compare_eq_eq, hfin]
    have hmx : ord r 9218868437227405311 = some (compare r 9218868437227405311) := ord_fin hfin (by decide)
    have hmx2 : (ord r 9218868437227405311 == some Ordering.gt) = false := by
      rw [hmx]
      rcases Nat.lt_or_ge r 9218868437227405311 with h | h
      · rw [Nat.compare_eq_lt.2 h]; rfl
      · rw [show r = 9218868437227405311 by omega, Nat.compare_eq_eq.2 rfl]; rfl
    have h0 : (ord n 0 == some Ordering.eq) = decide (r = 0) := by
      unfold ord Ieee.Format.order
      have z : Ieee.double.read 0 = .number false 0 (-1074) := by decide
      rw [hs, rd n, hr, z]
      exact ord_zero _ r hfin
    rw [hnn, hmx2, h0]
    have hw := ord_fin hfin (whole_lt most hm)
    rw [nearest_whole most hm, hw]
    by_cases hz : n = 9223372036854775808
    · rw [if_pos (show _ ∨ n = _ from .inr hz), if_pos]
      have : r = 0 := by omega
      simp [this, hz]
    · rw [if_neg (show ¬ (_ ∨ n = _) by omega), if_neg]
      · rcases Nat.lt_or_ge (whole most) r with h | h
        · rw [Nat.compare_eq_gt.2 h, if_pos h]; rfl
        · rw [if_neg (show ¬ whole most < r by omega)]
          rcases Nat.lt_or_ge r (whole most) with h2 | h2
          · rw [Nat.compare_eq_lt.2 h2]; rfl
          · rw [Nat.compare_eq_eq.2 (show r = whole most by omega)]; rfl
      · simp
        intro h1
        omega
end Go.Proofs.YtinngljphjdpoaaDoor.Fl
/- The reference: whole, Float. -/
namespace Go.Proofs.YtinngljphjdpoaaDoor.Rf
open Go Go.RowKit Go.Proofs.YtinngljphjdpoaaDoor.Pa Go.Proofs.YtinngljphjdpoaaDoor.Pb Go.Proofs.YtinngljphjdpoaaDoor.Vh Go.Proofs.YtinngljphjdpoaaDoor.Fl
set_option linter.unusedVariables false
set_option linter.unusedSimpArgs false
theorem log2_of {n p : Nat} (h0 : n ≠ 0) (h1 : 2 ^ p ≤ n) (h2 : n < 2 ^ (p + 1)) : n.log2 = p := by
  have a := Nat.log2_self_le h0
  have b : n < 2 ^ (n.log2 + 1) := Nat.lt_log2_self
  have c : p < n.log2 + 1 := (Nat.pow_lt_pow_iff_right (by decide : 1 < 2)).1 (Nat.lt_of_le_of_lt h1 b)
  have d : n.log2 < p + 1 := (Nat.pow_lt_pow_iff_right (by decide : 1 < 2)).1 (Nat.lt_of_le_of_lt a h2)
  omega
theorem shr_nat (n p : Nat) : ((n : Int) / 2 ^ p) = ((n / 2 ^ p : Nat) : Int) := by push_cast; rfl
end Go.Proofs.YtinngljphjdpoaaDoor.Rf
/- The reference: Text. -/
namespace Go.Proofs.YtinngljphjdpoaaDoor.Tx
open Go Go.RowKit Go.Proofs.YtinngljphjdpoaaDoor.Pa Go.Proofs.YtinngljphjdpoaaDoor.Pb Go.Proofs.YtinngljphjdpoaaDoor.Vh
set_option linter.unusedVariables false
set_option linter.unusedSimpArgs false
set_option maxRecDepth 100000
/-- The number so far. -/
def ac (t : List UInt8) (v : Nat) : Nat → Nat
  | 0 => v
  | j + 1 => ac t v j * 64 + ((t.getD (j + 1) 0).toNat - 128)
def cont (t : List UInt8) (j : Nat) : Prop := 128 ≤ (t.getD j 0).toNat ∧ (t.getD j 0).toNat < 192
theorem firstT_val (b : Nat) (h : 128 ≤ b) (h2 : b < 256) : Lib.firstT b = if b < 194 then 241 else if b < 224 then 2 else if b = 224 then 19 else if b < 237 then 3 else if b = 237 then 35 else if b < 240 then 3 else if b = 240 then 52 else if b < 244 then 4 else if b = 244 then 68 else 241 := by
  unfold Lib.firstT
  rw [if_neg (by omega)]
section
variable (t : List UInt8) (hne : t ≠ [])
include hne
theorem valid0 (h : (128 ≤ (t.getD 0 0).toNat ∧ (t.getD 0 0).toNat < 192) ∨ 248 ≤ (t.getD 0 0).toNat) : Lib.validD t = false := by
  have h8 := (t.getD 0 0).toNat_lt
  rw [Lib.validD_lead t hne (by omega)]
  have hf := firstT_val (t.getD 0 0).toNat (by omega) h8
  have : Lib.firstT (t.getD 0 0).toNat = 241 := by
    rw [hf]
    generalize (t.getD 0 0).toNat = b at *
    by_cases h1 : b < 194
    · rw [if_pos h1]
    · rw [if_neg h1, if_neg (by omega), if_neg (by omega), if_neg (by omega), if_neg (by omega), if_neg (by omega), if_neg (by omega), if_neg (by omega), if_neg (by omega)]
  rw [this]
  rfl
theorem valid2 (h : 192 ≤ (t.getD 0 0).toNat) (h2 : (t.getD 0 0).toNat < 224) : (((t.length < 2 ∨ ¬ cont t 1 ∨ ac t ((t.getD 0 0).toNat - 192) 1 < 128) → Lib.validD t = false) ∧ (¬ (t.length < 2 ∨ ¬ cont t 1 ∨ ac t ((t.getD 0 0).toNat - 192) 1 < 128) → Lib.validD t = Lib.validD (t.drop 2))) := by
  rw [Lib.validD_lead t hne (by omega)]
  have hf := firstT_val (t.getD 0 0).toNat (by omega) (by omega)
  unfold cont
  simp only [ac]
  generalize (t.getD 0 0).toNat = b0 at *
  generalize (t.getD 1 0).toNat = b1 at *
  generalize (t.getD 2 0).toNat = b2 at *
  generalize (t.getD 3 0).toNat = b3 at *
  by_cases h4 : b0 < 194
  · rw [if_pos h4] at hf
    rw [hf]
    exact ⟨fun _ => rfl, fun h => absurd (show _ from by omega) h⟩
  · rw [if_neg h4, if_pos h2] at hf
    rw [hf]
    have hk : Lib.checkN t.length b1 b2 b3 (2 % 8) (Lib.accLo (2 / 16)) (Lib.accHi (2 / 16)) = if t.length < 2 ∨ b1 < 128 ∨ 191 < b1 then none else some 2 := rfl
    rw [hk]
    by_cases hc : t.length < 2 ∨ b1 < 128 ∨ 191 < b1
    · rw [if_pos hc]; exact ⟨fun _ => rfl, fun h => absurd (show _ from by omega) h⟩
    · rw [if_neg hc]; exact ⟨fun h => absurd h (by omega), fun _ => rfl⟩
theorem valid3 (h : 224 ≤ (t.getD 0 0).toNat) (h2 : (t.getD 0 0).toNat < 240) : (((t.length < 3 ∨ ¬ cont t 1 ∨ ¬ cont t 2 ∨ ac t ((t.getD 0 0).toNat - 224) 2 < 2048 ∨ (55296 ≤ ac t ((t.getD 0 0).toNat - 224) 2 ∧ ac t ((t.getD 0 0).toNat - 224) 2 ≤ 57343)) → Lib.validD t = false) ∧ (¬ (t.length < 3 ∨ ¬ cont t 1 ∨ ¬ cont t 2 ∨ ac t ((t.getD 0 0).toNat - 224) 2 < 2048 ∨ (55296 ≤ ac t ((t.getD 0 0).toNat - 224) 2 ∧ ac t ((t.getD 0 0).toNat - 224) 2 ≤ 57343)) → Lib.validD t = Lib.validD (t.drop 3))) := by
  rw [Lib.validD_lead t hne (by omega)]
  have hf := firstT_val (t.getD 0 0).toNat (by omega) (by omega)
  unfold cont
  simp only [ac]
  generalize (t.getD 0 0).toNat = b0 at *
  generalize (t.getD 1 0).toNat = b1 at *
  generalize (t.getD 2 0).toNat = b2 at *
  generalize (t.getD 3 0).toNat = b3 at *
  rw [if_neg (by omega), if_neg (by omega)] at hf
  by_cases e1 : b0 = 224
  · rw [if_pos e1] at hf
    rw [hf]
    have hk : Lib.checkN t.length b1 b2 b3 (19 % 8) (Lib.accLo (19 / 16)) (Lib.accHi (19 / 16)) = if t.length < 3 ∨ b1 < 160 ∨ 191 < b1 ∨ b2 < 128 ∨ 191 < b2 then none else some 3 := rfl
    rw [hk]
    by_cases hc : t.length < 3 ∨ b1 < 160 ∨ 191 < b1 ∨ b2 < 128 ∨ 191 < b2
    · rw [if_pos hc]; exact ⟨fun _ => rfl, fun h => absurd (show _ from by omega) h⟩
    · rw [if_neg hc]; exact ⟨fun h => absurd h (by omega), fun _ => rfl⟩
  · rw [if_neg e1] at hf
    by_cases e2 : b0 = 237
    · rw [if_neg (by omega), if_pos e2] at hf
      rw [hf]
      have hk : Lib.checkN t.length b1 b2 b3 (35 % 8) (Lib.accLo (35 / 16)) (Lib.accHi (35 / 16)) = if t.length < 3 ∨ b1 < 128 ∨ 159 < b1 ∨ b2 < 128 ∨ 191 < b2 then none else some 3 := rfl
      rw [hk]
      by_cases hc : t.length < 3 ∨ b1 < 128 ∨ 159 < b1 ∨ b2 < 128 ∨ 191 < b2
      · rw [if_pos hc]; exact ⟨fun _ => rfl, fun h => absurd (show _ from by omega) h⟩
      · rw [if_neg hc]; exact ⟨fun h => absurd h (by omega), fun _ => rfl⟩
    · have hf3 : Lib.firstT b0 = 3 := by
        rw [hf]
        by_cases h1 : b0 < 237
        · rw [if_pos h1]
        · rw [if_neg h1, if_neg e2, if_pos h2]
      rw [hf3]
      have hk : Lib.checkN t.length b1 b2 b3 (3 % 8) (Lib.accLo (3 / 16)) (Lib.accHi (3 / 16)) = if t.length < 3 ∨ b1 < 128 ∨ 191 < b1 ∨ b2 < 128 ∨ 191 < b2 then none else some 3 := rfl
      rw [hk]
      by_cases hc : t.length < 3 ∨ b1 < 128 ∨ 191 < b1 ∨ b2 < 128 ∨ 191 < b2
      · rw [if_pos hc]; exact ⟨fun _ => rfl, fun h => absurd (show _ from by omega) h⟩
      · rw [if_neg hc]; exact ⟨fun h => absurd h (by omega), fun _ => rfl⟩
theorem valid4 (h : 240 ≤ (t.getD 0 0).toNat) (h2 : (t.getD 0 0).toNat < 248) : (((t.length < 4 ∨ ¬ cont t 1 ∨ ¬ cont t 2 ∨ ¬ cont t 3 ∨ ac t ((t.getD 0 0).toNat - 240) 3 < 65536 ∨ 1114111 < ac t ((t.getD 0 0).toNat - 240) 3) → Lib.validD t = false) ∧ (¬ (t.length < 4 ∨ ¬ cont t 1 ∨ ¬ cont t 2 ∨ ¬ cont t 3 ∨ ac t ((t.getD 0 0).toNat - 240) 3 < 65536 ∨ 1114111 < ac t ((t.getD 0 0).toNat - 240) 3) → Lib.validD t = Lib.validD (t.drop 4))) := by
  rw [Lib.validD_lead t hne (by omega)]
  have hf := firstT_val (t.getD 0 0).toNat (by omega) (by omega)
  unfold cont
  simp only [ac]
  generalize (t.getD 0 0).toNat = b0 at *
  generalize (t.getD 1 0).toNat = b1 at *
  generalize (t.getD 2 0).toNat = b2 at *
  generalize (t.getD 3 0).toNat = b3 at *
  rw [if_neg (by omega), if_neg (by omega), if_neg (by omega), if_neg (by omega), if_neg (by omega), if_neg (by omega)] at hf
  by_cases e1 : b0 = 240
  · rw [if_pos e1] at hf
    rw [hf]
    have hk : Lib.checkN t.length b1 b2 b3 (52 % 8) (Lib.accLo (52 / 16)) (Lib.accHi (52 / 16)) = if t.length < 4 ∨ b1 < 144 ∨ 191 < b1 ∨ b2 < 128 ∨ 191 < b2 ∨ b3 < 128 ∨ 191 < b3 then none else some 4 := rfl
    rw [hk]
    by_cases hc : t.length < 4 ∨ b1 < 144 ∨ 191 < b1 ∨ b2 < 128 ∨ 191 < b2 ∨ b3 < 128 ∨ 191 < b3
    · rw [if_pos hc]; exact ⟨fun _ => rfl, fun h => absurd (show _ from by omega) h⟩
    · rw [if_neg hc]; exact ⟨fun h => absurd h (by omega), fun _ => rfl⟩
  · rw [if_neg e1] at hf
    by_cases e2 : b0 < 244
    · rw [if_pos e2] at hf
      rw [hf]
      have hk : Lib.checkN t.length b1 b2 b3 (4 % 8) (Lib.accLo (4 / 16)) (Lib.accHi (4 / 16)) = if t.length < 4 ∨ b1 < 128 ∨ 191 < b1 ∨ b2 < 128 ∨ 191 < b2 ∨ b3 < 128 ∨ 191 < b3 then none else some 4 := rfl
      rw [hk]
      by_cases hc : t.length < 4 ∨ b1 < 128 ∨ 191 < b1 ∨ b2 < 128 ∨ 191 < b2 ∨ b3 < 128 ∨ 191 < b3
      · rw [if_pos hc]; exact ⟨fun _ => rfl, fun h => absurd (show _ from by omega) h⟩
      · rw [if_neg hc]; exact ⟨fun h => absurd h (by omega), fun _ => rfl⟩
    · rw [if_neg e2] at hf
      by_cases e3 : b0 = 244
      · rw [if_pos e3] at hf
        rw [hf]
        have hk : Lib.checkN t.length b1 b2 b3 (68 % 8) (Lib.accLo (68 / 16)) (Lib.accHi (68 / 16)) = if t.length < 4 ∨ b1 < 128 ∨ 143 < b1 ∨ b2 < 128 ∨ 191 < b2 ∨ b3 < 128 ∨ 191 < b3 then none else some 4 := rfl
        rw [hk]
        by_cases hc : t.length < 4 ∨ b1 < 128 ∨ 143 < b1 ∨ b2 < 128 ∨ 191 < b2 ∨ b3 < 128 ∨ 191 < b3
        · rw [if_pos hc]; exact ⟨fun _ => rfl, fun h => absurd (show _ from by omega) h⟩
        · rw [if_neg hc]; exact ⟨fun h => absurd h (by omega), fun _ => rfl⟩
      · rw [if_neg e3] at hf
        rw [hf]
        exact ⟨fun _ => rfl, fun h => absurd (show _ from by omega) h⟩
end
theorem ac_lt (t : List UInt8) (v : Nat) (hv : v < 64) : ∀ j, (∀ i, 1 ≤ i → i ≤ j → cont t i) → ac t v j < 64 ^ (j + 1)
  | 0, _ => by simpa [ac] using hv
  | j + 1, h => by
    have ih := ac_lt t v hv j (fun i h1 h2 => h i h1 (by omega))
    have hc := h (j + 1) (by omega) (Nat.le_refl _)
    unfold cont at hc
    rw [ac, Nat.pow_succ]
    have : ac t v j + 1 ≤ 64 ^ (j + 1) := ih
    omega
theorem drop_getD (l : List UInt8) (i j : Nat) : (l.drop i).getD j 0 = l.getD (i + j) 0 := by simp [List.getD, List.getElem?_drop]
theorem cell_at {w : World} {A : Option Addr} {n c : Nat} {l : List UInt8} (h : Rd w (.slice A n c) l) (j : Nat) (hj : j < n) : ∃ ad, A = some ad ∧ w.cell? (ad.add j) = some (.int .u8 ((l.getD j 0).toNat : Int)) := by
  have hl := h.len.1
  obtain ⟨ad, e, hc⟩ := h.at_ j (by omega)
  refine ⟨ad, e, hc.trans ?_⟩
  have : l.getD j 0 = l[j]'(by omega) := by rw [List.getD, List.getElem?_eq_getElem (by omega)]; rfl
  rw [this]
-- @GEN
end Go.Proofs.YtinngljphjdpoaaDoor.Tx
