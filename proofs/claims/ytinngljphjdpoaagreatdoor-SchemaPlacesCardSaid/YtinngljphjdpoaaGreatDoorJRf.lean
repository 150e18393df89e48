/- Floats: the program's test of a float's bits by the order of its bits. No program is walked here. -/
import Derived.Test.YtinngljphjdpoaaGreatDoorJUw
namespace Go.Proofs.YtinngljphjdpoaaGreatDoor.Fl
open Go Go.RowKit Go.Proofs.YtinngljphjdpoaaGreatDoor.Vh
set_option linter.unusedVariables false
set_option linter.unusedSimpArgs false
/-- What a rung stands for, in units of the least place. -/
def val (a : Nat) : Nat := if a < 4503599627370496 then a else (4503599627370496 + a % 4503599627370496) * 2 ^ (a / 4503599627370496 - 1)
theorem val_lt {a b : Nat} (h : a < b) : val a < val b := by
  unfold val
  by_cases hb : b < 4503599627370496
  · rw [if_pos (by omega), if_pos hb]; exact h
  · rw [if_neg hb]
    by_cases ha : a < 4503599627370496
    · rw [if_pos ha]
      have : 1 ≤ 2 ^ (b / 4503599627370496 - 1) := Nat.one_le_two_pow
      have := Nat.mul_le_mul_left (4503599627370496 + b % 4503599627370496) this
      omega
    · rw [if_neg ha]
      by_cases hq : a / 4503599627370496 = b / 4503599627370496
      · rw [hq]
        exact Nat.mul_lt_mul_of_pos_right (by omega) (Nat.two_pow_pos _)
      · have hlt : a / 4503599627370496 < b / 4503599627370496 := by omega
        obtain ⟨d, hd⟩ : ∃ d, b / 4503599627370496 - 1 = (a / 4503599627370496 - 1) + 1 + d := ⟨b / 4503599627370496 - 1 - (a / 4503599627370496 - 1) - 1, by omega⟩
        rw [hd, Nat.pow_add, Nat.pow_add]
        have h1 : 1 ≤ 2 ^ d := Nat.one_le_two_pow
        have h2 : 0 < 2 ^ (a / 4503599627370496 - 1) := Nat.two_pow_pos _
        generalize 2 ^ (a / 4503599627370496 - 1) = p at *
        generalize 2 ^ d = e at *
        have h3 : a % 4503599627370496 < 4503599627370496 := Nat.mod_lt _ (by decide)
        generalize a % 4503599627370496 = r at *
        generalize b % 4503599627370496 = s at *
        have h4 : (4503599627370496 + r) * p < 9007199254740992 * p := Nat.mul_lt_mul_of_pos_right (by omega) h2
        have h5 : 9007199254740992 * p ≤ (4503599627370496 + s) * (p * 2 ^ 1 * e) := by
          have : 4503599627370496 * (p * 2 ^ 1 * 1) ≤ (4503599627370496 + s) * (p * 2 ^ 1 * e) := Nat.mul_le_mul (by omega) (Nat.mul_le_mul (Nat.le_refl _) h1)
          omega
        omega
theorem val_cmp (a b : Nat) : compare (val a : Int) (val b : Int) = compare a b := by
  rcases Nat.lt_trichotomy a b with h | h | h
  · have := val_lt h
    rw [Nat.compare_eq_lt.2 h]
    exact Int.compare_eq_lt.2 (by omega)
  · subst h; simp
  · have := val_lt h
    rw [Nat.compare_eq_gt.2 h]
    exact Int.compare_eq_gt.2 (by omega)
/-- A finite word of the positive ones. -/
theorem read_fin {a : Nat} (h : a < 9218868437227405312) : ∃ m e : Nat, FloatKind.f64.format.read a = .number false m (-1074 + (e : Int)) ∧ m * 2 ^ e = val a := by
  have hs : FloatKind.f64.format = Ieee.double := rfl
  rw [hs]
  unfold Ieee.Format.read val
  have e1 : Ieee.double.signWeight = 9223372036854775808 := by decide
  have e2 : Ieee.double.binade = 4503599627370496 := by decide
  have e3 : Ieee.double.infRung = 9218868437227405312 := by decide
  have e4 : Ieee.double.leastPlace = -1074 := by decide
  simp only [e1, e2, e3, e4]
  have h1 : a / 9223372036854775808 = 0 := by omega
  have h2 : a % 9223372036854775808 = a := Nat.mod_eq_of_lt (by omega)
  rw [h1, h2]
  by_cases hb : a < 4503599627370496
  · rw [if_pos hb, if_pos hb]; exact ⟨a, 0, rfl, by simp⟩
  · rw [if_neg hb, if_pos h, if_neg hb]
    exact ⟨_, _, rfl, rfl⟩
theorem ord_fin {a b : Nat} (ha : a < 9218868437227405312) (hb : b < 9218868437227405312) : ord a b = some (compare a b) := by
  obtain ⟨m, e, h1, h2⟩ := read_fin ha
  obtain ⟨n, f, h3, h4⟩ := read_fin hb
  unfold ord Ieee.Format.order
  rw [h1, h3]
  unfold Ieee.Datum.order
  simp only [Option.some.injEq]
  rw [← val_cmp a b, ← h2, ← h4]
  unfold Ieee.signed
  simp only [Bool.false_eq_true, if_false, Nat.shiftLeft_eq]
  rcases Nat.le_total e f with hef | hef
  · obtain ⟨d, rfl⟩ : ∃ d, f = e + d := ⟨f - e, by omega⟩
    have em : min (-1074 + (e : Int)) (-1074 + ((e + d : Nat) : Int)) = -1074 + (e : Int) := by omega
    rw [em]
    have t1 : (-1074 + (e : Int) - (-1074 + (e : Int))).toNat = 0 := by omega
    have t2 : (-1074 + ((e + d : Nat) : Int) - (-1074 + (e : Int))).toNat = d := by omega
    rw [t1, t2, Nat.pow_add]
    have hp : 0 < 2 ^ e := Nat.two_pow_pos _
    generalize 2 ^ e = p at *
    generalize 2 ^ d = q at *
    have x1 : n * (p * q) = (n * q) * p := by rw [Nat.mul_comm p q, Nat.mul_assoc]
    rw [x1, Nat.pow_zero, Nat.mul_one]
    generalize n * q = y
    rcases Nat.lt_trichotomy m y with h | h | h
    · have := Nat.mul_lt_mul_of_pos_right h hp
      rw [Int.compare_eq_lt.2 (by omega), Int.compare_eq_lt.2 (by omega)]
    · subst h; simp
    · have := Nat.mul_lt_mul_of_pos_right h hp
      rw [Int.compare_eq_gt.2 (by omega), Int.compare_eq_gt.2 (by omega)]
  · obtain ⟨d, rfl⟩ : ∃ d, e = f + d := ⟨e - f, by omega⟩
    have em : min (-1074 + ((f + d : Nat) : Int)) (-1074 + (f : Int)) = -1074 + (f : Int) := by omega
    rw [em]
    have t1 : (-1074 + (f : Int) - (-1074 + (f : Int))).toNat = 0 := by omega
    have t2 : (-1074 + ((f + d : Nat) : Int) - (-1074 + (f : Int))).toNat = d := by omega
    rw [t1, t2, Nat.pow_add]
    have hp : 0 < 2 ^ f := Nat.two_pow_pos _
    generalize 2 ^ f = p at *
    generalize 2 ^ d = q at *
    have x1 : m * (p * q) = (m * q) * p := by rw [Nat.mul_comm p q, Nat.mul_assoc]
    rw [x1, Nat.pow_zero, Nat.mul_one]
    generalize m * q = y
    rcases Nat.lt_trichotomy y n with h | h | h
    · have := Nat.mul_lt_mul_of_pos_right h hp
      rw [Int.compare_eq_lt.2 (by omega), Int.compare_eq_lt.2 (by omega)]
    · subst h; simp
    · have := Nat.mul_lt_mul_of_pos_right h hp
      rw [Int.compare_eq_gt.2 (by omega), Int.compare_eq_gt.2 (by omega)]
/-- The bits of a whole number as a float. -/
def whole (n : Nat) : Nat := if n = 0 then 0 else if 52 < n.log2 then (1023 + n.log2) * 4503599627370496 else (1022 + n.log2) * 4503599627370496 + n * 2 ^ (52 - n.log2)
theorem nearest_whole (n : Nat) (h : n ≤ 9007199254740992) : FloatKind.f64.nearest (n : Int) = whole n := by
  have hs : FloatKind.f64.format = Ieee.double := rfl
  have e2 : Ieee.double.binade = 4503599627370496 := by decide
  have e3 : Ieee.double.infRung = 9218868437227405312 := by decide
  have e4 : Ieee.double.leastPlace = -1074 := by decide
  have e5 : Ieee.double.fractionBits = 52 := by decide
  unfold FloatKind.nearest FloatKind.encode
  rw [hs]
  unfold Ieee.Format.write Ieee.Format.nearest whole
  simp only [e2, e3, e4, e5, Int.natAbs_natCast]
  have hneg : decide ((n : Int) < 0) = false := decide_eq_false (by omega)
  rw [hneg]
  by_cases h0 : n = 0
  · rw [if_pos h0, if_pos h0]; rfl
  · rw [if_neg h0, if_neg h0]
    have hl1 : 2 ^ n.log2 ≤ n := Nat.log2_self_le h0
    have hl2 : n < 2 ^ (n.log2 + 1) := Nat.lt_log2_self
    have hl3 : n.log2 ≤ 53 := by
      have : ¬ 53 < n.log2 := fun hc => by
        have := Nat.pow_le_pow_right (n := 2) (by decide) (show 54 ≤ n.log2 by omega)
        have e : (2 : Nat) ^ 54 = 18014398509481984 := by decide
        omega
      omega
    unfold Ieee.Format.word
    simp only [Bool.false_eq_true, if_false]
    by_cases h52 : 52 < n.log2
    · rw [if_pos h52]
      have hL : n.log2 = 53 := by omega
      rw [hL] at hl1 ⊢
      have hn : n = 9007199254740992 := by have e : (2 : Nat) ^ 53 = 9007199254740992 := by decide
                                           omega
      subst hn
      decide
    · rw [if_neg h52]
      generalize n.log2 = L at *
      have em : max (0 + (L : Int) - (52 : Nat)) (-1074) = (L : Int) - 52 := by omega
      rw [em]
      have t1 : (0 - ((L : Int) - 52)).toNat = 52 - L := by omega
      have t2 : ((L : Int) - 52 - 0).toNat = 0 := by omega
      have t3 : ((L : Int) - 52 - -1074).toNat = 1022 + L := by omega
      rw [t1, t2, t3]
      unfold Ieee.Toward.cut
      simp only [Nat.zero_min, Nat.shiftLeft_zero, Nat.shiftLeft_eq, Nat.div_one, Nat.mod_one, Nat.mul_zero, Nat.pow_zero, Nat.mul_one, Nat.one_mul]
      have hm : n * 2 ^ (52 - L) < 9007199254740992 := by
        have : n * 2 ^ (52 - L) < 2 ^ (L + 1) * 2 ^ (52 - L) := Nat.mul_lt_mul_of_pos_right hl2 (Nat.two_pow_pos _)
        rw [← Nat.pow_add, show L + 1 + (52 - L) = 53 by omega] at this
        have e : (2 : Nat) ^ 53 = 9007199254740992 := by decide
        omega
      have hm2 : n * 2 ^ (52 - L) < 9007199254740992 := hm
      generalize n * 2 ^ (52 - L) = y at *
      have hd : (decide ((1 : Nat) < 0) || (1 == 0 && y % 2 == 1)) = false := by simp
      rw [hd]
      have hmin : min ((1022 + L) * 4503599627370496 + (y + false.toNat)) 9218868437227405312 = (1022 + L) * 4503599627370496 + y := by
        rw [Nat.min_def, if_pos (by show _ + (y + 0) ≤ _; omega)]; rfl
      exact hmin
theorem whole_lt (n : Nat) (h : n ≤ 9007199254740992) : whole n < 9218868437227405312 := by
  unfold whole
  by_cases h0 : n = 0
  · rw [if_pos h0]; decide
  · rw [if_neg h0]
    have hl2 : n < 2 ^ (n.log2 + 1) := Nat.lt_log2_self
    have hl1 : 2 ^ n.log2 ≤ n := Nat.log2_self_le h0
    have hl3 : n.log2 ≤ 53 := by
      have : ¬ 53 < n.log2 := fun hc => by
        have := Nat.pow_le_pow_right (n := 2) (by decide) (show 54 ≤ n.log2 by omega)
        have e : (2 : Nat) ^ 54 = 18014398509481984 := by decide
        omega
      omega
    split
    · omega
    · generalize n.log2 = L at *
      have : n * 2 ^ (52 - L) < 2 ^ (L + 1) * 2 ^ (52 - L) := Nat.mul_lt_mul_of_pos_right hl2 (Nat.two_pow_pos _)
      rw [← Nat.pow_add, show L + 1 + (52 - L) = 53 by omega] at this
      have e : (2 : Nat) ^ 53 = 9007199254740992 := by decide
      omega
/-- The reference's test. -/
def rF (n most : Nat) : Int := if 9218868437227405312 ≤ n % 9223372036854775808 ∨ n = 9223372036854775808 then 84 else if whole most < n % 9223372036854775808 then 83 else 0
theorem signed_zero (s : Bool) (m e : Nat) : (Ieee.signed s m e = 0) ↔ m = 0 := by
  unfold Ieee.signed
  rw [Nat.shiftLeft_eq]
  have hp : 0 < 2 ^ e := Nat.two_pow_pos _
  constructor
  · intro h
    have h2 : ((m * 2 ^ e : Nat) : Int) = 0 := by cases s <;> simp at h ⊢ <;> omega
    have h3 : m * 2 ^ e = 0 := by exact_mod_cast h2
    rcases Nat.mul_eq_zero.1 h3 with h | h
    · exact h
    · omega
  · rintro rfl; cases s <;> simp
theorem ord_num (s : Bool) (m e : Nat) : ((Ieee.Datum.number s m (-1074 + (e : Int))).order (.number false 0 (-1074)) == some Ordering.eq) = decide (m = 0) := by
  unfold Ieee.Datum.order
  have em : min (-1074 + (e : Int)) (-1074) = -1074 := by omega
  simp only [em]
  have t1 : (-1074 + (e : Int) - -1074).toNat = e := by omega
  have t2 : ((-1074 : Int) - -1074).toNat = 0 := by omega
  rw [t1, t2]
  have hz : Ieee.signed false 0 0 = 0 := by decide
  rw [hz]
  by_cases hm : m = 0
  · have := (signed_zero s m e).2 hm
    rw [this]; simp [hm]
  · have : Ieee.signed s m e ≠ 0 := fun h => hm ((signed_zero s m e).1 h)
    have h2 : compare (Ieee.signed s m e) 0 ≠ .eq := fun h => this (Int.compare_eq_eq.1 h)
    simp [hm, h2]
theorem ord_zero (s : Bool) (r : Nat) (h : r < 9218868437227405312) : ((if r < 4503599627370496 then Ieee.Datum.number s r (-1074) else if r < 9218868437227405312 then .number s (4503599627370496 + r % 4503599627370496) (-1074 + (r / 4503599627370496 - 1 : Nat)) else if r = 9218868437227405312 then .infinity s else .nan s (r - 9218868437227405312)).order (.number false 0 (-1074)) == some Ordering.eq) = decide (r = 0) := by
  by_cases hb : r < 4503599627370496
  · rw [if_pos hb]
    have := ord_num s r 0
    simpa using this
  · rw [if_neg hb, if_pos h, ord_num]
    have h1 : ¬ (4503599627370496 + r % 4503599627370496 = 0) := by omega
    have h2 : ¬ r = 0 := by omega
    simp [h1, h2]
theorem pF_eq (n most : Nat) (hn : n < 18446744073709551616) (hm : most ≤ 9007199254740992) : pF n most = rF n most := by
  have hs : FloatKind.f64.format = Ieee.double := rfl
  have e1 : Ieee.double.signWeight = 9223372036854775808 := by decide
  have e2 : Ieee.double.binade = 4503599627370496 := by decide
  have e3 : Ieee.double.infRung = 9218868437227405312 := by decide
  have e4 : Ieee.double.leastPlace = -1074 := by decide
  unfold pF rF
  obtain ⟨r, hr⟩ : ∃ r, n % 9223372036854775808 = r := ⟨_, rfl⟩
  have hr63 : r < 9223372036854775808 := by omega
  have rd : ∀ a, Ieee.double.read a = (if a % 9223372036854775808 < 4503599627370496 then .number (a / 9223372036854775808 % 2 == 1) (a % 9223372036854775808) (-1074) else if a % 9223372036854775808 < 9218868437227405312 then .number (a / 9223372036854775808 % 2 == 1) (4503599627370496 + a % 9223372036854775808 % 4503599627370496) (-1074 + (a % 9223372036854775808 / 4503599627370496 - 1 : Nat)) else if a % 9223372036854775808 = 9218868437227405312 then .infinity (a / 9223372036854775808 % 2 == 1) else .nan (a / 9223372036854775808 % 2 == 1) (a % 9223372036854775808 - 9218868437227405312)) := fun a => by
    unfold Ieee.Format.read; simp only [e1, e2, e3, e4]
  rw [hr]
  by_cases hbig : 9218868437227405312 ≤ r
  · rw [if_pos (show 9218868437227405312 ≤ r ∨ _ from .inl hbig), if_pos]
    by_cases heq : r = 9218868437227405312
    · have hz : ord r 9218868437227405311 = some .gt := by
        unfold ord Ieee.Format.order
        rw [hs, rd r, rd 9218868437227405311]
        subst heq
        decide
      rw [hz]; simp
    · have hz : ord n n = none := by
        unfold ord Ieee.Format.order
        rw [hs, rd n, hr, if_neg (by omega), if_neg (by omega), if_neg heq]
        rfl
      rw [hz]; simp
  · have hfin : r < 9218868437227405312 := by omega
    have hnn : ord n n = some .eq := by
      unfold ord Ieee.Format.order
      rw [hs, rd n, hr]
      split
      · simp [Ieee.Datum.order, Int.compare_eq_eq]
      · simp [Ieee.Datum.order, Int.compare_eq_eq, hfin]
    have hmx : ord r 9218868437227405311 = some (compare r 9218868437227405311) := ord_fin hfin (by decide)
    have hmx2 : (ord r 9218868437227405311 == some Ordering.gt) = false := by
      rw [hmx]
      rcases Nat.lt_or_ge r 9218868437227405311 with h | h
      · rw [Nat.compare_eq_lt.2 h]; rfl
      · rw [show r = 9218868437227405311 by omega, Nat.compare_eq_eq.2 rfl]; rfl
    have h0 : (ord n 0 == some Ordering.eq) = decide (r = 0) := by
      unfold ord Ieee.Format.order
      have z : Ieee.double.read 0 = .number false 0 (-1074) := by decide
      rw [hs, rd n, hr, z]
      exact ord_zero _ r hfin
    rw [hnn, hmx2, h0]
    have hw := ord_fin hfin (whole_lt most hm)
    rw [nearest_whole most hm, hw]
    by_cases hz : n = 9223372036854775808
    · rw [if_pos (show _ ∨ n = _ from .inr hz), if_pos]
      have : r = 0 := by omega
      simp [this, hz]
    · rw [if_neg (show ¬ (_ ∨ n = _) by omega), if_neg]
      · rcases Nat.lt_or_ge (whole most) r with h | h
        · rw [Nat.compare_eq_gt.2 h, if_pos h]; rfl
        · rw [if_neg (show ¬ whole most < r by omega)]
          rcases Nat.lt_or_ge r (whole most) with h2 | h2
          · rw [Nat.compare_eq_lt.2 h2]; rfl
          · rw [Nat.compare_eq_eq.2 (show r = whole most by omega)]; rfl
      · simp
        intro h1
        omega
end Go.Proofs.YtinngljphjdpoaaGreatDoor.Fl
/- The reference: whole, Float. -/
namespace Go.Proofs.YtinngljphjdpoaaGreatDoor.Rf
open Go Go.RowKit Go.Proofs.YtinngljphjdpoaaGreatDoor.Pa Go.Proofs.YtinngljphjdpoaaGreatDoor.Pb Go.Proofs.YtinngljphjdpoaaGreatDoor.Vh Go.Proofs.YtinngljphjdpoaaGreatDoor.Fl
set_option linter.unusedVariables false
set_option linter.unusedSimpArgs false
theorem log2_of {n p : Nat} (h0 : n ≠ 0) (h1 : 2 ^ p ≤ n) (h2 : n < 2 ^ (p + 1)) : n.log2 = p := by
  have a := Nat.log2_self_le h0
  have b : n < 2 ^ (n.log2 + 1) := Nat.lt_log2_self
  have c : p < n.log2 + 1 := (Nat.pow_lt_pow_iff_right (by decide : 1 < 2)).1 (Nat.lt_of_le_of_lt h1 b)
  have d : n.log2 < p + 1 := (Nat.pow_lt_pow_iff_right (by decide : 1 < 2)).1 (Nat.lt_of_le_of_lt a h2)
  omega
theorem shr_nat (n p : Nat) : ((n : Int) / 2 ^ p) = ((n / 2 ^ p : Nat) : Int) := by push_cast; rfl
set_option maxHeartbeats 1000000 in
set_option maxRecDepth 100000 in
theorem rwhole (n : Nat) (hn : n ≤ 9007199254740992) (w : World) : Calls Tryz.prog 152 #[.int .u64 (n : Int)] w fun e w' => e = .returned (.int .u64 (whole n : Int)) ∧ w' = w := by
  obtain ⟨R, hR⟩ : ∃ R, R = whole n := ⟨_, rfl⟩
  rw [← hR]
  unfold whole at hR
  have HR := Lib.hid hR; clear hR
  by_cases h0 : n = 0
  · subst h0
    have hr : R = 0 := HR.out
    subst hr
    go_enter Tryz.func152, Tryz.ntmps152
    go_wp2
    go_ret
    exact ⟨rfl, rfl⟩
  · have h0z : ¬ (n : Int) = 0 := by omega
    have h0b : ((n : Int) == 0) = false := by simp; omega
    have hr := HR.out
    rw [if_neg h0] at hr
    have HR2 := Lib.hid hr
    clear HR hr
    go_enter Tryz.func152, Tryz.ntmps152
    go_wp2_with fail
    go_loopw [3] (fun s wr => ∃ p : Nat, p ≤ 53 ∧ 2 ^ p ≤ n ∧ s = .int .u64 p ∧ wr = w) (fun s _ => 100 - (intOf s).toNat)
    case atStart => exact ⟨0, by omega, by rw [Nat.pow_zero]; omega, rfl, rfl⟩
    case round =>
      obtain ⟨p, hp, hpn, rfl, rfl⟩ := hrel
      have hpp : 0 < 2 ^ p := Nat.two_pow_pos _
      have hdv : (n : Int) / 2 ^ p = ((n / 2 ^ p : Nat) : Int) := by push_cast; rfl
      by_cases hc : 1 < n / 2 ^ p
      · have hcz : (1 : Int) < (n : Int) / 2 ^ p := by rw [hdv]; exact_mod_cast hc
        have h2 : 2 ^ (p + 1) ≤ n := by
          have := (Nat.le_div_iff_mul_le hpp).1 hc
          rw [Nat.pow_succ]; omega
        have h3 : p + 1 ≤ 53 := by
          have : ¬ 53 < p + 1 := fun hx => by
            have := Nat.pow_le_pow_right (n := 2) (by decide) (show 54 ≤ p + 1 by omega)
            have e : (2 : Nat) ^ 54 = 18014398509481984 := by decide
            omega
          omega
        have H2 := Lib.hid h2
        clear hdv hc h2 hpn hpp
        go_wp2_with fail
        go_roundw
        case rel => exact ⟨p + 1, h3, H2.out, by go_num, by first | rfl | trivial⟩
        case measure => simp [intOf]; omega
      · have hcz : ¬ (1 : Int) < (n : Int) / 2 ^ p := by rw [hdv]; exact_mod_cast hc
        have hlg : n.log2 = p := log2_of h0 hpn (by
          have h3 : ¬ 2 ≤ n / 2 ^ p := by omega
          rw [Nat.le_div_iff_mul_le hpp] at h3
          rw [Nat.pow_succ]; omega)
        have hr2 := HR2.out
        rw [hlg] at hr2
        have HR3 := Lib.hid hr2
        have hsmall : p ≤ 52 → n * 2 ^ (52 - p) < 9007199254740992 := fun h => by
          have hl2 : n < 2 ^ (p + 1) := by rw [← hlg]; exact Nat.lt_log2_self
          have : n * 2 ^ (52 - p) < 2 ^ (p + 1) * 2 ^ (52 - p) := Nat.mul_lt_mul_of_pos_right hl2 (Nat.two_pow_pos _)
          rw [← Nat.pow_add, show p + 1 + (52 - p) = 53 by omega] at this
          have e : (2 : Nat) ^ 53 = 9007199254740992 := by decide
          omega
        have hbig : p ≤ 52 → 4503599627370496 ≤ n * 2 ^ (52 - p) := fun h => by
          have : 2 ^ p * 2 ^ (52 - p) ≤ n * 2 ^ (52 - p) := Nat.mul_le_mul_right _ hpn
          rw [← Nat.pow_add, show p + (52 - p) = 52 by omega] at this
          have e : (2 : Nat) ^ 52 = 4503599627370496 := by decide
          omega
        have HS := Lib.hid hsmall; have HBG := Lib.hid hbig
        clear hlg hr2 hsmall hbig hpn hpp hdv hc
        by_cases h52 : 52 < p
        · obtain rfl : p = 53 := by omega
          have hr53 : R = 4845873199050653696 := by rw [HR3.out, if_pos (by decide)]
          subst hr53
          clear HR3 HS HBG h52
          go_wp2_with fail
          go_ret
          exact ⟨rfl, rfl⟩
        · have h52z : ¬ (52 : Int) < (p : Int) := by omega
          have em : (n : Int) * 2 ^ (52 - p) = ((n * 2 ^ (52 - p) : Nat) : Int) := by push_cast; rfl
          have HEM := Lib.hid em; clear em
          go_wp2_with fail
          go_ret
          refine ⟨?_, rfl⟩
          rw [HR3.out, if_neg h52]
          have hs := HS.out (by omega)
          have hb := HBG.out (by omega)
          generalize n * 2 ^ (52 - p) = y at *
          have e1 : (n : Int) * 2 ^ (52 - p) = (y : Int) := HEM.out
          show Ending.returned (Value.int .u64 _) = _
          congr 2
          simp only [IntKind.wrap_u64] at *
          rw [e1]
          omega
set_option maxHeartbeats 1000000 in
set_option maxRecDepth 100000 in
theorem rFloat (n most : Nat) (hn : n < 18446744073709551616) (hm : most ≤ 9007199254740992) (w : World) : Calls Tryz.prog 135 #[.int .u64 (n : Int), .int .u64 (most : Int)] w fun e w' => e = .returned (.int .i64 (rF n most)) ∧ w' = w := by
  obtain ⟨R, hR⟩ : ∃ R, R = rF n most := ⟨_, rfl⟩
  rw [← hR]
  unfold rF at hR
  have hmod : (n : Int) % 9223372036854775808 = ((n % 9223372036854775808 : Nat) : Int) := by omega
  generalize n % 9223372036854775808 = r at *
  have HR := Lib.hid hR; clear hR
  by_cases h1 : 9218868437227405312 ≤ r
  · have h1z : (9218868437227405312 : Int) ≤ (r : Int) := by omega
    have hr := HR.out
    rw [if_pos (show _ ∨ n = _ from .inl h1)] at hr
    subst hr
    clear HR h1
    go_enter Tryz.func135, Tryz.ntmps135
    go_wp2
    go_ret
    exact ⟨rfl, rfl⟩
  · have h1z : ¬ (9218868437227405312 : Int) ≤ (r : Int) := by omega
    by_cases h2 : n = 9223372036854775808
    · have hr := HR.out
      rw [if_pos (show _ ∨ n = _ from .inr h2)] at hr
      have h2z : (n : Int) = 9223372036854775808 := by omega
      have h2b : ((n : Int) == 9223372036854775808) = true := by simp [h2z]
      subst hr
      clear HR h1 h2
      go_enter Tryz.func135, Tryz.ntmps135
      go_wp2
      go_ret
      exact ⟨rfl, rfl⟩
    · have hr := HR.out
      rw [if_neg (show ¬ (_ ∨ n = _) by omega)] at hr
      have h2z : ¬ (n : Int) = 9223372036854775808 := by omega
      have h2b : ((n : Int) == 9223372036854775808) = false := by simp; omega
      have hw := fun w => rwhole most hm w
      generalize whole most = Wm at hw hr
      have HW := Lib.hid hw
      have HR2 := Lib.hid hr
      clear HR h1 h2 hr hw
      by_cases h3 : Wm < r
      · have h3z : (Wm : Int) < (r : Int) := by omega
        have hr := HR2.out
        rw [if_pos h3] at hr
        subst hr
        clear HR2 h3
        go_enter Tryz.func135, Tryz.ntmps135
        go_wp2_with (go_at_call 152; refine (HW.out _).mono ?_; rintro _ w1 ⟨rfl, rfl⟩)
        go_ret
        exact ⟨rfl, rfl⟩
      · have h3z : ¬ (Wm : Int) < (r : Int) := by omega
        skip
        have hr := HR2.out
        rw [if_neg h3] at hr
        subst hr
        clear HR2 h3
        go_enter Tryz.func135, Tryz.ntmps135
        go_wp2_with (go_at_call 9999)
        go_at_call 152
        refine (HW.out _).mono ?_
        rintro _ w1 ⟨rfl, rfl⟩
        clear hn hm HW hmod h2z h2b h1z
        have h3b : decide ((Wm : Int) < (r : Int)) = false := decide_eq_false (by omega)
        go_wp2
        go_ret
        exact ⟨rfl, rfl⟩
end Go.Proofs.YtinngljphjdpoaaGreatDoor.Rf
