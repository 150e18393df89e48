/- A number looked for by its first byte below 128; a field read is a field written: plain. -/
import Derived.Test.YtinngljphjdpoaaGreatDoorJGn
namespace Go.Proofs.YtinngljphjdpoaaGreatDoor.Hp
open Go.Proofs.YtinngljphjdpoaaGreatDoor.Nz Go.Proofs.YtinngljphjdpoaaGreatDoor.Ep Go.Proofs.YtinngljphjdpoaaGreatDoor.Gp
set_option linter.unusedVariables false
set_option linter.unusedSimpArgs false
/-- Bytes of 128 and more, the lowest first. -/
def upk : List UInt8 → Nat
  | [] => 0
  | x :: t => x.toNat % 128 + 128 * upk t
theorem nm_run : ∀ (s : List UInt8) (i acc : Nat) (r : List UInt8), (∀ x ∈ s, 128 ≤ x.toNat) → i + s.length ≤ 9 → nm i acc (s ++ r) = nm (i + s.length) (acc + upk s * 128 ^ i) r
  | [], i, acc, r, _, _ => by simp [upk]
  | x :: t, i, acc, r, h, hi => by
    have hx := h x (by simp)
    simp only [List.length_cons] at hi
    rw [List.cons_append, nm_cons, if_neg (by omega), if_neg (by omega), nm_run t (i + 1) _ r (fun y hy => h y (by simp [hy])) (by omega)]
    simp only [List.length_cons, upk]
    rw [show i + 1 + t.length = i + (t.length + 1) by omega]
    congr 1
    rw [Nat.pow_succ, Nat.add_mul, Nat.add_assoc]
    congr 2
    rw [Nat.mul_comm (128 ^ i) 128, ← Nat.mul_assoc, Nat.mul_comm (upk t) 128]
theorem upk_snoc : ∀ (s : List UInt8) (x : UInt8), upk (s ++ [x]) = upk s + x.toNat % 128 * 128 ^ s.length
  | [], x => by simp [upk]
  | y :: t, x => by
    simp only [List.cons_append, upk, upk_snoc t x, List.length_cons, Nat.pow_succ, Nat.mul_add]
    rw [Nat.add_assoc, ← Nat.mul_assoc, Nat.mul_comm 128 (x.toNat % 128), Nat.mul_assoc, Nat.mul_comm 128 (128 ^ _)]
/-- A value put together from the last byte down. -/
def dn : List UInt8 → Nat → Nat
  | [], z => z
  | x :: t, z => x.toNat % 128 + 128 * dn t z
theorem dn_eq : ∀ (s : List UInt8) (z : Nat), dn s z = upk s + z * 128 ^ s.length
  | [], z => by simp [dn, upk]
  | x :: t, z => by
    simp only [dn, upk, dn_eq t z, List.length_cons, Nat.pow_succ, Nat.mul_add]
    rw [Nat.add_assoc, ← Nat.mul_assoc 128 z, Nat.mul_comm 128 z, Nat.mul_assoc, Nat.mul_comm 128 (128 ^ _)]
/-- A number's outcome by its run of great bytes. -/
theorem rdn_cut (s : List UInt8) (h : ∀ x ∈ s, 128 ≤ x.toNat) (hl : s.length ≤ 9) : rdn s = (73, 0, 0) := by
  have := nm_run s 0 0 [] h (by omega)
  rw [List.append_nil, nm_nil] at this
  exact this
theorem rdn_long (s r : List UInt8) (h : ∀ x ∈ s, 128 ≤ x.toNat) (hl : s.length = 10) : rdn (s ++ r) = (70, 0, 0) := by
  obtain ⟨t, x, rfl⟩ : ∃ t x, s = t ++ [x] := ⟨s.dropLast, s.getLast (by intro e; simp [e] at hl), (List.dropLast_concat_getLast _).symm⟩
  simp at hl
  have := nm_run t 0 0 ([x] ++ r) (fun y hy => h y (by simp [hy])) (by omega)
  have hx := h x (by simp)
  unfold rdn
  rw [List.append_assoc, this, List.singleton_append, nm_cons, if_pos (.inl (by omega))]
theorem rdn_last (s r : List UInt8) (y : UInt8) (h : ∀ x ∈ s, 128 ≤ x.toNat) (hl : s.length ≤ 9) (hy : y.toNat < 128) :
    rdn (s ++ y :: r) = if (s.length = 9 ∧ 1 < y.toNat) ∨ (0 < s.length ∧ y.toNat = 0) then (70, 0, 0) else (0, dn s y.toNat, s.length + 1) := by
  have := nm_run s 0 0 (y :: r) h (by omega)
  unfold rdn
  rw [this, nm_cons]
  simp only [Nat.zero_add, Nat.pow_zero, Nat.mul_one]
  rw [if_pos hy, dn_eq, Nat.mod_eq_of_lt hy]
theorem low'_le : ∀ (l : List UInt8), low' l < 256 ^ l.length
  | [] => by simp [low']
  | y :: t => by
    have := low'_le t
    have hy := y.toNat_lt
    simp only [low', List.length_cons, Nat.pow_succ]
    omega
theorem low'_lt8 (l : List UInt8) (h : l.length ≤ 8) : low' l < 18446744073709551616 := by
  have h1 := low'_le l
  have h2 : 256 ^ l.length ≤ 256 ^ 8 := Nat.pow_le_pow_right (by omega) h
  have e : 256 ^ 8 = 18446744073709551616 := by decide
  omega
theorem low'_lt4 (l : List UInt8) (h : l.length ≤ 4) : low' l < 4294967296 := by
  have h1 := low'_le l
  have h2 : 256 ^ l.length ≤ 256 ^ 4 := Nat.pow_le_pow_right (by omega) h
  have e : 256 ^ 4 = 4294967296 := by decide
  omega
/-- What is read as a field is a field's bytes. -/
theorem low_low' : ∀ (l : List UInt8), Ep.low (low' l) l.length = l
  | [] => rfl
  | x :: t => by
    have hx := x.toNat_lt
    have ht := low_low' t
    simp only [List.length_cons, Ep.low, low']
    rw [show (x.toNat + 256 * low' t) / 256 = low' t by omega, ht]
    congr 1
    apply UInt8.toNat_inj.1
    rw [UInt8.toNat_ofNat']
    omega
/-- A field's head at the front, where nothing is wrong. -/
theorem head_ok {l : List UInt8} {count : Nat} {last : Int} {no ty k : Nat} (h : Gp.head l count last = (0, no, ty, k)) :
    count ≠ 64 ∧ 1 ≤ no ∧ no ≤ 536870911 ∧ last < (no : Int) ∧ (ty = 2 ∨ ty = 0 ∨ ty = 1 ∨ ty = 5) ∧ 0 < k ∧ k ≤ l.length ∧ l.take k = num (8 * no + ty) := by
  obtain ⟨e, n, k1, hr⟩ : ∃ e n k1, rdn l = (e, n, k1) := ⟨_, _, _, rfl⟩
  simp only [Gp.head, hr] at h
  split at h
  · rename_i h0
    simp only [Prod.mk.injEq] at h
    exact absurd h.1 h0
  · rename_i h0
    simp only [ne_eq, Decidable.not_not] at h0
    subst h0
    obtain ⟨g1, g2, g3, g4⟩ := rdn_back hr
    split at h
    · simp at h
    · rename_i h1
      split at h
      · simp at h
      · rename_i h2
        split at h
        · rename_i h3
          simp only [Prod.mk.injEq, true_and] at h
          obtain ⟨rfl, rfl, rfl⟩ := h
          refine ⟨h1, by omega, by omega, by omega, h3, g1, g2, ?_⟩
          rw [g4]
          congr 1
          omega
        · simp at h
theorem val_ok {l : List UInt8} {ty : Nat} {num : Nat} {data : List UInt8} {k : Nat} (h : Gp.val ty l = (0, num, data, k)) (hl : l.length ≤ 100000000) :
    k ≤ l.length ∧ num < 18446744073709551616 ∧ (ty = 2 → num = 0) ∧ (ty ≠ 2 → data = []) ∧ data.length ≤ l.length ∧ (ty = 5 → num < 4294967296) ∧
    l.take k = (if ty = 0 then Nz.num num else if ty = 1 then low num 8 else if ty = 5 then low num 4 else Nz.num data.length ++ data) ∨ ¬ (ty = 0 ∨ ty = 1 ∨ ty = 5 ∨ ty = 2) := by
  by_cases ht : ty = 0 ∨ ty = 1 ∨ ty = 5 ∨ ty = 2
  · left
    obtain ⟨e, n, k1, hr⟩ : ∃ e n k1, rdn l = (e, n, k1) := ⟨_, _, _, rfl⟩
    rcases ht with rfl | rfl | rfl | rfl
    · simp only [Gp.val, hr, if_true] at h
      split at h
      · rename_i h0
        simp only [Prod.mk.injEq] at h
        exact absurd h.1 h0
      · rename_i h0
        simp only [ne_eq, Decidable.not_not] at h0
        subst h0
        obtain ⟨g1, g2, g3, g4⟩ := rdn_back hr
        simp only [Prod.mk.injEq, true_and] at h
        obtain ⟨rfl, rfl, rfl⟩ := h
        exact ⟨g2, g3, by omega, fun _ => rfl, by simp, by omega, by rw [if_pos rfl, g4]⟩
    · simp only [Gp.val] at h
      rw [if_neg (by decide), if_neg (by decide), if_neg (by decide)] at h
      split at h
      · simp at h
      · simp only [Prod.mk.injEq, true_and] at h
        obtain ⟨rfl, rfl, rfl⟩ := h
        have hlen : (l.take 8).length = 8 := by simp; omega
        have h1 := low'_lt8 (l.take 8) (by omega)
        have h2 := low_low' (l.take 8)
        rw [hlen] at h2
        exact ⟨by omega, h1, by omega, fun _ => rfl, by simp, by omega, by rw [if_neg (by decide), if_pos rfl, h2]⟩
    · simp only [Gp.val] at h
      rw [if_neg (by decide), if_neg (by decide), if_pos trivial] at h
      split at h
      · simp at h
      · simp only [Prod.mk.injEq, true_and] at h
        obtain ⟨rfl, rfl, rfl⟩ := h
        have hlen : (l.take 4).length = 4 := by simp; omega
        have h1 := low'_lt4 (l.take 4) (by omega)
        have h2 := low_low' (l.take 4)
        rw [hlen] at h2
        exact ⟨by omega, by omega, by omega, fun _ => rfl, by simp, fun _ => h1, by rw [if_neg (by decide), if_neg (by decide), if_pos rfl, h2]⟩
    · simp only [Gp.val, hr] at h
      rw [if_neg (by decide), if_pos trivial] at h
      split at h
      · rename_i h0
        simp only [Prod.mk.injEq] at h
        exact absurd h.1 h0
      · rename_i h0
        simp only [ne_eq, Decidable.not_not] at h0
        subst h0
        obtain ⟨g1, g2, g3, g4⟩ := rdn_back hr
        split at h
        · simp at h
        · simp only [Prod.mk.injEq, true_and] at h
          obtain ⟨rfl, rfl, rfl⟩ := h
          have hlen : ((l.drop k1).take n).length = n := by simp; omega
          refine ⟨by omega, by omega, fun _ => rfl, by omega, by simp; omega, by omega, ?_⟩
          rw [if_neg (by decide), if_neg (by decide), if_neg (by decide), hlen, ← g4, List.take_add]
  · exact .inr ht
end Go.Proofs.YtinngljphjdpoaaGreatDoor.Hp
/- Fields read one behind the other: plain. -/
namespace Go.Proofs.YtinngljphjdpoaaGreatDoor.Hq
open Go.Proofs.YtinngljphjdpoaaGreatDoor.Nz Go.Proofs.YtinngljphjdpoaaGreatDoor.Ep Go.Proofs.YtinngljphjdpoaaGreatDoor.Gp Go.Proofs.YtinngljphjdpoaaGreatDoor.Hp
set_option linter.unusedVariables false
set_option linter.unusedSimpArgs false
theorem fld_ok {l : List UInt8} {count : Nat} {last o : Int} {o' : Nat} {f : Ep.Fd} {k : Nat} (h : Gp.fld l count last = (0, o', f, k)) (hl : l.length ≤ 100000000) :
    o' = 0 ∧ 0 < k ∧ k ≤ l.length ∧ l.take k = Ep.one f ∧ Ep.wrong f last = 0 ∧ last < f.no ∧ 1 ≤ f.no ∧ f.no ≤ 536870911 ∧ (f.ty = 0 ∨ f.ty = 1 ∨ f.ty = 5 ∨ f.ty = 2) ∧ f.num < 18446744073709551616 ∧ f.data.length ≤ l.length ∧ count ≠ 64 := by
  obtain ⟨e1, no, ty, k1, hr⟩ : ∃ e1 no ty k1, Gp.head l count last = (e1, no, ty, k1) := ⟨_, _, _, _, rfl⟩
  simp only [Gp.fld, hr] at h
  split at h
  · rename_i h0
    simp only [Prod.mk.injEq] at h
    exact absurd h.1 h0
  · rename_i h0
    simp only [ne_eq, Decidable.not_not] at h0
    subst h0
    obtain ⟨c1, c2, c3, c4, c5, c6, c7, c8⟩ := head_ok hr
    obtain ⟨e2, num, data, k2, hv⟩ : ∃ e2 num data k2, Gp.val ty (l.drop k1) = (e2, num, data, k2) := ⟨_, _, _, _, rfl⟩
    simp only [hv] at h
    split at h
    · rename_i h0
      simp only [Prod.mk.injEq] at h
      exact absurd h.1 h0
    · rename_i h0
      simp only [ne_eq, Decidable.not_not] at h0
      subst h0
      rcases val_ok hv (by simp; omega) with ⟨d1, d2, d3, d4, d5, d6, d7⟩ | d
      · simp only [Prod.mk.injEq, true_and] at h
        obtain ⟨rfl, rfl, rfl⟩ := h
        simp only [List.length_drop] at d1 d5
        refine ⟨rfl, by omega, by omega, ?_, ?_, c4, by simp only; omega, by simp only; omega, by simp only; omega, d2, by simp only; omega, c1⟩
        · rw [List.take_add, c8, d7]
          unfold Ep.one
          simp only [Int.toNat_natCast]
          rcases c5 with rfl | rfl | rfl | rfl <;> rfl
        · unfold Ep.wrong
          simp only
          rw [if_neg (by omega)]
          rcases c5 with rfl | rfl | rfl | rfl
          · have := d3 rfl; subst this; rfl
          · have := d4 (by decide); subst this; rfl
          · have := d4 (by decide); subst this; rfl
          · have := d4 (by decide); subst this
            have := d6 rfl
            rw [if_neg (by decide), if_pos (by decide), if_neg]
            simp only [List.length_nil, ne_eq, not_true_eq_false, false_or, not_and]
            omega
      · omega
/-- The fields at the front, with fuel enough. -/
def D (l : List UInt8) (count : Nat) (last : Int) : Dr := dec l.length l count last
theorem dec_fuel : ∀ (j j' : Nat) (l : List UInt8) (count : Nat) (last : Int), l.length ≤ j → l.length ≤ j' → l.length ≤ 100000000 → dec j l count last = dec j' l count last
  | 0, 0, l, c, la, _, _, _ => rfl
  | 0, j' + 1, l, c, la, h, _, _ => by simp only [dec]; rw [if_pos (by omega)]
  | j + 1, 0, l, c, la, _, h, _ => by simp only [dec]; rw [if_pos (by omega)]
  | j + 1, j' + 1, l, c, la, h, h', hl => by
    simp only [dec]
    by_cases h0 : l.length = 0
    · rw [if_pos h0, if_pos h0]
    · rw [if_neg h0, if_neg h0]
      by_cases h1 : (fld l c la).1 ≠ 0
      · rw [if_pos h1, if_pos h1]
      · rw [if_neg h1, if_neg h1]
        simp only [ne_eq, Decidable.not_not] at h1
        have hk := (fld_ok (o := 0) (l := l) (count := c) (last := la) (o' := (fld l c la).2.1) (f := (fld l c la).2.2.1) (k := (fld l c la).2.2.2) (by rw [← h1]) hl).2.1
        rw [dec_fuel j j' (l.drop (fld l c la).2.2.2) _ _ (by simp; omega) (by simp; omega) (by simp; omega)]
theorem D_nil (count : Nat) (last : Int) : D [] count last = ⟨[], 0, 0⟩ := rfl
theorem D_bad {l : List UInt8} {count : Nat} {last e : Int} {o k : Nat} {f : Ep.Fd} (h0 : 0 < l.length) (h : fld l count last = (e, o, f, k)) (he : e ≠ 0) : D l count last = ⟨[], o, e⟩ := by
  obtain ⟨x, t, rfl⟩ := List.exists_cons_of_length_pos h0
  simp only [D, List.length_cons, dec]
  rw [if_neg (by omega), h, if_pos he]
theorem D_step {l : List UInt8} {count : Nat} {last : Int} {o k : Nat} {f : Ep.Fd} (h0 : 0 < l.length) (h : fld l count last = (0, o, f, k)) (hl : l.length ≤ 100000000) :
    D l count last = ⟨f :: (D (l.drop k) (count + 1) f.no).fs, (D (l.drop k) (count + 1) f.no).off, (D (l.drop k) (count + 1) f.no).err⟩ := by
  have hk := (fld_ok (o := 0) h hl).2.1
  obtain ⟨x, t, rfl⟩ := List.exists_cons_of_length_pos h0
  simp only [D]
  rw [List.length_cons, dec, if_neg (by simp), h, if_neg (by simp)]
  simp only
  simp only [List.length_cons] at hl
  rw [dec_fuel t.length ((x :: t).drop k).length ((x :: t).drop k) _ _ (by simp; omega) (Nat.le_refl _) (by simp; omega)]
/-- What was read stands at the front. -/
theorem D_bytes : ∀ (n : Nat) (l : List UInt8) (count : Nat) (last : Int), l.length = n → l.length ≤ 100000000 → ∃ r, l = Ep.bytes (D l count last).fs ++ r := by
  intro n
  induction n using Nat.strongRecOn with
  | _ n ih =>
    intro l count last hn hl
    by_cases h0 : 0 < l.length
    · obtain ⟨e, o, f, k, h⟩ : ∃ e o f k, fld l count last = (e, o, f, k) := ⟨_, _, _, _, rfl⟩
      by_cases he : e = 0
      · subst he
        have hk := fld_ok (o := 0) h hl
        rw [D_step h0 h hl]
        obtain ⟨r, hr⟩ := ih (l.drop k).length (by simp; omega) (l.drop k) (count + 1) f.no rfl (by simp; omega)
        refine ⟨r, ?_⟩
        simp only [Ep.bytes]
        rw [List.append_assoc, ← hr, ← hk.2.2.2.1, List.take_append_drop]
      · rw [D_bad h0 h he]
        exact ⟨l, rfl⟩
    · have : l = [] := List.eq_nil_of_length_eq_zero (by omega)
      subst this
      exact ⟨[], rfl⟩
end Go.Proofs.YtinngljphjdpoaaGreatDoor.Hq
/- Items read one behind the other: plain. -/
namespace Go.Proofs.YtinngljphjdpoaaGreatDoor.Gq
open Go.Proofs.YtinngljphjdpoaaGreatDoor.Nz Go.Proofs.YtinngljphjdpoaaGreatDoor.Ep Go.Proofs.YtinngljphjdpoaaGreatDoor.Gp Go.Proofs.YtinngljphjdpoaaGreatDoor.Hp
set_option linter.unusedVariables false
set_option linter.unusedSimpArgs false
/-- The item at the front: what is wrong, the item, how many bytes. -/
def itm (l : List UInt8) (count : Nat) : Int × List UInt8 × Nat :=
  if count = 4096 then (2, [], 0)
  else if (rdn l).1 ≠ 0 then ((rdn l).1, [], 0)
  else if l.length - (rdn l).2.2 < (rdn l).2.1 then (73, [], 0)
  else (0, (l.drop (rdn l).2.2).take (rdn l).2.1, (rdn l).2.2 + (rdn l).2.1)
/-- The items at the front, up to the first fault, and the fault. -/
def spl : Nat → List UInt8 → Nat → List (List UInt8) × Int
  | 0, _, _ => ([], 0)
  | k + 1, l, count => if l.length = 0 then ([], 0) else if (itm l count).1 ≠ 0 then ([], (itm l count).1)
    else ((itm l count).2.1 :: (spl k (l.drop (itm l count).2.2) (count + 1)).1, (spl k (l.drop (itm l count).2.2) (count + 1)).2)
theorem itm_ok {l : List UInt8} {count : Nat} {x : List UInt8} {k : Nat} (h : itm l count = (0, x, k)) : count ≠ 4096 ∧ (∃ n k1, rdn l = (0, n, k1) ∧ 0 < k1 ∧ k1 + n = k ∧ x = (l.drop k1).take n ∧ n = x.length) ∧ 0 < k ∧ k ≤ l.length ∧ l.take k = num x.length ++ x := by
  obtain ⟨e, n, k1, hr⟩ : ∃ e n k1, rdn l = (e, n, k1) := ⟨_, _, _, rfl⟩
  simp only [itm, hr] at h
  split at h
  · simp at h
  · rename_i h1
    split at h
    · rename_i h2
      simp only [Prod.mk.injEq] at h
      exact absurd h.1 h2
    · rename_i h2
      simp only [ne_eq, Decidable.not_not] at h2
      subst h2
      obtain ⟨g1, g2, g3, g4⟩ := rdn_back hr
      split at h
      · simp at h
      · simp only [Prod.mk.injEq, true_and] at h
        obtain ⟨rfl, rfl⟩ := h
        have hlen : ((l.drop k1).take n).length = n := by simp; omega
        exact ⟨h1, ⟨n, k1, hr, g1, rfl, rfl, hlen.symm⟩, by omega, by omega, by rw [hlen, ← g4, List.take_add]⟩
/-- With fuel enough. -/
def Sp (l : List UInt8) (count : Nat) : List (List UInt8) × Int := spl l.length l count
theorem spl_fuel : ∀ (j j' : Nat) (l : List UInt8) (count : Nat), l.length ≤ j → l.length ≤ j' → spl j l count = spl j' l count
  | 0, 0, l, c, _, _ => rfl
  | 0, j' + 1, l, c, h, _ => by simp only [spl]; rw [if_pos (by omega)]
  | j + 1, 0, l, c, _, h => by simp only [spl]; rw [if_pos (by omega)]
  | j + 1, j' + 1, l, c, h, h' => by
    simp only [spl]
    by_cases h0 : l.length = 0
    · rw [if_pos h0, if_pos h0]
    · rw [if_neg h0, if_neg h0]
      by_cases h1 : (itm l c).1 ≠ 0
      · rw [if_pos h1, if_pos h1]
      · rw [if_neg h1, if_neg h1]
        simp only [ne_eq, Decidable.not_not] at h1
        have hk := (itm_ok (l := l) (count := c) (x := (itm l c).2.1) (k := (itm l c).2.2) (by rw [← h1])).2.2.1
        rw [spl_fuel j j' (l.drop (itm l c).2.2) _ (by simp; omega) (by simp; omega)]
theorem Sp_nil (count : Nat) : Sp [] count = ([], 0) := rfl
theorem Sp_bad {l : List UInt8} {count : Nat} {e : Int} {x : List UInt8} {k : Nat} (h0 : 0 < l.length) (h : itm l count = (e, x, k)) (he : e ≠ 0) : Sp l count = ([], e) := by
  obtain ⟨y, t, rfl⟩ := List.exists_cons_of_length_pos h0
  simp only [Sp, List.length_cons, spl]
  rw [if_neg (by omega), h, if_pos he]
theorem Sp_step {l : List UInt8} {count : Nat} {x : List UInt8} {k : Nat} (h0 : 0 < l.length) (h : itm l count = (0, x, k)) : Sp l count = (x :: (Sp (l.drop k) (count + 1)).1, (Sp (l.drop k) (count + 1)).2) := by
  have hk := (itm_ok h).2.2.1
  obtain ⟨y, t, rfl⟩ := List.exists_cons_of_length_pos h0
  simp only [Sp]
  rw [List.length_cons, spl, if_neg (by simp), h, if_neg (by simp)]
  simp only
  rw [spl_fuel t.length ((y :: t).drop k).length ((y :: t).drop k) _ (by simp; omega) (Nat.le_refl _)]
/-- How far a split has come. -/
structure Far (b : List UInt8) (p : Nat) (pre : List (List UInt8)) : Prop where
  le : p ≤ b.length
  cnt : pre.length ≤ 4096
  at_ : p = (Ep.jbytes pre).length
  its : (Sp b 0).1 = pre ++ (Sp (b.drop p) pre.length).1
  err : (Sp b 0).2 = (Sp (b.drop p) pre.length).2
theorem Far.zero (b : List UInt8) : Far b 0 [] := ⟨by omega, by simp, rfl, rfl, rfl⟩
theorem Far.done {b : List UInt8} {pre : List (List UInt8)} (h : Far b b.length pre) : (Sp b 0).1 = pre ∧ (Sp b 0).2 = 0 := by
  have h1 := h.its; have h2 := h.err
  rw [List.drop_length] at h1 h2
  exact ⟨by rw [h1, Sp_nil]; simp, by rw [h2, Sp_nil]⟩
theorem Far.bad {b : List UInt8} {p : Nat} {pre : List (List UInt8)} {e : Int} {x : List UInt8} {k : Nat} (h : Far b p pre) (hp : p < b.length) (hf : itm (b.drop p) pre.length = (e, x, k)) (he : e ≠ 0) :
    (Sp b 0).1 = pre ∧ (Sp b 0).2 = e := by
  have h1 := h.its; have h2 := h.err
  rw [Sp_bad (by simp; omega) hf he] at h1 h2
  simp only [List.append_nil] at h1
  exact ⟨h1, h2⟩
theorem jb_snoc : ∀ (l : List (List UInt8)) (x : List UInt8), Ep.jbytes (l ++ [x]) = Ep.jbytes l ++ (num x.length ++ x)
  | [], x => by simp [Ep.jbytes]
  | y :: t, x => by simp only [List.cons_append, Ep.jbytes, jb_snoc t x, List.append_assoc]
theorem Far.step {b : List UInt8} {p : Nat} {pre : List (List UInt8)} {x : List UInt8} {k : Nat} (h : Far b p pre) (hp : p < b.length) (hf : itm (b.drop p) pre.length = (0, x, k)) :
    Far b (p + k) (pre ++ [x]) ∧ 0 < k := by
  have hs := itm_ok hf
  have hd := Sp_step (by simp; omega) hf
  have h1 := h.its; have h2 := h.err
  rw [hd] at h1 h2
  simp only [List.length_drop] at hs
  have hcnt := h.cnt
  have hk : (num x.length ++ x).length = k := by rw [← hs.2.2.2.2]; simp; omega
  refine ⟨⟨by omega, by simp; omega, ?_, ?_, ?_⟩, hs.2.2.1⟩
  · rw [jb_snoc, List.length_append, hk, ← h.at_]
  · rw [h1, List.drop_drop]; simp
  · rw [h2, List.drop_drop]; simp
end Go.Proofs.YtinngljphjdpoaaGreatDoor.Gq
/- Fields and items: what is written is read, and what is read stays read with more behind it: plain. -/
namespace Go.Proofs.YtinngljphjdpoaaGreatDoor.Ya
open Go.Proofs.YtinngljphjdpoaaGreatDoor.Nz Go.Proofs.YtinngljphjdpoaaGreatDoor.Ep Go.Proofs.YtinngljphjdpoaaGreatDoor.Gp Go.Proofs.YtinngljphjdpoaaGreatDoor.Hp Go.Proofs.YtinngljphjdpoaaGreatDoor.Hq Go.Proofs.YtinngljphjdpoaaGreatDoor.Gq
set_option linter.unusedVariables false
set_option linter.unusedSimpArgs false
theorem take_app {α : Type} {k : Nat} {l r : List α} (h : k ≤ l.length) : (l ++ r).take k = l.take k := List.take_append_of_le_length h
theorem drop_app {α : Type} {k : Nat} {l r : List α} (h : k ≤ l.length) : (l ++ r).drop k = l.drop k ++ r := List.drop_append_of_le_length h
theorem rdn_app {l : List UInt8} {v k : Nat} (r : List UInt8) (h : rdn l = (0, v, k)) : rdn (l ++ r) = (0, v, k) := by
  obtain ⟨h1, h2, h3, h4⟩ := rdn_back h
  have hk := rdn_len h
  have : l ++ r = num v ++ (l.drop k ++ r) := by rw [← h4, ← List.append_assoc, List.take_append_drop]
  rw [this, rdn_num v _ h3, hk]
theorem head_app {l : List UInt8} {count : Nat} {last : Int} {no ty k : Nat} (r : List UInt8) (h : Gp.head l count last = (0, no, ty, k)) : Gp.head (l ++ r) count last = (0, no, ty, k) := by
  obtain ⟨e, n, k1, hr⟩ : ∃ e n k1, rdn l = (e, n, k1) := ⟨_, _, _, rfl⟩
  by_cases he : e = 0
  · subst he
    simp only [Gp.head, hr] at h
    simp only [Gp.head, rdn_app r hr]
    exact h
  · simp only [Gp.head, hr] at h
    rw [if_pos he] at h
    simp only [Prod.mk.injEq] at h
    exact absurd h.1 he
theorem val_app {ty : Nat} {l : List UInt8} {num : Nat} {data : List UInt8} {k : Nat} (r : List UInt8) (h : Gp.val ty l = (0, num, data, k)) : Gp.val ty (l ++ r) = (0, num, data, k) := by
  obtain ⟨e, n, k1, hr⟩ : ∃ e n k1, rdn l = (e, n, k1) := ⟨_, _, _, rfl⟩
  unfold Gp.val at h ⊢
  by_cases h0 : ty = 0
  · rw [if_pos h0] at h ⊢
    by_cases he : e = 0
    · subst he; rw [rdn_app r hr]; rw [hr] at h; exact h
    · rw [hr] at h; simp only [ne_eq, he, not_false_eq_true, if_true, Prod.mk.injEq] at h; exact h.1.elim
  · rw [if_neg h0] at h ⊢
    by_cases h2 : ty = 2
    · rw [if_pos h2] at h ⊢
      by_cases he : e = 0
      · subst he
        have hb := rdn_back hr
        rw [rdn_app r hr]; rw [hr] at h
        simp only [ne_eq, not_true_eq_false, if_false] at h ⊢
        split at h
        · simp at h
        · rename_i hlt
          rw [if_neg (by simp; omega), drop_app hb.2.1, take_app (by simp; omega)]
          exact h
      · rw [hr] at h; simp only [ne_eq, he, not_false_eq_true, if_true, Prod.mk.injEq] at h; exact h.1.elim
    · rw [if_neg h2] at h ⊢
      by_cases h5 : ty = 5
      · rw [if_pos h5] at h ⊢
        split at h
        · simp at h
        · rw [if_neg (by simp; omega), take_app (by omega)]; exact h
      · rw [if_neg h5] at h ⊢
        split at h
        · simp at h
        · rw [if_neg (by simp; omega), take_app (by omega)]; exact h
theorem fld_app {l : List UInt8} {count : Nat} {last : Int} {o k : Nat} {f : Ep.Fd} (r : List UInt8) (h : fld l count last = (0, o, f, k)) : fld (l ++ r) count last = (0, o, f, k) := by
  obtain ⟨e1, no, ty, k1, hh⟩ : ∃ e1 no ty k1, Gp.head l count last = (e1, no, ty, k1) := ⟨_, _, _, _, rfl⟩
  simp only [Gp.fld, hh] at h
  by_cases he : e1 = 0
  · subst he
    have hk := (head_ok hh).2.2.2.2.2.2.1
    simp only [ne_eq, not_true_eq_false, if_false] at h
    obtain ⟨e2, num, data, k2, hv⟩ : ∃ e2 num data k2, Gp.val ty (l.drop k1) = (e2, num, data, k2) := ⟨_, _, _, _, rfl⟩
    rw [hv] at h
    by_cases hz : e2 = 0
    · subst hz
      simp only [ne_eq, not_true_eq_false, if_false] at h
      have := val_app r hv
      rw [← drop_app hk] at this
      simp only [Gp.fld, head_app r hh, ne_eq, not_true_eq_false, if_false, this]
      exact h
    · simp only [ne_eq, hz, not_false_eq_true, if_true, Prod.mk.injEq] at h; exact h.1.elim
  · simp only [ne_eq, he, not_false_eq_true, if_true, Prod.mk.injEq] at h; exact h.1.elim
/-- Bytes that read whole read so with more behind them; the rest is read behind. -/
theorem D_app : ∀ (n : Nat) (a c : List UInt8) (count : Nat) (last : Int), a.length = n → (a ++ c).length ≤ 100000000 → (D a count last).err = 0 →
    ∃ la, D (a ++ c) count last = ⟨(D a count last).fs ++ (D c (count + (D a count last).fs.length) la).fs, (D c (count + (D a count last).fs.length) la).off, (D c (count + (D a count last).fs.length) la).err⟩ := by
  intro n
  induction n using Nat.strongRecOn with
  | _ n ih =>
    intro a c count last hn hl he
    have hl' : a.length ≤ 100000000 := by simp at hl; omega
    by_cases h0 : 0 < a.length
    · obtain ⟨e, o, f, k, h⟩ : ∃ e o f k, fld a count last = (e, o, f, k) := ⟨_, _, _, _, rfl⟩
      by_cases hz : e = 0
      · subst hz
        have hk := fld_ok (o := 0) h hl'
        rw [D_step h0 h hl'] at he ⊢
        have h2 := fld_app c h
        have hd : (a ++ c).drop k = a.drop k ++ c := drop_app hk.2.2.1
        have hl3 : (a.drop k ++ c).length ≤ 100000000 := by simp at hl ⊢; omega
        rw [D_step (by simp; omega) h2 hl, hd]
        obtain ⟨la, hla⟩ := ih (a.drop k).length (by simp; omega) (a.drop k) c (count + 1) f.no rfl hl3 he
        refine ⟨la, ?_⟩
        rw [hla]
        simp only [List.length_cons, List.cons_append]
        rw [show count + 1 + (D (a.drop k) (count + 1) f.no).fs.length = count + ((D (a.drop k) (count + 1) f.no).fs.length + 1) by omega]
      · rw [D_bad h0 h hz] at he
        exact absurd he hz
    · have : a = [] := List.eq_nil_of_length_eq_zero (by omega)
      subst this
      refine ⟨last, ?_⟩
      rw [D_nil]
      simp
/-- A field that is one is read back. -/
theorem low'_low : ∀ (k n : Nat), n < 256 ^ k → low' (Ep.low n k) = n
  | 0, n, h => by simp at h; simp [Ep.low, low', h]
  | k + 1, n, h => by
    simp only [Ep.low, low']
    rw [low'_low k (n / 256) (by rw [Nat.div_lt_iff_lt_mul (by omega), ← Nat.pow_succ]; exact h), UInt8.toNat_ofNat']
    omega
theorem low'_8 (n : Nat) (h : n < 18446744073709551616) : low' (Ep.low n 8) = n := low'_low 8 n (by rw [show 256 ^ 8 = 18446744073709551616 by decide]; exact h)
theorem low'_4 (n : Nat) (h : n < 4294967296) : low' (Ep.low n 4) = n := low'_low 4 n (by rw [show 256 ^ 4 = 4294967296 by decide]; exact h)
theorem fd_eta (f : Ep.Fd) : f = ⟨f.no, f.ty, f.num, f.data⟩ := rfl
theorem fld_one (f : Ep.Fd) (count : Nat) (last : Int) (r : List UInt8) (hw : Ep.wrong f last = 0) (hl : 0 ≤ last) (hc : count ≠ 64) (hn : f.num < 18446744073709551616) (hd : f.data.length < 18446744073709551616) :
    fld (Ep.one f ++ r) count last = (0, 0, f, (Ep.one f).length) := by
  obtain ⟨no, ty, num, data⟩ := f
  simp only at hn hd
  have hok := wrong_ok hw
  simp only at hok
  obtain ⟨no', rfl⟩ := Int.eq_ofNat_of_zero_le (show 0 ≤ no by omega)
  obtain ⟨ty', rfl⟩ := Int.eq_ofNat_of_zero_le (show 0 ≤ ty by omega)
  unfold Ep.wrong at hw
  simp only at hw
  split at hw
  · exact absurd hw (by decide)
  rename_i hlast
  have hty : ty' = 0 ∨ ty' = 1 ∨ ty' = 5 ∨ ty' = 2 := by omega
  have hone : Ep.one ⟨(no' : Int), (ty' : Int), num, data⟩ = Nz.num (8 * no' + ty') ++ (if (ty' : Int) = 0 then Nz.num num else if (ty' : Int) = 1 then Ep.low num 8 else if (ty' : Int) = 5 then Ep.low num 4 else Nz.num data.length ++ data) := rfl
  rw [hone]
  generalize hR : (if (ty' : Int) = 0 then Nz.num num else if (ty' : Int) = 1 then Ep.low num 8 else if (ty' : Int) = 5 then Ep.low num 4 else Nz.num data.length ++ data) = R
  have hh : Gp.head (Nz.num (8 * no' + ty') ++ R ++ r) count last = (0, no', ty', sz (8 * no' + ty')) := by
    rw [List.append_assoc]
    simp only [Gp.head, rdn_num (8 * no' + ty') (R ++ r) (by omega)]
    rw [if_neg (by simp), if_neg hc, if_neg (by omega), if_pos (by omega)]
    refine Prod.ext rfl (Prod.ext ?_ (Prod.ext ?_ rfl)) <;> simp only <;> omega
  have hdrop : (Nz.num (8 * no' + ty') ++ R ++ r).drop (sz (8 * no' + ty')) = R ++ r := by
    rw [List.append_assoc]; exact List.drop_left
  have hv : Gp.val ty' (R ++ r) = (0, num, data, R.length) := by
    rcases hty with rfl | rfl | rfl | rfl
    · rw [if_pos (by decide)] at hR
      subst hR
      have : data = [] := by
        rw [if_neg (by decide), if_pos (by decide)] at hw
        split at hw
        · exact absurd hw (by decide)
        · rename_i hx; exact List.eq_nil_of_length_eq_zero (by omega)
      subst this
      simp only [Gp.val, rdn_num num r hn, if_true, ne_eq, not_true_eq_false, if_false]
      rfl
    · rw [if_neg (by decide), if_pos (by decide)] at hR
      subst hR
      have : data = [] := by
        rw [if_neg (by decide), if_pos (by decide)] at hw
        split at hw
        · exact absurd hw (by decide)
        · rename_i hx; exact List.eq_nil_of_length_eq_zero (by omega)
      subst this
      simp only [Gp.val]
      rw [if_neg (by decide), if_neg (by decide), if_neg (by decide), if_neg (by simp [Ep.low_length]), take_app (by simp [Ep.low_length]), List.take_of_length_le (by simp [Ep.low_length]), low'_8 _ hn, Ep.low_length]
    · rw [if_neg (by decide), if_neg (by decide), if_pos (by decide)] at hR
      subst hR
      rw [if_neg (by decide), if_pos (by decide)] at hw
      split at hw
      · exact absurd hw (by decide)
      rename_i hx
      have : data = [] := List.eq_nil_of_length_eq_zero (by omega)
      subst this
      have h32 : num < 4294967296 := by
        simp only [List.length_nil, ne_eq, not_true_eq_false, false_or, not_and] at hx
        have := hx (by decide)
        omega
      simp only [Gp.val]
      rw [if_neg (by decide), if_neg (by decide), if_pos trivial, if_neg (by simp [Ep.low_length]), take_app (by simp [Ep.low_length]), List.take_of_length_le (by simp [Ep.low_length]), low'_4 _ h32, Ep.low_length]
    · rw [if_neg (by decide), if_neg (by decide), if_neg (by decide)] at hR
      subst hR
      have : num = 0 := by
        rw [if_pos (by decide)] at hw
        split at hw
        · exact absurd hw (by decide)
        · rename_i hx; omega
      subst this
      have hdr : (Nz.num data.length ++ (data ++ r)).drop (sz data.length) = data ++ r := List.drop_left
      simp only [Gp.val]
      rw [if_neg (by decide), if_pos trivial, List.append_assoc, rdn_num data.length (data ++ r) hd]
      simp only [ne_eq, not_true_eq_false, if_false]
      rw [if_neg (by simp [sz]), hdr]
      simp [sz]
  unfold Gp.fld
  simp only [hh, ne_eq, not_true_eq_false, if_false, hdrop, hv]
  simp [sz]
def lastNo (last : Int) : List Ep.Fd → Int
  | [] => last
  | f :: r => lastNo f.no r
/-- Fields that are such are read back. -/
theorem D_of : ∀ (fs : List Ep.Fd) (count : Nat) (last : Int), Ep.errGo last fs = 0 → 0 ≤ last → count + fs.length ≤ 64 → (∀ f ∈ fs, f.num < 18446744073709551616 ∧ f.data.length < 18446744073709551616) → (Ep.bytes fs).length ≤ 100000000 → D (Ep.bytes fs) count last = ⟨fs, 0, 0⟩
  | [], count, last, _, _, _, _, _ => rfl
  | f :: r, count, last, he, hl, hc, hb, hlen => by
    simp only [Ep.errGo] at he
    split at he
    · rename_i h; exact absurd he h
    rename_i hw
    simp only [ne_eq, Decidable.not_not] at hw
    simp only [List.length_cons] at hc
    have hf := fld_one f count last (Ep.bytes r) hw hl (by omega) (hb f (by simp)).1 (hb f (by simp)).2
    have hlen' : (Ep.one f ++ Ep.bytes r).length ≤ 100000000 := hlen
    have hk := fld_ok (o := 0) hf hlen'
    have hok := wrong_ok hw
    show D (Ep.one f ++ Ep.bytes r) count last = _
    rw [D_step (by simp; omega) hf hlen']
    have hd : (Ep.one f ++ Ep.bytes r).drop (Ep.one f).length = Ep.bytes r := List.drop_left
    rw [hd, D_of r (count + 1) f.no he (by omega) (by omega) (fun g hg => hb g (by simp [hg])) (by simp at hlen'; omega)]
/-- Items. -/
theorem itm_one (x : List UInt8) (count : Nat) (r : List UInt8) (hc : count ≠ 4096) (hx : x.length < 18446744073709551616) : itm (num x.length ++ x ++ r) count = (0, x, (num x.length ++ x).length) := by
  have hdr : (num x.length ++ (x ++ r)).drop (sz x.length) = x ++ r := List.drop_left
  unfold itm
  rw [if_neg hc, List.append_assoc, rdn_num x.length (x ++ r) hx]
  simp only [ne_eq, not_true_eq_false, if_false]
  rw [if_neg (by simp [sz]), hdr]
  simp [sz]
theorem Sp_of : ∀ (l : List (List UInt8)) (count : Nat), count + l.length ≤ 4096 → (∀ x ∈ l, x.length < 18446744073709551616) → Sp (Ep.jbytes l) count = (l, 0)
  | [], _, _, _ => rfl
  | x :: r, count, hc, hb => by
    simp only [List.length_cons] at hc
    have hi := itm_one x count (Ep.jbytes r) (by omega) (hb x (by simp))
    show Sp (num x.length ++ x ++ Ep.jbytes r) count = _
    have hp := sz_pos x.length
    rw [Sp_step (by simp [sz] at hp ⊢; omega) hi]
    have hd : (num x.length ++ x ++ Ep.jbytes r).drop (num x.length ++ x).length = Ep.jbytes r := List.drop_left
    rw [hd, Sp_of r (count + 1) (by omega) (fun y hy => hb y (by simp [hy]))]
theorem Sp_all : ∀ (n : Nat) (l : List UInt8) (count : Nat), l.length = n → (Sp l count).2 = 0 → l = Ep.jbytes (Sp l count).1 := by
  intro n
  induction n using Nat.strongRecOn with
  | _ n ih =>
    intro l count hn he
    by_cases h0 : 0 < l.length
    · obtain ⟨e, x, k, h⟩ : ∃ e x k, itm l count = (e, x, k) := ⟨_, _, _, rfl⟩
      by_cases hz : e = 0
      · subst hz
        have hk := itm_ok h
        rw [Sp_step h0 h] at he ⊢
        have := ih (l.drop k).length (by simp; omega) (l.drop k) (count + 1) rfl he
        simp only [Ep.jbytes]
        rw [← this, ← hk.2.2.2.2, List.take_append_drop]
      · rw [Sp_bad h0 h hz] at he
        exact absurd he hz
    · have : l = [] := List.eq_nil_of_length_eq_zero (by omega)
      subst this
      rfl
/-- Where nothing is wrong the fields are such as can be written. -/
theorem D_good : ∀ (n : Nat) (l : List UInt8) (count : Nat) (last : Int), l.length = n → l.length ≤ 100000000 → count ≤ 64 → (D l count last).err = 0 → Ep.errGo last (D l count last).fs = 0 ∧ count + (D l count last).fs.length ≤ 64 := by
  intro n
  induction n using Nat.strongRecOn with
  | _ n ih =>
    intro l count last hn hl hc he
    by_cases h0 : 0 < l.length
    · obtain ⟨e, o, f, k, h⟩ : ∃ e o f k, fld l count last = (e, o, f, k) := ⟨_, _, _, _, rfl⟩
      by_cases hz : e = 0
      · subst hz
        have hk := fld_ok (o := 0) h hl
        rw [D_step h0 h hl] at he ⊢
        have := ih (l.drop k).length (by simp; omega) (l.drop k) (count + 1) f.no rfl (by simp; omega) (by have := hk.2.2.2.2.2.2.2.2.2.2.2; omega) he
        simp only [Ep.errGo, List.length_cons]
        rw [if_neg (by rw [hk.2.2.2.2.1]; simp)]
        exact ⟨this.1, by omega⟩
      · rw [D_bad h0 h hz] at he
        exact absurd he hz
    · have : l = [] := List.eq_nil_of_length_eq_zero (by omega)
      subst this
      simp [D_nil, Ep.errGo]; omega
theorem sumL_le (l : List Ep.Fd) : (∀ f ∈ l, (f.ty = 2 ∨ f.data = []) ) → Ep.sumL l ≤ (Ep.bytes l).length := by
  induction l with
  | nil => intro _; simp [Ep.sumL]
  | cons f r ih =>
    intro h
    have h1 := ih (fun g hg => h g (by simp [hg]))
    have h2 := h f (by simp)
    simp only [Ep.sumL, Ep.bytes, List.length_append]
    rcases h2 with h2 | h2
    · unfold Ep.one
      rw [if_neg (by omega), if_neg (by omega), if_neg (by omega)]
      simp; omega
    · rw [h2]; simp; omega
end Go.Proofs.YtinngljphjdpoaaGreatDoor.Ya
