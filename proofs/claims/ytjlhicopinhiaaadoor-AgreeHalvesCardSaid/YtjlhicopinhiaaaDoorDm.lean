/- The law's 'grouped' and the number's pure laws. -/
import Derived.Test.YtjlhicopinhiaaaDoorDq
namespace Go.Proofs.YtjlhicopinhiaaaDoor.Dm
open Go Go.RowKit Go.Proofs.YtjlhicopinhiaaaDoor.Pa Go.Proofs.YtjlhicopinhiaaaDoor.Pb Go.Proofs.YtjlhicopinhiaaaDoor.Sd Go.Proofs.YtjlhicopinhiaaaDoor.Dg Go.Proofs.YtjlhicopinhiaaaDoor.Ds Go.Proofs.YtjlhicopinhiaaaDoor.Dq
set_option linter.unusedVariables false
set_option linter.unusedSimpArgs false
/-- A blank at each sixth place, digits elsewhere. -/
def Okd (l : List UInt8) : Prop := ∀ i (h : i < l.length), if i % 6 = 0 then l[i] = 32 else 48 ≤ l[i].toNat ∧ l[i].toNat ≤ 57
theorem ok_group (n : Nat) : Okd (group n) := by
  intro i h
  have h6 : i < 6 := h
  have hd : ∀ m : Nat, 48 ≤ (UInt8.ofNat (48 + m % 10)).toNat ∧ (UInt8.ofNat (48 + m % 10)).toNat ≤ 57 := by
    intro m
    have := of_nat8 (n := 48 + m % 10) (by omega)
    omega
  obtain rfl | rfl | rfl | rfl | rfl | rfl : i = 0 ∨ i = 1 ∨ i = 2 ∨ i = 3 ∨ i = 4 ∨ i = 5 := by omega
  · rfl
  all_goals (rw [if_neg (by decide)]; exact hd _)
theorem Okd.append {l m : List UInt8} (h1 : Okd l) (h2 : Okd m) (hl : l.length % 6 = 0) : Okd (l ++ m) := by
  intro i h
  rcases Nat.lt_or_ge i l.length with hi | hi
  · rw [List.getElem_append_left hi]; exact h1 i hi
  · rw [List.getElem_append_right hi]
    have h3 : i - l.length < m.length := by rw [List.length_append] at h; omega
    have := h2 (i - l.length) h3
    have e : (i - l.length) % 6 = i % 6 := by omega
    rw [e] at this
    exact this
theorem ok_groups (H : Vector UInt8 32) (g : Nat) : Okd (groups H g) := by
  induction g with
  | zero => intro i h; exact absurd h (by simp [groups])
  | succ g ih => exact ih.append (ok_group _) (by rw [groups_length]; omega)
theorem ok_digits (k : Vector UInt8 32) (r : Nat) : Okd (digits k r) := ok_groups _ _
/-- Twelve groups of five digits. -/
def Grp (l : List UInt8) : Prop := l.length = 71 ∧ ∀ i (h : i < l.length), if i % 6 = 5 then l[i] = 32 else 48 ≤ l[i].toNat ∧ l[i].toNat ≤ 57
theorem grp_two (a b : Vector UInt8 32) (r : Nat) : Grp ((digits a r ++ digits b r).drop 1) := by
  have ho := (ok_digits a r).append (ok_digits b r) (by rw [digits_length])
  refine ⟨by simp [digits_length], fun i h => ?_⟩
  rw [List.getElem_drop]
  have := ho (1 + i) (by simp [digits_length] at h ⊢; omega)
  by_cases h5 : i % 6 = 5
  · rw [if_pos (by omega)] at this; rw [if_pos h5]; exact this
  · rw [if_neg (by omega)] at this; rw [if_neg h5]; exact this
theorem grp_safe (a b : Vector UInt8 32) (r : Nat) : Grp (safe a b r) := by
  unfold safe; split <;> exact grp_two _ _ _
theorem less_asymm : ∀ (l m : List UInt8), Op.bytesLess l m = true → Op.bytesLess m l = true → False
  | [], [], h, _ => by simp [Op.bytesLess] at h
  | [], _ :: _, _, h => by simp [Op.bytesLess] at h
  | _ :: _, [], h, _ => by simp [Op.bytesLess] at h
  | a :: l, b :: m, h1, h2 => by
    simp only [Op.bytesLess, Bool.or_eq_true, decide_eq_true_eq, Bool.and_eq_true, beq_iff_eq] at h1 h2
    rcases h1 with h1 | ⟨rfl, h1⟩
    · rcases h2 with h2 | ⟨rfl, h2⟩
      · exact UInt8.lt_irrefl _ (UInt8.lt_trans h1 h2)
      · exact UInt8.lt_irrefl _ h1
    · rcases h2 with h2 | ⟨_, h2⟩
      · exact UInt8.lt_irrefl _ h2
      · exact less_asymm l m h1 h2
theorem less_tri : ∀ (l m : List UInt8), l.length = m.length → Op.bytesLess l m = false → Op.bytesLess m l = false → l = m
  | [], [], _, _, _ => rfl
  | [], _ :: _, h, _, _ => by simp at h
  | _ :: _, [], h, _, _ => by simp at h
  | a :: l, b :: m, h, h1, h2 => by
    simp only [Op.bytesLess, Bool.or_eq_false_iff, decide_eq_false_iff_not, Bool.and_eq_false_iff, beq_eq_false_iff_ne] at h1 h2
    have e : a = b := UInt8.le_antisymm (UInt8.not_lt.1 h2.1) (UInt8.not_lt.1 h1.1)
    subst e
    have h3 := h1.2.resolve_left (by simp)
    have h4 := h2.2.resolve_left (by simp)
    rw [less_tri l m (by simpa using h) h3 h4]
theorem safe_comm (a b : Vector UInt8 32) (r : Nat) : safe a b r = safe b a r := by
  unfold safe
  by_cases h1 : Op.bytesLess b.toList a.toList = true
  · rw [if_pos h1, if_neg (fun h2 => less_asymm _ _ h1 h2)]
  · rw [if_neg h1]
    by_cases h2 : Op.bytesLess a.toList b.toList = true
    · rw [if_pos h2]
    · rw [if_neg h2]
      have e := less_tri a.toList b.toList (by simp) (by simpa using h2) (by simpa using h1)
      have e2 : a = b := by
        apply Vector.toList_inj.1
        exact e
      rw [e2]
theorem same_halves (a : Vector UInt8 32) (r : Nat) : (safe a a r).take 35 = (safe a a r).drop 36 := by
  unfold safe
  rw [ite_self]
  obtain ⟨t, h, hl⟩ := digits_head a r
  rw [h]
  simp only [List.cons_append, List.drop_succ_cons, List.drop_zero]
  rw [List.take_left' hl, show t ++ 32 :: t = (t ++ [32]) ++ t by simp, List.drop_left' (by simp [hl])]
set_option maxHeartbeats 1000000 in
set_option maxRecDepth 100000 in
theorem pgrouped {l : List UInt8} (h : Grp l) (w : World) : Calls Tryd.prog 8 #[.string ⟨l.toArray⟩] w fun e w' => e = .returned (.bool true) ∧ w' = w := by
  obtain ⟨hl, hg⟩ := h
  obtain ⟨s, hs⟩ : ∃ s : ByteArray, s = ⟨l.toArray⟩ := ⟨_, rfl⟩
  rw [← hs]
  have hsz : s.size = 71 := by rw [hs]; show l.toArray.size = 71; simpa using hl
  have HG := Lib.hid hg; have HS := Lib.hid hs; have HL := Lib.hid hl; clear hg hs hl
  go_enter Tryd.func8, Tryd.ntmps8
  go_wp2_with fail
  go_loop [3] (fun t => ∃ i : Nat, i ≤ 71 ∧ t = .int .i64 i) (fun t => 71 - (intOf t).toNat)
  case atStart => exact ⟨0, by omega, rfl⟩
  case round =>
    obtain ⟨i, hi, rfl⟩ := hrel
    by_cases hlt : i < 71
    · have hg := HG.out i (by rw [HL.out]; exact hlt)
      have hsi : s[i]'(by omega) = l[i]'(by rw [HL.out]; exact hlt) := by
        have : ∀ (q : ByteArray) (hq : q = ⟨l.toArray⟩) (h : i < q.size) (h2 : i < l.length), q[i] = l[i] := by
          intro q hq h h2; subst hq; rfl
        exact this s HS.out _ _
      rw [← hsi] at hg
      clear hsi
      by_cases h5 : i % 6 = 5
      · have h5' : (i : Int) % 6 = 5 := by omega
        rw [if_pos h5] at hg
        have e1 : ((s[i]'(by omega)).toNat : Int) = 32 := by rw [hg]; rfl
        go_wp2_with fail
        go_roundw
        case rel => exact ⟨i + 1, by omega, by go_num⟩
        case measure => simp [intOf]; omega
      · have h5' : ¬ (i : Int) % 6 = 5 := by omega
        rw [if_neg h5] at hg
        have e1 : ¬ ((s[i]'(by omega)).toNat : Int) < 48 := by omega
        have e2 : ¬ (57 : Int) < ((s[i]'(by omega)).toNat : Int) := by omega
        go_wp2_with fail
        go_roundw
        case rel => exact ⟨i + 1, by omega, by go_num⟩
        case measure => simp [intOf]; omega
    · obtain rfl : i = 71 := by omega
      go_wp2_with fail
      go_ret
      exact ⟨rfl, rfl⟩
end Go.Proofs.YtjlhicopinhiaaaDoor.Dm
