/- Schemas as plain data: what Valid and span compute, the program's and the reference's way. No program in sight; no conditions. -/
import Derived.Test.YtpfckpaokoifhaaGreatDoorPb
namespace Go.Proofs.YtpfckpaokoifhaaGreatDoor.Sc
set_option linter.unusedVariables false
set_option linter.unusedSimpArgs false

/-- A slot: number, kind, least, most, the schema within. -/
inductive Slot where
  | mk (no kind : Int) (least most : Nat) (sub : List Slot)
def Slot.no : Slot → Int | .mk n _ _ _ _ => n
def Slot.kind : Slot → Int | .mk _ k _ _ _ => k
def Slot.least : Slot → Nat | .mk _ _ l _ _ => l
def Slot.most : Slot → Nat | .mk _ _ _ m _ => m
def Slot.sub : Slot → List Slot | .mk _ _ _ _ s => s
instance : Inhabited Slot := ⟨.mk 0 0 0 0 []⟩

def bnd (t : Slot) : Bool :=
  if t.kind = 1 ∨ t.kind = 3 then decide (t.least ≤ t.most)
  else if t.kind = 2 then decide (t.least ≤ t.most) && decide (t.most ≤ 4294967295)
  else if t.kind = 4 ∨ t.kind = 8 then decide (t.least = 0) && decide (t.most = 0)
  else if t.kind = 5 ∨ t.kind = 6 then decide (t.least ≤ t.most) && decide (t.most ≤ 4194304)
  else if t.kind = 7 then decide (t.least = 0) && decide (t.most ≤ 9007199254740992)
  else if t.kind = 9 then decide (t.least ≤ t.most) && decide (t.most ≤ 4096)
  else false
def nest (t : Slot) : Bool := decide (t.kind = 8 ∨ t.kind = 9)
/-- The bounds, and that what has no schema within has none. -/
def fits (t : Slot) : Bool := bnd t && (nest t || t.sub.isEmpty)
def fine (t : Slot) (last : Int) : Bool := decide (last < t.no) && decide (t.no ≤ 536870911) && bnd t

theorem fine_no1 {t : Slot} {last : Int} (h : t.no ≤ last) : fine t last = false := by unfold fine; rw [decide_eq_false (by omega)]; rfl
theorem fine_no2 {t : Slot} {last : Int} (h : 536870911 < t.no) : fine t last = false := by unfold fine; rw [decide_eq_false (p := t.no ≤ 536870911) (by omega)]; simp
theorem fine_no3 {t : Slot} {last : Int} (h : bnd t = false) : fine t last = false := by unfold fine; rw [h]; simp
theorem fine_yes {t : Slot} {last : Int} (h1 : last < t.no) (h2 : t.no ≤ 536870911) (h3 : bnd t = true) : fine t last = true := by unfold fine; rw [decide_eq_true h1, decide_eq_true h2, h3]; rfl
/-- The slots from one on, behind a number, with so much room; f: what is within. -/
def canGo (f : List Slot → Nat → Option Nat) : List Slot → Int → Nat → Option Nat
  | [], _, room => some room
  | t :: r, last, room =>
    if room = 0 then none else if fine t last = false then none
    else if nest t then (match f t.sub (room - 1) with | none => none | some q => canGo f r t.no q)
    else if t.sub.isEmpty then canGo f r t.no (room - 1) else none
/-- How much room is left by a schema with so many levels left. -/
def canL : Nat → List Slot → Nat → Option Nat
  | 0, _, _ => none
  | k + 1, s, room => if 16 < s.length then none else canGo (canL k) s 0 room

theorem canGo_le (f : List Slot → Nat → Option Nat) (hf : ∀ s room r, f s room = some r → r ≤ room) : ∀ (s : List Slot) (last : Int) (room r : Nat), canGo f s last room = some r → r + s.length ≤ room
  | [], _, room, r, h => by simp only [canGo, Option.some.injEq] at h; simp; omega
  | t :: q, last, room, r, h => by
    simp only [canGo] at h
    split at h
    · cases h
    · split at h
      · cases h
      · split at h
        · split at h
          · cases h
          · rename_i x hx
            have h1 := hf _ _ _ hx
            have h2 := canGo_le f hf q _ _ _ h
            simp; omega
        · split at h
          · have h2 := canGo_le f hf q _ _ _ h
            simp; omega
          · cases h
theorem canL_le : ∀ (k : Nat) (s : List Slot) (room r : Nat), canL k s room = some r → r + s.length ≤ room
  | 0, _, _, _, h => by simp [canL] at h
  | k + 1, s, room, r, h => by
    simp only [canL] at h
    split at h
    · cases h
    · exact canGo_le _ (fun s room r hr => by have := canL_le k s room r hr; omega) s 0 room r h

/-- slotsLeft. -/
def slGo (f : List Slot → Int → Int) : List Slot → Int → Int
  | [], left => left
  | t :: r, left => if 0 ≤ left then slGo f r (f t.sub (left - 1)) else left
def sl : Nat → List Slot → Int → Int
  | 0, _, left => left
  | n + 1, s, left => slGo (sl n) s left
theorem slGo_neg (f : List Slot → Int → Int) (s : List Slot) (left : Int) (h : left < 0) : slGo f s left = left := by
  cases s with
  | nil => rfl
  | cons t r => simp only [slGo]; rw [if_neg (by omega)]
theorem slGo_le (f : List Slot → Int → Int) (hf : ∀ s left, f s left ≤ left) : ∀ (s : List Slot) (left : Int), slGo f s left ≤ left
  | [], left => by simp [slGo]
  | t :: r, left => by
    simp only [slGo]
    split
    · have h1 := slGo_le f hf r (f t.sub (left - 1))
      have h2 := hf t.sub (left - 1)
      omega
    · omega
theorem sl_le : ∀ (n : Nat) (s : List Slot) (left : Int), sl n s left ≤ left
  | 0, _, left => by simp [sl]
  | n + 1, s, left => slGo_le _ (sl_le n) s left
theorem slGo_ge (f : List Slot → Int → Int) (hf : ∀ s left, -1 ≤ left → -1 ≤ f s left) : ∀ (s : List Slot) (left : Int), -1 ≤ left → -1 ≤ slGo f s left
  | [], left, h => by simpa [slGo] using h
  | t :: r, left, h => by
    simp only [slGo]
    split
    · exact slGo_ge f hf r _ (hf _ _ (by omega))
    · exact h
theorem sl_ge : ∀ (n : Nat) (s : List Slot) (left : Int), -1 ≤ left → -1 ≤ sl n s left
  | 0, _, left, h => by simpa [sl] using h
  | n + 1, s, left, h => slGo_ge _ (sl_ge n) s left h
theorem slGo_drop (f : List Slot → Int → Int) (l : List Slot) (i : Nat) (left : Int) (h : i < l.length) (h0 : 0 ≤ left) : slGo f (l.drop i) left = slGo f (l.drop (i + 1)) (f l[i].sub (left - 1)) := by
  rw [List.drop_eq_getElem_cons h]
  simp only [slGo]
  rw [if_pos h0]
theorem slGo_can (f : List Slot → Int → Int) (g : List Slot → Nat → Option Nat) (hg : ∀ s room r, g s room = some r → r ≤ room) (hf0 : ∀ left, f [] left = left)
    (h : ∀ s room r left, g s room = some r → (room : Int) ≤ left → left - (room - r) ≤ f s left) :
    ∀ (s : List Slot) (last : Int) (room r : Nat) (left : Int), canGo g s last room = some r → (room : Int) ≤ left → left - (room - r) ≤ slGo f s left
  | [], _, room, r, left, hc, hl => by simp only [canGo, Option.some.injEq] at hc; simp [slGo]; omega
  | t :: q, last, room, r, left, hc, hl => by
    simp only [canGo] at hc
    split at hc
    · cases hc
    · split at hc
      · cases hc
      · simp only [slGo]
        rw [if_pos (by omega)]
        split at hc
        · split at hc
          · cases hc
          · rename_i x hx
            have h1 := h t.sub (room - 1) x (left - 1) hx (by omega)
            have h2 := hg _ _ _ hx
            have h3 := canGo_le g hg q _ _ _ hc
            have h4 := slGo_can f g hg hf0 h q _ x r (f t.sub (left - 1)) hc (by omega)
            omega
        · split at hc
          · rename_i he
            have h3 := canGo_le g hg q _ _ _ hc
            have h4 := slGo_can f g hg hf0 h q _ (room - 1) r (left - 1) hc (by omega)
            rw [List.isEmpty_iff.1 he, hf0]
            omega
          · cases hc
theorem sl_nil : ∀ (n : Nat) (left : Int), sl n [] left = left
  | 0, _ => rfl
  | n + 1, _ => rfl
theorem sl_can : ∀ (k n : Nat) (s : List Slot) (room r : Nat) (left : Int), canL k s room = some r → (room : Int) ≤ left → left - (room - r) ≤ sl n s left
  | 0, _, _, _, _, _, h, _ => by simp [canL] at h
  | k + 1, 0, s, room, r, left, h, hl => by
    have := canL_le _ _ _ _ h
    simp only [sl]; omega
  | k + 1, n + 1, s, room, r, left, h, hl => by
    simp only [canL] at h
    split at h
    · cases h
    · exact slGo_can (sl n) (canL k) (fun s room r hr => by have := canL_le k s room r hr; omega) (sl_nil n) (fun s room r left => sl_can k n s room r left) s 0 room r left h hl
/-- What is too big can't be. -/
theorem big_none (k n : Nat) (s : List Slot) (h : sl n s 10000 < 0) : canL k s 256 = none := by
  cases hc : canL k s 256 with
  | none => rfl
  | some r =>
    have := sl_can k n s 256 r 10000 hc (by omega)
    omega

/-- Is there one ahead that isn't less? -/
def behind (no : Int) : Option Int → Bool
  | some p => decide (no ≤ p)
  | none => false
/-- What a slot leaves. -/
def next (f : List Slot → Int → Int) (t : Slot) (room : Int) : Int := if nest t = true ∧ 0 ≤ room - 1 then f t.sub (room - 1) else room - 1
/-- The reference's left: what is left of the room, -1 where it can't be. -/
def leftGo (f : List Slot → Int → Int) (last : Option Int) : List Slot → Int → Int
  | [], room => room
  | t :: r, room =>
    if room < 0 then room else
    if t.no < 1 ∨ 536870911 < t.no ∨ behind t.no last = true ∨ fits t = false then -1
    else leftGo f (some t.no) r (next f t room)
def leftL : Nat → List Slot → Int → Int
  | 0, _, _ => -1
  | k + 1, s, room => if 16 < s.length then -1 else leftGo (leftL k) none s room
def back : Option Nat → Int
  | none => -1
  | some r => r
theorem leftGo_neg (f : List Slot → Int → Int) (last : Option Int) (s : List Slot) (room : Int) (h : room < 0) : leftGo f last s room = room := by
  cases s with
  | nil => rfl
  | cons t r => simp only [leftGo]; rw [if_pos h]
theorem fine_iff (t : Slot) (p : Int) (h : 0 ≤ p) : fine t p = true ↔ (1 ≤ t.no ∧ t.no ≤ 536870911 ∧ p < t.no ∧ bnd t = true) := by
  simp only [fine, Bool.and_eq_true, decide_eq_true_eq]
  constructor
  · rintro ⟨⟨h1, h2⟩, h3⟩; exact ⟨by omega, h2, h1, h3⟩
  · rintro ⟨_, h2, h1, h3⟩; exact ⟨⟨h1, h2⟩, h3⟩
theorem no_way {t : Slot} {p : Int} {last : Option Int} (hno : 1 ≤ t.no ∧ t.no ≤ 536870911 ∧ p < t.no) (hp : match last with | some q => q = p | none => p = 0) (hft : fits t = true) :
    ¬ (t.no < 1 ∨ 536870911 < t.no ∨ behind t.no last = true ∨ fits t = false) := by
  rintro (h1 | h1 | h1 | h1)
  · omega
  · omega
  · cases last with
    | none => simp [behind] at h1
    | some x => simp [behind] at h1 hp; omega
  · rw [hft] at h1; cases h1
theorem leftGo_can (f : List Slot → Int → Int) (g : List Slot → Nat → Option Nat) (h : ∀ s (room : Nat), f s room = back (g s room)) :
    ∀ (s : List Slot) (p : Int) (last : Option Int) (room : Nat), 0 ≤ p → (match last with | some q => q = p | none => p = 0) → leftGo f last s room = back (canGo g s p room)
  | [], p, last, room, _, _ => by simp [leftGo, canGo, back]
  | t :: q, p, last, room, h0, hp => by
    simp only [leftGo, canGo]
    rw [if_neg (by omega)]
    by_cases hno : 1 ≤ t.no ∧ t.no ≤ 536870911 ∧ p < t.no
    · by_cases hb : bnd t = true
      · by_cases hn : nest t = true
        · have hft : fits t = true := by simp [fits, hb, hn]
          have hfi : fine t p = true := (fine_iff t p h0).2 ⟨hno.1, hno.2.1, hno.2.2, hb⟩
          rw [if_neg (no_way hno hp hft)]
          by_cases hr : room = 0
          · subst hr
            rw [if_pos rfl, leftGo_neg _ _ _ _ (by unfold next; rw [if_neg (by omega)]; simp)]
            unfold next; rw [if_neg (by omega)]; rfl
          · rw [if_neg hr, if_neg (by simp [hfi]), if_pos hn]
            have e : ((room : Int) - 1) = ((room - 1 : Nat) : Int) := by omega
            unfold next
            rw [if_pos ⟨hn, by omega⟩, e, h]
            cases hg : g t.sub (room - 1) with
            | none => rw [leftGo_neg _ _ _ _ (by simp [back])]
            | some x => exact leftGo_can f g h q t.no (some t.no) x (by omega) rfl
        · have hn' : nest t = false := by simpa using hn
          by_cases hs : t.sub.isEmpty = true
          · have hft : fits t = true := by simp [fits, hb, hs]
            have hfi : fine t p = true := (fine_iff t p h0).2 ⟨hno.1, hno.2.1, hno.2.2, hb⟩
            rw [if_neg (no_way hno hp hft)]
            by_cases hr : room = 0
            · subst hr
              rw [if_pos rfl, leftGo_neg _ _ _ _ (by unfold next; rw [if_neg (fun h => hn h.1)]; simp)]
              unfold next; rw [if_neg (fun h => hn h.1)]; rfl
            · rw [if_neg hr, if_neg (by simp [hfi]), if_neg hn, if_pos hs]
              unfold next
              rw [if_neg (fun h => hn h.1)]
              have e : ((room : Int) - 1) = ((room - 1 : Nat) : Int) := by omega
              rw [e]
              exact leftGo_can f g h q t.no (some t.no) (room - 1) (by omega) rfl
          · have hft : fits t = false := by simp [fits, hn', hs]
            rw [if_pos (.inr (.inr (.inr hft)))]
            by_cases hr : room = 0
            · rw [if_pos hr]; rfl
            · rw [if_neg hr]
              split
              · rfl
              · rfl
      · have hft : fits t = false := by simp [fits, hb]
        have hfi : fine t p = false := by
          cases hx : fine t p with
          | false => rfl
          | true => exact absurd ((fine_iff t p h0).1 hx).2.2.2 hb
        rw [if_pos (.inr (.inr (.inr hft))), hfi]
        by_cases hr : room = 0
        · rw [if_pos hr]; rfl
        · rw [if_neg hr, if_pos rfl]; rfl
    · have hfi : fine t p = false := by
        cases hx : fine t p with
        | false => rfl
        | true => have := (fine_iff t p h0).1 hx; omega
      rw [if_pos (by
        by_cases h1 : t.no < 1
        · exact .inl h1
        · by_cases h2 : 536870911 < t.no
          · exact .inr (.inl h2)
          · cases last with
            | none => simp at hp; omega
            | some x => simp at hp; exact .inr (.inr (.inl (by simp [behind]; omega)))), hfi]
      by_cases hr : room = 0
      · rw [if_pos hr]; rfl
      · rw [if_neg hr, if_pos rfl]; rfl
theorem left_can : ∀ (k : Nat) (s : List Slot) (room : Nat), leftL k s room = back (canL k s room)
  | 0, _, _ => rfl
  | k + 1, s, room => by
    simp only [leftL, canL]
    split
    · rfl
    · exact leftGo_can (leftL k) (canL k) (left_can k) s 0 none room (by omega) rfl
end Go.Proofs.YtpfckpaokoifhaaGreatDoor.Sc
