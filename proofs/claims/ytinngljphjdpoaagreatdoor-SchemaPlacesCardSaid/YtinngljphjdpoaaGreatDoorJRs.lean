/- Schemas as plain data: what Valid and span compute, the program's and the reference's way. No program in sight; no conditions. -/
import Derived.Test.YtinngljphjdpoaaGreatDoorJPl
import Derived.Deep.Slices
import Derived.Deep.Fields
import Derived.ChangeSame
namespace Go.Proofs.YtinngljphjdpoaaGreatDoor.Sc
set_option linter.unusedVariables false
set_option linter.unusedSimpArgs false

/-- A slot: number, kind, least, most, the schema within. -/
inductive Slot where
  | mk (no kind : Int) (least most : Nat) (sub : List Slot)
def Slot.no : Slot → Int | .mk n _ _ _ _ => n
def Slot.kind : Slot → Int | .mk _ k _ _ _ => k
def Slot.least : Slot → Nat | .mk _ _ l _ _ => l
def Slot.most : Slot → Nat | .mk _ _ _ m _ => m
def Slot.sub : Slot → List Slot | .mk _ _ _ _ s => s
instance : Inhabited Slot := ⟨.mk 0 0 0 0 []⟩

def bnd (t : Slot) : Bool :=
  if t.kind = 1 ∨ t.kind = 3 then decide (t.least ≤ t.most)
  else if t.kind = 2 then decide (t.least ≤ t.most) && decide (t.most ≤ 4294967295)
  else if t.kind = 4 ∨ t.kind = 8 then decide (t.least = 0) && decide (t.most = 0)
  else if t.kind = 5 ∨ t.kind = 6 then decide (t.least ≤ t.most) && decide (t.most ≤ 4194304)
  else if t.kind = 7 then decide (t.least = 0) && decide (t.most ≤ 9007199254740992)
  else if t.kind = 9 then decide (t.least ≤ t.most) && decide (t.most ≤ 4096)
  else false
def nest (t : Slot) : Bool := decide (t.kind = 8 ∨ t.kind = 9)
/-- The bounds, and that what has no schema within has none. -/
def fits (t : Slot) : Bool := bnd t && (nest t || t.sub.isEmpty)
def fine (t : Slot) (last : Int) : Bool := decide (last < t.no) && decide (t.no ≤ 536870911) && bnd t

theorem fine_no1 {t : Slot} {last : Int} (h : t.no ≤ last) : fine t last = false := by unfold fine; rw [decide_eq_false (by omega)]; rfl
theorem fine_no2 {t : Slot} {last : Int} (h : 536870911 < t.no) : fine t last = false := by unfold fine; rw [decide_eq_false (p := t.no ≤ 536870911) (by omega)]; simp
theorem fine_no3 {t : Slot} {last : Int} (h : bnd t = false) : fine t last = false := by unfold fine; rw [h]; simp
theorem fine_yes {t : Slot} {last : Int} (h1 : last < t.no) (h2 : t.no ≤ 536870911) (h3 : bnd t = true) : fine t last = true := by unfold fine; rw [decide_eq_true h1, decide_eq_true h2, h3]; rfl
/-- The slots from one on, behind a number, with so much room; f: what is within. -/
def canGo (f : List Slot → Nat → Option Nat) : List Slot → Int → Nat → Option Nat
  | [], _, room => some room
  | t :: r, last, room =>
    if room = 0 then none else if fine t last = false then none
    else if nest t then (match f t.sub (room - 1) with | none => none | some q => canGo f r t.no q)
    else if t.sub.isEmpty then canGo f r t.no (room - 1) else none
/-- How much room is left by a schema with so many levels left. -/
def canL : Nat → List Slot → Nat → Option Nat
  | 0, _, _ => none
  | k + 1, s, room => if 16 < s.length then none else canGo (canL k) s 0 room

theorem canGo_le (f : List Slot → Nat → Option Nat) (hf : ∀ s room r, f s room = some r → r ≤ room) : ∀ (s : List Slot) (last : Int) (room r : Nat), canGo f s last room = some r → r + s.length ≤ room
  | [], _, room, r, h => by simp only [canGo, Option.some.injEq] at h; simp; omega
  | t :: q, last, room, r, h => by
    simp only [canGo] at h
    split at h
    · cases h
    · split at h
      · cases h
      · split at h
        · split at h
          · cases h
          · rename_i x hx
            have h1 := hf _ _ _ hx
            have h2 := canGo_le f hf q _ _ _ h
            simp; omega
        · split at h
          · have h2 := canGo_le f hf q _ _ _ h
            simp; omega
          · cases h
theorem canL_le : ∀ (k : Nat) (s : List Slot) (room r : Nat), canL k s room = some r → r + s.length ≤ room
  | 0, _, _, _, h => by simp [canL] at h
  | k + 1, s, room, r, h => by
    simp only [canL] at h
    split at h
    · cases h
    · exact canGo_le _ (fun s room r hr => by have := canL_le k s room r hr; omega) s 0 room r h

/-- slotsLeft. -/
def slGo (f : List Slot → Int → Int) : List Slot → Int → Int
  | [], left => left
  | t :: r, left => if 0 ≤ left then slGo f r (f t.sub (left - 1)) else left
def sl : Nat → List Slot → Int → Int
  | 0, _, left => left
  | n + 1, s, left => slGo (sl n) s left
theorem slGo_neg (f : List Slot → Int → Int) (s : List Slot) (left : Int) (h : left < 0) : slGo f s left = left := by
  cases s with
  | nil => rfl
  | cons t r => simp only [slGo]; rw [if_neg (by omega)]
theorem slGo_le (f : List Slot → Int → Int) (hf : ∀ s left, f s left ≤ left) : ∀ (s : List Slot) (left : Int), slGo f s left ≤ left
  | [], left => by simp [slGo]
  | t :: r, left => by
    simp only [slGo]
    split
    · have h1 := slGo_le f hf r (f t.sub (left - 1))
      have h2 := hf t.sub (left - 1)
      omega
    · omega
theorem sl_le : ∀ (n : Nat) (s : List Slot) (left : Int), sl n s left ≤ left
  | 0, _, left => by simp [sl]
  | n + 1, s, left => slGo_le _ (sl_le n) s left
theorem slGo_ge (f : List Slot → Int → Int) (hf : ∀ s left, -1 ≤ left → -1 ≤ f s left) : ∀ (s : List Slot) (left : Int), -1 ≤ left → -1 ≤ slGo f s left
  | [], left, h => by simpa [slGo] using h
  | t :: r, left, h => by
    simp only [slGo]
    split
    · exact slGo_ge f hf r _ (hf _ _ (by omega))
    · exact h
theorem sl_ge : ∀ (n : Nat) (s : List Slot) (left : Int), -1 ≤ left → -1 ≤ sl n s left
  | 0, _, left, h => by simpa [sl] using h
  | n + 1, s, left, h => slGo_ge _ (sl_ge n) s left h
theorem slGo_drop (f : List Slot → Int → Int) (l : List Slot) (i : Nat) (left : Int) (h : i < l.length) (h0 : 0 ≤ left) : slGo f (l.drop i) left = slGo f (l.drop (i + 1)) (f l[i].sub (left - 1)) := by
  rw [List.drop_eq_getElem_cons h]
  simp only [slGo]
  rw [if_pos h0]
theorem slGo_can (f : List Slot → Int → Int) (g : List Slot → Nat → Option Nat) (hg : ∀ s room r, g s room = some r → r ≤ room) (hf0 : ∀ left, f [] left = left)
    (h : ∀ s room r left, g s room = some r → (room : Int) ≤ left → left - (room - r) ≤ f s left) :
    ∀ (s : List Slot) (last : Int) (room r : Nat) (left : Int), canGo g s last room = some r → (room : Int) ≤ left → left - (room - r) ≤ slGo f s left
  | [], _, room, r, left, hc, hl => by simp only [canGo, Option.some.injEq] at hc; simp [slGo]; omega
  | t :: q, last, room, r, left, hc, hl => by
    simp only [canGo] at hc
    split at hc
    · cases hc
    · split at hc
      · cases hc
      · simp only [slGo]
        rw [if_pos (by omega)]
        split at hc
        · split at hc
          · cases hc
          · rename_i x hx
            have h1 := h t.sub (room - 1) x (left - 1) hx (by omega)
            have h2 := hg _ _ _ hx
            have h3 := canGo_le g hg q _ _ _ hc
            have h4 := slGo_can f g hg hf0 h q _ x r (f t.sub (left - 1)) hc (by omega)
            omega
        · split at hc
          · rename_i he
            have h3 := canGo_le g hg q _ _ _ hc
            have h4 := slGo_can f g hg hf0 h q _ (room - 1) r (left - 1) hc (by omega)
            rw [List.isEmpty_iff.1 he, hf0]
            omega
          · cases hc
theorem sl_nil : ∀ (n : Nat) (left : Int), sl n [] left = left
  | 0, _ => rfl
  | n + 1, _ => rfl
theorem sl_can : ∀ (k n : Nat) (s : List Slot) (room r : Nat) (left : Int), canL k s room = some r → (room : Int) ≤ left → left - (room - r) ≤ sl n s left
  | 0, _, _, _, _, _, h, _ => by simp [canL] at h
  | k + 1, 0, s, room, r, left, h, hl => by
    have := canL_le _ _ _ _ h
    simp only [sl]; omega
  | k + 1, n + 1, s, room, r, left, h, hl => by
    simp only [canL] at h
    split at h
    · cases h
    · exact slGo_can (sl n) (canL k) (fun s room r hr => by have := canL_le k s room r hr; omega) (sl_nil n) (fun s room r left => sl_can k n s room r left) s 0 room r left h hl
/-- What is too big can't be. -/
theorem big_none (k n : Nat) (s : List Slot) (h : sl n s 10000 < 0) : canL k s 256 = none := by
  cases hc : canL k s 256 with
  | none => rfl
  | some r =>
    have := sl_can k n s 256 r 10000 hc (by omega)
    omega

/-- Is there one ahead that isn't less? -/
def behind (no : Int) : Option Int → Bool
  | some p => decide (no ≤ p)
  | none => false
/-- What a slot leaves. -/
def next (f : List Slot → Int → Int) (t : Slot) (room : Int) : Int := if nest t = true ∧ 0 ≤ room - 1 then f t.sub (room - 1) else room - 1
/-- The reference's left: what is left of the room, -1 where it can't be. -/
def leftGo (f : List Slot → Int → Int) (last : Option Int) : List Slot → Int → Int
  | [], room => room
  | t :: r, room =>
    if room < 0 then room else
    if t.no < 1 ∨ 536870911 < t.no ∨ behind t.no last = true ∨ fits t = false then -1
    else leftGo f (some t.no) r (next f t room)
def leftL : Nat → List Slot → Int → Int
  | 0, _, _ => -1
  | k + 1, s, room => if 16 < s.length then -1 else leftGo (leftL k) none s room
def back : Option Nat → Int
  | none => -1
  | some r => r
theorem leftGo_neg (f : List Slot → Int → Int) (last : Option Int) (s : List Slot) (room : Int) (h : room < 0) : leftGo f last s room = room := by
  cases s with
  | nil => rfl
  | cons t r => simp only [leftGo]; rw [if_pos h]
theorem fine_iff (t : Slot) (p : Int) (h : 0 ≤ p) : fine t p = true ↔ (1 ≤ t.no ∧ t.no ≤ 536870911 ∧ p < t.no ∧ bnd t = true) := by
  simp only [fine, Bool.and_eq_true, decide_eq_true_eq]
  constructor
  · rintro ⟨⟨h1, h2⟩, h3⟩; exact ⟨by omega, h2, h1, h3⟩
  · rintro ⟨_, h2, h1, h3⟩; exact ⟨⟨h1, h2⟩, h3⟩
theorem no_way {t : Slot} {p : Int} {last : Option Int} (hno : 1 ≤ t.no ∧ t.no ≤ 536870911 ∧ p < t.no) (hp : match last with | some q => q = p | none => p = 0) (hft : fits t = true) :
    ¬ (t.no < 1 ∨ 536870911 < t.no ∨ behind t.no last = true ∨ fits t = false) := by
  rintro (h1 | h1 | h1 | h1)
  · omega
  · omega
  · cases last with
    | none => simp [behind] at h1
    | some x => simp [behind] at h1 hp; omega
  · rw [hft] at h1; cases h1
theorem leftGo_can (f : List Slot → Int → Int) (g : List Slot → Nat → Option Nat) (h : ∀ s (room : Nat), f s room = back (g s room)) :
    ∀ (s : List Slot) (p : Int) (last : Option Int) (room : Nat), 0 ≤ p → (match last with | some q => q = p | none => p = 0) → leftGo f last s room = back (canGo g s p room)
  | [], p, last, room, _, _ => by simp [leftGo, canGo, back]
  | t :: q, p, last, room, h0, hp => by
    simp only [leftGo, canGo]
    rw [if_neg (by omega)]
    by_cases hno : 1 ≤ t.no ∧ t.no ≤ 536870911 ∧ p < t.no
    · by_cases hb : bnd t = true
      · by_cases hn : nest t = true
        · have hft : fits t = true := by simp [fits, hb, hn]
          have hfi : fine t p = true := (fine_iff t p h0).2 ⟨hno.1, hno.2.1, hno.2.2, hb⟩
          rw [if_neg (no_way hno hp hft)]
          by_cases hr : room = 0
          · subst hr
            rw [if_pos rfl, leftGo_neg _ _ _ _ (by unfold next; rw [if_neg (by omega)]; simp)]
            unfold next; rw [if_neg (by omega)]; rfl
          · rw [if_neg hr, if_neg (by simp [hfi]), if_pos hn]
            have e : ((room : Int) - 1) = ((room - 1 : Nat) : Int) := by omega
            unfold next
            rw [if_pos ⟨hn, by omega⟩, e, h]
            cases hg : g t.sub (room - 1) with
            | none => rw [leftGo_neg _ _ _ _ (by simp [back])]
            | some x => exact leftGo_can f g h q t.no (some t.no) x (by omega) rfl
        · have hn' : nest t = false := by simpa using hn
          by_cases hs : t.sub.isEmpty = true
          · have hft : fits t = true := by simp [fits, hb, hs]
            have hfi : fine t p = true := (fine_iff t p h0).2 ⟨hno.1, hno.2.1, hno.2.2, hb⟩
            rw [if_neg (no_way hno hp hft)]
            by_cases hr : room = 0
            · subst hr
              rw [if_pos rfl, leftGo_neg _ _ _ _ (by unfold next; rw [if_neg (fun h => hn h.1)]; simp)]
              unfold next; rw [if_neg (fun h => hn h.1)]; rfl
            · rw [if_neg hr, if_neg (by simp [hfi]), if_neg hn, if_pos hs]
              unfold next
              rw [if_neg (fun h => hn h.1)]
              have e : ((room : Int) - 1) = ((room - 1 : Nat) : Int) := by omega
              rw [e]
              exact leftGo_can f g h q t.no (some t.no) (room - 1) (by omega) rfl
          · have hft : fits t = false := by simp [fits, hn', hs]
            rw [if_pos (.inr (.inr (.inr hft)))]
            by_cases hr : room = 0
            · rw [if_pos hr]; rfl
            · rw [if_neg hr]
              split
              · rfl
              · rfl
      · have hft : fits t = false := by simp [fits, hb]
        have hfi : fine t p = false := by
          cases hx : fine t p with
          | false => rfl
          | true => exact absurd ((fine_iff t p h0).1 hx).2.2.2 hb
        rw [if_pos (.inr (.inr (.inr hft))), hfi]
        by_cases hr : room = 0
        · rw [if_pos hr]; rfl
        · rw [if_neg hr, if_pos rfl]; rfl
    · have hfi : fine t p = false := by
        cases hx : fine t p with
        | false => rfl
        | true => have := (fine_iff t p h0).1 hx; omega
      rw [if_pos (by
        by_cases h1 : t.no < 1
        · exact .inl h1
        · by_cases h2 : 536870911 < t.no
          · exact .inr (.inl h2)
          · cases last with
            | none => simp at hp; omega
            | some x => simp at hp; exact .inr (.inr (.inl (by simp [behind]; omega)))), hfi]
      by_cases hr : room = 0
      · rw [if_pos hr]; rfl
      · rw [if_neg hr, if_pos rfl]; rfl
theorem left_can : ∀ (k : Nat) (s : List Slot) (room : Nat), leftL k s room = back (canL k s room)
  | 0, _, _ => rfl
  | k + 1, s, room => by
    simp only [leftL, canL]
    split
    · rfl
    · exact leftGo_can (leftL k) (canL k) (left_can k) s 0 none room (by omega) rfl
end Go.Proofs.YtinngljphjdpoaaGreatDoor.Sc
/- Slices of slots in memory: what reads as a schema; such an argument opened. No program in sight; no conditions. -/
namespace Go.Proofs.YtinngljphjdpoaaGreatDoor.Rs
open Go Go.RowKit Go.ChangeShapes Go.WideShapes Go.Deep Go.Proofs.YtinngljphjdpoaaGreatDoor.Pa Go.Proofs.YtinngljphjdpoaaGreatDoor.Pb Go.Proofs.YtinngljphjdpoaaGreatDoor.Pf Go.Proofs.YtinngljphjdpoaaGreatDoor.Sc
set_option linter.unusedVariables false
set_option linter.unusedSimpArgs false

/-- The five cells of a slot at an address. -/
structure SlotAt (w : World) (p : Addr) (t : Slot) (sv : Value) : Prop where
  no : w.cell? p = some (.int .i64 t.no)
  kind : w.cell? ⟨p.block, p.off + 1, none⟩ = some (.int .i64 t.kind)
  least : w.cell? ⟨p.block, p.off + 2, none⟩ = some (.int .u64 t.least)
  most : w.cell? ⟨p.block, p.off + 3, none⟩ = some (.int .u64 t.most)
  sub : w.cell? ⟨p.block, p.off + 4, none⟩ = some sv
/-- The numbers are such as their types have. -/
structure WfS (t : Slot) : Prop where
  no1 : -9223372036854775808 ≤ t.no
  no2 : t.no ≤ 9223372036854775807
  kind1 : -9223372036854775808 ≤ t.kind
  kind2 : t.kind ≤ 9223372036854775807
  least : t.least < 18446744073709551616
  most : t.most < 18446744073709551616
/-- The slice value v reads as the slots l, less than n levels deep. -/
def RdS (w : World) : Nat → Value → List Slot → Prop
  | 0, _, _ => False
  | n + 1, v, l => ∃ (A : Option Addr) (c : Nat), v = .slice A l.length c ∧ l.length ≤ c ∧ c ≤ maxLen ∧
      (0 < l.length → ∃ ad, A = some ad ∧ ∀ i t, l[i]? = some t → WfS t ∧ ∃ sv, SlotAt w (ad.add (i * 5)) t sv ∧ RdS w n sv t.sub)

section
variable {w w' : World} {n : Nat} {v : Value} {l : List Slot}
theorem block_add (a : Addr) (n : Nat) : (a.add n).block = a.block := by unfold Addr.add; split <;> rfl
theorem SlotAt.keep {p : Addr} {t : Slot} {sv : Value} (h : SlotAt w p t sv) (hk : w'.heap[p.block]? = w.heap[p.block]?) : SlotAt w' p t sv := by
  have k : ∀ q : Addr, q.block = p.block → w'.cell? q = w.cell? q := fun q hq => World.cell?_of_block (by rw [hq]; exact hk)
  exact ⟨(k p rfl).trans h.no, (k ⟨p.block, p.off + 1, none⟩ rfl).trans h.kind, (k ⟨p.block, p.off + 2, none⟩ rfl).trans h.least, (k ⟨p.block, p.off + 3, none⟩ rfl).trans h.most, (k ⟨p.block, p.off + 4, none⟩ rfl).trans h.sub⟩
theorem SlotAt.lt {p : Addr} {t : Slot} {sv : Value} (h : SlotAt w p t sv) : p.block < w.heap.size := World.block_lt_of_cell? w _ h.no
theorem add_lit (a : Addr) (i j : Nat) (hj : 0 < j) : a.add (i + j) = ⟨(a.add i).block, (a.add i).off + j, none⟩ := by
  rw [← Go.Deep.add_add]
  generalize a.add i = p
  unfold Addr.add
  rw [if_neg (by omega)]
/-- All that is read lies in blocks of which nothing turned. -/
theorem RdS.keep : ∀ (n : Nat) (v : Value) (l : List Slot), RdS w n v l → (∀ k, k < w.heap.size → w'.heap[k]? = w.heap[k]?) → RdS w' n v l
  | 0, _, _, h, _ => h.elim
  | n + 1, v, l, h, hk => by
    obtain ⟨A, c, e, h1, h2, h3⟩ := h
    refine ⟨A, c, e, h1, h2, fun h0 => ?_⟩
    obtain ⟨ad, ha, hc⟩ := h3 h0
    refine ⟨ad, ha, fun i t ht => ?_⟩
    obtain ⟨hw, sv, hs, hr⟩ := hc i t ht
    exact ⟨hw, sv, hs.keep (hk _ hs.lt), RdS.keep n sv t.sub hr hk⟩
theorem RdS.below (h : RdS w n v l) (hb : Below w.heap.size w w') : RdS w' n v l := RdS.keep n v l h hb.block
theorem RdS.slice (h : RdS w n v l) : ∃ A c, v = .slice A l.length c ∧ l.length ≤ c ∧ c ≤ maxLen := by
  cases n with
  | zero => exact h.elim
  | succ n => obtain ⟨A, c, e, h1, h2, _⟩ := h; exact ⟨A, c, e, h1, h2⟩
theorem RdS.at_ {A : Option Addr} {m c : Nat} (h : RdS w (n + 1) (.slice A m c) l) (i : Nat) (hi : i < l.length) : ∃ ad, A = some ad ∧ WfS l[i] ∧ ∃ sv, SlotAt w (ad.add (i * 5)) l[i] sv ∧ RdS w n sv l[i].sub := by
  obtain ⟨A', c', e, h1, h2, h3⟩ := h
  simp only [Value.slice.injEq] at e
  obtain ⟨rfl, rfl, rfl⟩ := e
  obtain ⟨ad, ha, hc⟩ := h3 (by omega)
  exact ⟨ad, ha, hc i _ (by simp [hi])⟩
theorem RdS.pos (h : RdS w n v l) : ∃ m, n = m + 1 := by
  cases n with
  | zero => exact h.elim
  | succ n => exact ⟨n, rfl⟩
theorem RdS.nil (w : World) (n : Nat) : RdS w (n + 1) (.slice none 0 0) [] := ⟨none, 0, rfl, by simp, by simp [maxLen], fun h => absurd h (by simp)⟩
end

section
variable {H : Type} {enc : TypeId × Value → H} {P : Program} {w : World} {base : Nat} {spare : Nat → Bool} {held : Bool}
theorem open_slice_fields {t e : TypeId} {fs : Array Field} {fuel : Nat} {cs : List Value} {x : DataW H × List MemPlace} (ht : P.underlying t = some (.slice e)) (he : P.underlying e = some (.struct fs))
    (hone : oneCellFields P fs = true) (hC : P.cellsOf e = fs.size) (h : DataW.trod enc P w base spare held (fuel + 1) t cs = some x) :
    (cs = [.slice none 0 0] ∧ x = (.nil, [])) ∨
    ∃ (a : Addr) (len cap : Nat), cs = [.slice (some a) len cap] ∧ len ≤ cap ∧ cap ≤ maxLen ∧
      ∀ i, i < len → ∃ (n : Nat), n ≤ fuel ∧
        ∀ (j : Nat) (f : Field), fs[j]? = some f → ∃ (v : Value) (y : DataW H × List MemPlace), w.cell? (a.add (i * fs.size + j)) = some v ∧ DataW.trod enc P w base spare held n f.type [v] = some y := by
  rcases DataW.trod_slice ht h with h0 | ⟨a, len, cap, elems, rest, n, hn, rfl, rfl, hb, hl, hm, hlen, hel, hsp, hns⟩
  · exact .inl h0
  · refine .inr ⟨a, len, cap, rfl, hl, hm, fun i hi => ?_⟩
    have key := hel i hi
    rw [List.getElem?_eq_getElem (by omega)] at key
    obtain ⟨cs', hc, ht'⟩ := Option.bind_eq_some_iff.1 key
    rw [hC] at hc
    obtain ⟨ys, n', hn', hy, hlen', hyl, hf⟩ := DataW.trod_struct he ht'
    obtain ⟨_, hcl, hat⟩ := World.cells?_some hc
    refine ⟨n', by omega, fun j f hj => ?_⟩
    obtain ⟨ho, hk⟩ := hone_of hone j f hj
    have hjl : j < fs.size := (Array.getElem?_eq_some_iff.1 hj).1
    have hcell := hat j hjl
    have hv : cs'[j]? = some (cs'[j]'(by omega)) := List.getElem?_eq_getElem (by omega)
    have h1 := hf j f hj
    rw [ho, hk] at h1
    have hone' : (cs'.drop j).take 1 = [cs'[j]'(by omega)] := by
      rw [List.drop_eq_getElem_cons (by omega)]
      rfl
    rw [hone'] at h1
    have hys : ys[j]? = some (ys[j]'(by omega)) := List.getElem?_eq_getElem (by omega)
    refine ⟨_, _, ?_, h1.trans hys⟩
    rw [← Go.Deep.add_add, hcell, hv]
/-- What a program must say of the type of slots. -/
structure TS (P : Program) (T E I U : TypeId) : Prop where
  sl : P.underlying T = some (.slice E)
  st : ∃ fs, P.underlying E = some (.struct fs) ∧ oneCellFields P fs = true ∧ fs.map (·.type) = #[I, I, U, U, T]
  i : P.underlying I = some (.int .i64)
  u : P.underlying U = some (.int .u64)
  c : P.cellsOf E = 5
theorem RdS.mono {w : World} : ∀ (n m : Nat) (v : Value) (l : List Slot), n ≤ m → RdS w n v l → RdS w m v l
  | 0, _, _, _, _, h => h.elim
  | n + 1, 0, _, _, h, _ => absurd h (by omega)
  | n + 1, m + 1, v, l, hm, h => by
    obtain ⟨A, c, e, h1, h2, h3⟩ := h
    refine ⟨A, c, e, h1, h2, fun h0 => ?_⟩
    obtain ⟨ad, ha, hc⟩ := h3 h0
    refine ⟨ad, ha, fun i t ht => ?_⟩
    obtain ⟨hw, sv, hs, hr⟩ := hc i t ht
    exact ⟨hw, sv, hs, RdS.mono n m sv t.sub (by omega) hr⟩
/-- An argument that is a schema: it reads as slots. -/
theorem open_slots {T E I U : TypeId} (hT : TS P T E I U) : ∀ (fuel : Nat) (v : Value) (x : DataW H × List MemPlace), DataW.trod enc P w base spare held fuel T [v] = some x → ∃ l, RdS w fuel v l := by
  intro fuel
  induction fuel using Nat.strongRecOn with
  | _ fuel ih =>
    intro v x h
    cases fuel with
    | zero => simp [DataW.trod] at h
    | succ fuel =>
      obtain ⟨fs, hu, hone, hty⟩ := hT.st
      have hsz : fs.size = 5 := by have := congrArg Array.size hty; simpa using this
      have tyAt : ∀ j (hj : j < 5), (fs[j]'(by omega)).type = (#[I, I, U, U, T] : Array TypeId)[j]'hj := by
        intro j hj
        have h1 : (fs.map (·.type))[j]'(by simp; omega) = (#[I, I, U, U, T] : Array TypeId)[j]'hj := by simp only [hty]
        simpa using h1
      rcases open_slice_fields hT.sl hu hone (by rw [hT.c, hsz]) h with ⟨e, _⟩ | ⟨a, len, cap, e, h1, h2, h3⟩
      · obtain rfl : v = .slice none 0 0 := by simpa using e
        exact ⟨[], RdS.nil w fuel⟩
      · obtain rfl : v = .slice (some a) len cap := by simpa using e
        have hi : ∀ i, i < len → ∃ t, WfS t ∧ ∃ sv, SlotAt w (a.add (i * 5)) t sv ∧ RdS w fuel sv t.sub := by
          intro i hi
          obtain ⟨n, hn, hf⟩ := h3 i hi
          rw [hsz] at hf
          obtain ⟨v0, y0, c0, t0⟩ := hf 0 _ (Array.getElem?_eq_getElem (by omega))
          obtain ⟨v1, y1, c1, t1⟩ := hf 1 _ (Array.getElem?_eq_getElem (by omega))
          obtain ⟨v2, y2, c2, t2⟩ := hf 2 _ (Array.getElem?_eq_getElem (by omega))
          obtain ⟨v3, y3, c3, t3⟩ := hf 3 _ (Array.getElem?_eq_getElem (by omega))
          obtain ⟨v4, y4, c4, t4⟩ := hf 4 _ (Array.getElem?_eq_getElem (by omega))
          rw [Nat.add_zero] at c0
          rw [add_lit _ _ _ (by omega)] at c1 c2 c3 c4
          rw [tyAt 0 (by omega)] at t0
          rw [tyAt 1 (by omega)] at t1
          rw [tyAt 2 (by omega)] at t2
          rw [tyAt 3 (by omega)] at t3
          rw [tyAt 4 (by omega)] at t4
          obtain ⟨z0, e0, _, w0⟩ := DataW.trod_int hT.i t0
          obtain ⟨z1, e1, _, w1⟩ := DataW.trod_int hT.i t1
          obtain ⟨z2, e2, _, w2⟩ := DataW.trod_int hT.u t2
          obtain ⟨z3, e3, _, w3⟩ := DataW.trod_int hT.u t3
          obtain rfl : v0 = .int .i64 z0 := by simpa using e0
          obtain rfl : v1 = .int .i64 z1 := by simpa using e1
          obtain rfl : v2 = .int .u64 z2 := by simpa using e2
          obtain rfl : v3 = .int .u64 z3 := by simpa using e3
          obtain ⟨l, hl⟩ := ih n (by omega) v4 y4 t4
          have b0 := bounds_i64 w0
          have b1 := bounds_i64 w1
          have b2 := bounds_u64 w2
          have b3 := bounds_u64 w3
          obtain ⟨m2, rfl⟩ := Int.eq_ofNat_of_zero_le b2.1
          obtain ⟨m3, rfl⟩ := Int.eq_ofNat_of_zero_le b3.1
          exact ⟨.mk z0 z1 m2 m3 l, ⟨b0.1, b0.2, b1.1, b1.2, by have := b2.2; simp only [Slot.least]; omega, by have := b3.2; simp only [Slot.most]; omega⟩, v4, ⟨c0, c1, c2, c3, c4⟩, RdS.mono n fuel v4 l (by omega) hl⟩
        obtain ⟨f, hf⟩ := choose_lt (α := Slot) (p := fun i t => WfS t ∧ ∃ sv, SlotAt w (a.add (i * 5)) t sv ∧ RdS w fuel sv t.sub) hi
        refine ⟨(List.range len).map f, some a, cap, by simp, by simpa using h1, h2, fun _ => ⟨a, rfl, fun i t ht => ?_⟩⟩
        have hil : i < len := by
          have := (List.getElem?_eq_some_iff.1 ht).1
          simpa using this
        have : t = f i := by
          simp [List.getElem?_map, List.getElem?_range hil] at ht
          exact ht.symm
        subst this
        exact hf i hil
/-- An argument that is a schema, from its reading. -/
theorem open_schema {T E I U : TypeId} (hT : TS P T E I U) {v : Value} {d : DataW H} {ps : List MemPlace} {r : Reach} {b0 : Nat} (hv : Value.okWide P w r b0 T v) (h : DataW.Trod enc P w base spare held T v d ps) : ∃ n l, RdS w n v l := by
  obtain ⟨a, len, cap, rfl⟩ := okWide_slice hT.sl hv
  obtain ⟨fuel, hf⟩ := h
  obtain ⟨l, hl⟩ := open_slots hT fuel _ _ hf
  exact ⟨fuel, l, hl⟩
end
end Go.Proofs.YtinngljphjdpoaaGreatDoor.Rs
