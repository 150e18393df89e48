/- Values as plain data, how they lie in memory, and what is wrong with them. -/
import Derived.Test.YtinngljphjdpoaaGreatDoorJCd
import Derived.WalkLawsBesides
import Derived.Laws.Cover2
namespace Go.Proofs.YtinngljphjdpoaaGreatDoor.Vu
open Go Go.RowKit Go.Proofs.YtinngljphjdpoaaGreatDoor.Pa Go.Proofs.YtinngljphjdpoaaGreatDoor.Pb Go.Proofs.YtinngljphjdpoaaGreatDoor.Pf Go.Proofs.YtinngljphjdpoaaGreatDoor.Sc Go.Proofs.YtinngljphjdpoaaGreatDoor.Rs Go.Proofs.YtinngljphjdpoaaGreatDoor.Hs Go.Proofs.YtinngljphjdpoaaGreatDoor.Ca
set_option linter.unusedVariables false
set_option linter.unusedSimpArgs false
/-- A value: its number, its bytes, its parts. -/
inductive Va where
  | mk (num : Nat) (data : List UInt8) (parts : List Va)
def Va.num : Va → Nat | .mk n _ _ => n
def Va.data : Va → List UInt8 | .mk _ d _ => d
def Va.parts : Va → List Va | .mk _ _ p => p
/-- The slice v reads as the values l, less than n levels deep. -/
def RdP (w : World) : Nat → Value → List Va → Prop
  | 0, _, _ => False
  | n + 1, v, l => ∃ (A : Option Addr) (c : Nat), v = .slice A l.length c ∧ l.length ≤ c ∧ c ≤ maxLen ∧
      (0 < l.length → ∃ ad, A = some ad ∧ ∀ i x, l[i]? = some x → x.num < 18446744073709551616 ∧ ∃ dv pv, w.cell? (ad.add (i * 3)) = some (.int .u64 x.num) ∧ w.cell? (ad.add (i * 3 + 1)) = some dv ∧ w.cell? (ad.add (i * 3 + 2)) = some pv ∧ Rd w dv x.data ∧ RdP w n pv x.parts)
/-- The three cells of a value. -/
def RdV (w : World) (n : Nat) (nv dv pv : Value) (x : Va) : Prop := x.num < 18446744073709551616 ∧ nv = .int .u64 x.num ∧ Rd w dv x.data ∧ RdP w n pv x.parts
theorem rd_keep {w w' : World} (hk : ∀ k, k < w.heap.size → w'.heap[k]? = w.heap[k]?) {v : Value} {l : List UInt8} (h : Rd w v l) : Rd w' v l := by
  obtain ⟨A, c, e, h1, h2, h3⟩ := h
  refine ⟨A, c, e, h1, h2, fun h0 => ?_⟩
  obtain ⟨ad, ha, hc⟩ := h3 h0
  exact ⟨ad, ha, fun j u hu => by
    have := hc j u hu
    exact (World.cell?_of_block (hk _ (World.block_lt_of_cell? w _ this))).trans this⟩
theorem RdP.keep {w w' : World} (hk : ∀ k, k < w.heap.size → w'.heap[k]? = w.heap[k]?) : ∀ (n : Nat) (v : Value) (l : List Va), RdP w n v l → RdP w' n v l
  | 0, _, _, h => h.elim
  | n + 1, v, l, h => by
    obtain ⟨A, c, e, h1, h2, h3⟩ := h
    refine ⟨A, c, e, h1, h2, fun h0 => ?_⟩
    obtain ⟨ad, ha, hc⟩ := h3 h0
    refine ⟨ad, ha, fun i x hx => ?_⟩
    obtain ⟨g0, dv, pv, g1, g2, g3, g4, g5⟩ := hc i x hx
    have k : ∀ a u, w.cell? a = some u → w'.cell? a = some u := fun a u hu => (World.cell?_of_block (hk _ (World.block_lt_of_cell? w _ hu))).trans hu
    exact ⟨g0, dv, pv, k _ _ g1, k _ _ g2, k _ _ g3, rd_keep hk g4, RdP.keep hk n pv x.parts g5⟩
theorem RdP.below {w w' : World} {n : Nat} {v : Value} {l : List Va} (h : RdP w n v l) (hb : Below w.heap.size w w') : RdP w' n v l := RdP.keep hb.block n v l h
theorem RdV.below {w w' : World} {n : Nat} {nv dv pv : Value} {x : Va} (h : RdV w n nv dv pv x) (hb : Below w.heap.size w w') : RdV w' n nv dv pv x := ⟨h.1, h.2.1, rd_keep hb.block h.2.2.1, h.2.2.2.below hb⟩
theorem RdP.slice {w : World} {n : Nat} {v : Value} {l : List Va} (h : RdP w n v l) : ∃ A c, v = .slice A l.length c ∧ l.length ≤ c ∧ c ≤ maxLen := by
  cases n with
  | zero => exact h.elim
  | succ n => obtain ⟨A, c, e, h1, h2, _⟩ := h; exact ⟨A, c, e, h1, h2⟩
theorem RdP.pos {w : World} {n : Nat} {v : Value} {l : List Va} (h : RdP w n v l) : ∃ m, n = m + 1 := by
  cases n with
  | zero => exact h.elim
  | succ n => exact ⟨n, rfl⟩
theorem RdP.at_ {w : World} {n : Nat} {A : Option Addr} {m c : Nat} {l : List Va} (h : RdP w (n + 1) (.slice A m c) l) (i : Nat) (hi : i < l.length) :
    ∃ ad, A = some ad ∧ ∃ dv pv, w.cell? (ad.add (i * 3)) = some (.int .u64 l[i].num) ∧ w.cell? (ad.add (i * 3 + 1)) = some dv ∧ w.cell? (ad.add (i * 3 + 2)) = some pv ∧ RdV w n (.int .u64 l[i].num) dv pv l[i] := by
  obtain ⟨A', c', e, h1, h2, h3⟩ := h
  simp only [Value.slice.injEq] at e
  obtain ⟨rfl, rfl, rfl⟩ := e
  obtain ⟨ad, ha, hc⟩ := h3 (by omega)
  obtain ⟨g0, dv, pv, g1, g2, g3, g4, g5⟩ := hc i l[i] (by simp [hi])
  exact ⟨ad, ha, dv, pv, g1, g2, g3, g0, rfl, g4, g5⟩
/-- A fault: line, place, reason (0: none). -/
abbrev Flt := Int × Int × Int
/-- What stands a float's bits: the reason, by the program's tests; F tells. What text: U tells. -/
def within (n least most : Nat) : Int := if n < least ∨ most < n then 83 else 0
/-- Has a value what its shape has? -/
def isOf (t : Slot) (x : Va) : Bool :=
  if t.kind = 5 ∨ t.kind = 6 then decide (x.num = 0) && decide (x.parts.length = 0)
  else if t.kind = 8 ∨ t.kind = 9 then decide (x.num = 0) && decide (x.data.length = 0)
  else decide (x.data.length = 0) && decide (x.parts.length = 0)
/-- What is wrong with its bounds. -/
def badOf (F : Nat → Nat → Int) (U : List UInt8 → Bool) (t : Slot) (x : Va) (items : Nat) : Int :=
  if t.kind = 4 then within x.num 0 1
  else if t.kind = 7 then F x.num t.most
  else if t.kind = 5 ∨ t.kind = 6 then (if within x.data.length t.least t.most ≠ 0 then 83 else if t.kind = 6 ∧ U x.data = false then 84 else 0)
  else if t.kind = 9 then within items t.least t.most
  else if t.kind = 8 then 0
  else within x.num t.least t.most
/-- The first that is wrong with the values of some slots. -/
def chkGo (f : Slot → Va → Flt) : List Slot → List Va → Flt
  | t :: s, x :: p => if (f t x).2.2 ≠ 0 then f t x else chkGo f s p
  | _, _ => (0, 0, 0)
/-- The first that is wrong with items. -/
def itemsGo (f : Va → Flt) : List Va → Flt
  | x :: p => if (f x).2.2 ≠ 0 then f x else itemsGo f p
  | [] => (0, 0, 0)
/-- The first that is wrong with a message of less than n levels, so deep. -/
def chk (F : Nat → Nat → Int) (U : List UInt8 → Bool) : Nat → List Slot → Va → Int → Flt
  | 0, _, _, _ => (0, 0, 0)
  | n + 1, s, v, deep =>
    if v.num ≠ 0 ∨ v.data.length ≠ 0 then (deep, 0, 84)
    else if v.parts.length ≠ s.length then (deep, 0, 81)
    else chkGo (fun t x =>
      if t.kind = 8 then chk F U n t.sub x (deep + 1)
      else if isOf t x = false then (deep, t.no, 84)
      else if badOf F U t x x.parts.length ≠ 0 then (deep, t.no, badOf F U t x x.parts.length)
      else if t.kind = 9 then itemsGo (fun y => chk F U n t.sub y (deep + 1)) x.parts
      else (0, 0, 0)) s v.parts
end Go.Proofs.YtinngljphjdpoaaGreatDoor.Vu
/- give, within, the shapes' is. -/
namespace Go.Proofs.YtinngljphjdpoaaGreatDoor.Vg
open Go Go.RowKit Go.Proofs.YtinngljphjdpoaaGreatDoor.Pa Go.Proofs.YtinngljphjdpoaaGreatDoor.Pb Go.Proofs.YtinngljphjdpoaaGreatDoor.Pf Go.Proofs.YtinngljphjdpoaaGreatDoor.Pq Go.Proofs.YtinngljphjdpoaaGreatDoor.Sc Go.Proofs.YtinngljphjdpoaaGreatDoor.Rs Go.Proofs.YtinngljphjdpoaaGreatDoor.Hs Go.Proofs.YtinngljphjdpoaaGreatDoor.Ca Go.Proofs.YtinngljphjdpoaaGreatDoor.Cb Go.Proofs.YtinngljphjdpoaaGreatDoor.Vu
set_option linter.unusedVariables false
set_option linter.unusedSimpArgs false
/-- A panic of a fault. -/
def gave (f : Flt) : Ending := .panicked [{ v := .iface 39 (.agg #[.int .i64 f.1, .int .i64 f.2.1, .int .i64 f.2.2]), recovered := false }]
set_option maxRecDepth 100000 in
theorem give (line at_ why : Int) (w : World) : Calls Tryz.prog 86 #[.int .i64 line, .int .i64 at_, .int .i64 why] w fun e w' => e = gave (line, at_, why) ∧ w' = w := by
  go_enter Tryz.func86, Tryz.ntmps86
  go_wp2_with fail
  exact ⟨rfl, rfl, rfl⟩
set_option maxRecDepth 100000 in
theorem within (n least most : Nat) (w : World) : Calls Tryz.prog 142 #[.int .u64 (n : Int), .int .u64 (least : Int), .int .u64 (most : Int)] w fun e w' => e = .returned (.int .i64 (Vu.within n least most)) ∧ w' = w := by
  go_enter Tryz.func142, Tryz.ntmps142
  by_cases h1 : (n : Int) < least
  · have e : Vu.within n least most = 83 := by unfold Vu.within; rw [if_pos (.inl (by omega))]
    rw [e]
    go_wp2_with fail
    go_ret
    exact ⟨rfl, rfl⟩
  · by_cases h2 : (most : Int) < n
    · have e : Vu.within n least most = 83 := by unfold Vu.within; rw [if_pos (.inr (by omega))]
      rw [e]
      go_wp2_with fail
      go_ret
      exact ⟨rfl, rfl⟩
    · have e : Vu.within n least most = 0 := by unfold Vu.within; rw [if_neg (by omega)]
      rw [e]
      go_wp2_with fail
      go_ret
      exact ⟨rfl, rfl⟩
set_option maxRecDepth 100000 in
theorem is_number (a b : Nat) (num dl pl c c2 : Nat) (A B : Option Addr) (w : World) : Calls Tryz.prog 194 #[.agg #[.int .u64 (a : Int), .int .u64 (b : Int)], .agg #[.int .u64 (num : Int), .slice A dl c, .slice B pl c2]] w fun e w' => e = .returned (.bool (decide (dl = 0) && decide (pl = 0))) ∧ Below w.heap.size w w' := by
  have al : ∀ (w : World) (o : Obj), Below w.heap.size w (w.alloc o) := fun w o => (Below.refl _ _).alloc (Nat.le_refl _) _
  have bb : ∀ (o o' : Obj), Below w.heap.size w ((w.alloc o).alloc o') := fun o o' => (al w o).trans ((al _ o').mono (by simp))
  have BB := Lib.hid bb; clear al bb
  by_cases h1 : dl = 0
  · subst h1
    by_cases h2 : pl = 0
    · subst h2
      go_enter Tryz.func194, Tryz.ntmps194
      go_wp2_with fail
      go_ret
      exact ⟨rfl, BB.out _ _⟩
    · have h2' : ¬ (pl : Int) = 0 := by omega
      have h2b : ((pl : Int) == 0) = false := by simp; omega
      have e : decide (pl = 0) = false := decide_eq_false h2
      rw [e]
      go_enter Tryz.func194, Tryz.ntmps194
      go_wp2_with fail
      go_ret
      exact ⟨rfl, BB.out _ _⟩
  · have h1' : ¬ (dl : Int) = 0 := by omega
    have h1b : ((dl : Int) == 0) = false := by simp; omega
    have e : decide (dl = 0) = false := decide_eq_false h1
    rw [e, Bool.false_and]
    go_enter Tryz.func194, Tryz.ntmps194
    go_wp2_with fail
    go_ret
    exact ⟨rfl, BB.out _ _⟩
set_option maxRecDepth 100000 in
theorem is_float (fb : Nat) (num dl pl c c2 : Nat) (A B : Option Addr) (w : World) : Calls Tryz.prog 195 #[.agg #[.float .f64 fb], .agg #[.int .u64 (num : Int), .slice A dl c, .slice B pl c2]] w fun e w' => e = .returned (.bool (decide (dl = 0) && decide (pl = 0))) ∧ Below w.heap.size w w' := by
  have al : ∀ (w : World) (o : Obj), Below w.heap.size w (w.alloc o) := fun w o => (Below.refl _ _).alloc (Nat.le_refl _) _
  have bb : ∀ (o o' : Obj), Below w.heap.size w ((w.alloc o).alloc o') := fun o o' => (al w o).trans ((al _ o').mono (by simp))
  have BB := Lib.hid bb; clear al bb
  by_cases h1 : dl = 0
  · subst h1
    by_cases h2 : pl = 0
    · subst h2
      go_enter Tryz.func195, Tryz.ntmps195
      go_wp2_with fail
      go_ret
      exact ⟨rfl, BB.out _ _⟩
    · have h2' : ¬ (pl : Int) = 0 := by omega
      have h2b : ((pl : Int) == 0) = false := by simp; omega
      have e : decide (pl = 0) = false := decide_eq_false h2
      rw [e]
      go_enter Tryz.func195, Tryz.ntmps195
      go_wp2_with fail
      go_ret
      exact ⟨rfl, BB.out _ _⟩
  · have h1' : ¬ (dl : Int) = 0 := by omega
    have h1b : ((dl : Int) == 0) = false := by simp; omega
    have e : decide (dl = 0) = false := decide_eq_false h1
    rw [e, Bool.false_and]
    go_enter Tryz.func195, Tryz.ntmps195
    go_wp2_with fail
    go_ret
    exact ⟨rfl, BB.out _ _⟩
set_option maxRecDepth 100000 in
theorem is_data (a b : Nat) (tx : Bool) (num dl pl c c2 : Nat) (A B : Option Addr) (w : World) : Calls Tryz.prog 196 #[.agg #[.int .u64 (a : Int), .int .u64 (b : Int), .bool tx], .agg #[.int .u64 (num : Int), .slice A dl c, .slice B pl c2]] w fun e w' => e = .returned (.bool (decide (num = 0) && decide (pl = 0))) ∧ Below w.heap.size w w' := by
  have al : ∀ (w : World) (o : Obj), Below w.heap.size w (w.alloc o) := fun w o => (Below.refl _ _).alloc (Nat.le_refl _) _
  have bb : ∀ (o o' : Obj), Below w.heap.size w ((w.alloc o).alloc o') := fun o o' => (al w o).trans ((al _ o').mono (by simp))
  have BB := Lib.hid bb; clear al bb
  by_cases h1 : num = 0
  · subst h1
    by_cases h2 : pl = 0
    · subst h2
      go_enter Tryz.func196, Tryz.ntmps196
      go_wp2_with fail
      go_ret
      exact ⟨rfl, BB.out _ _⟩
    · have h2' : ¬ (pl : Int) = 0 := by omega
      have h2b : ((pl : Int) == 0) = false := by simp; omega
      have e : decide (pl = 0) = false := decide_eq_false h2
      rw [e]
      go_enter Tryz.func196, Tryz.ntmps196
      go_wp2_with fail
      go_ret
      exact ⟨rfl, BB.out _ _⟩
  · have h1' : ¬ (num : Int) = 0 := by omega
    have h1b : ((num : Int) == 0) = false := by simp; omega
    have e : decide (num = 0) = false := decide_eq_false h1
    rw [e, Bool.false_and]
    go_enter Tryz.func196, Tryz.ntmps196
    go_wp2_with fail
    go_ret
    exact ⟨rfl, BB.out _ _⟩
set_option maxRecDepth 100000 in
theorem is_list (g a b : Nat) (num dl pl c c2 : Nat) (A B : Option Addr) (w : World) : Calls Tryz.prog 193 #[.agg #[ptr g, .int .u64 (a : Int), .int .u64 (b : Int)], .agg #[.int .u64 (num : Int), .slice A dl c, .slice B pl c2]] w fun e w' => e = .returned (.bool (decide (num = 0) && decide (dl = 0))) ∧ Below w.heap.size w w' := by
  have al : ∀ (w : World) (o : Obj), Below w.heap.size w (w.alloc o) := fun w o => (Below.refl _ _).alloc (Nat.le_refl _) _
  have bb : ∀ (o o' : Obj), Below w.heap.size w ((w.alloc o).alloc o') := fun o o' => (al w o).trans ((al _ o').mono (by simp))
  have BB := Lib.hid bb; clear al bb
  unfold ptr
  by_cases h1 : num = 0
  · subst h1
    by_cases h2 : dl = 0
    · subst h2
      go_enter Tryz.func193, Tryz.ntmps193
      go_wp2_with fail
      go_ret
      exact ⟨rfl, BB.out _ _⟩
    · have h2' : ¬ (dl : Int) = 0 := by omega
      have h2b : ((dl : Int) == 0) = false := by simp; omega
      have e : decide (dl = 0) = false := decide_eq_false h2
      rw [e]
      go_enter Tryz.func193, Tryz.ntmps193
      go_wp2_with fail
      go_ret
      exact ⟨rfl, BB.out _ _⟩
  · have h1' : ¬ (num : Int) = 0 := by omega
    have h1b : ((num : Int) == 0) = false := by simp; omega
    have e : decide (num = 0) = false := decide_eq_false h1
    rw [e, Bool.false_and]
    go_enter Tryz.func193, Tryz.ntmps193
    go_wp2_with fail
    go_ret
    exact ⟨rfl, BB.out _ _⟩
end Go.Proofs.YtinngljphjdpoaaGreatDoor.Vg
