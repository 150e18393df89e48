/- Values as plain data, how they lie in memory, and what is wrong with them. -/
import Derived.Test.YtinngljphjdpoaaGreatDoorJCd
import Derived.WalkLawsBesides
import Derived.Laws.Cover2
import Derived.Laws.BitsAllLaws
import Derived.Laws.Externs
import Derived.BigQuiet
import Derived.Shelf.Unicode.DecodeSlow
import Derived.Lib.Endian
import Derived.Lib.EndianBits
import Derived.Lib.ValidAsc
namespace Go.Proofs.YtinngljphjdpoaaGreatDoor.Vu
open Go Go.RowKit Go.Proofs.YtinngljphjdpoaaGreatDoor.Pa Go.Proofs.YtinngljphjdpoaaGreatDoor.Pb Go.Proofs.YtinngljphjdpoaaGreatDoor.Pf Go.Proofs.YtinngljphjdpoaaGreatDoor.Sc Go.Proofs.YtinngljphjdpoaaGreatDoor.Rs Go.Proofs.YtinngljphjdpoaaGreatDoor.Hs Go.Proofs.YtinngljphjdpoaaGreatDoor.Ca
set_option linter.unusedVariables false
set_option linter.unusedSimpArgs false
/-- A value: its number, its bytes, its parts. -/
inductive Va where
  | mk (num : Nat) (data : List UInt8) (parts : List Va)
def Va.num : Va → Nat | .mk n _ _ => n
def Va.data : Va → List UInt8 | .mk _ d _ => d
def Va.parts : Va → List Va | .mk _ _ p => p
/-- The slice v reads as the values l, less than n levels deep. -/
def RdP (w : World) : Nat → Value → List Va → Prop
  | 0, _, _ => False
  | n + 1, v, l => ∃ (A : Option Addr) (c : Nat), v = .slice A l.length c ∧ l.length ≤ c ∧ c ≤ maxLen ∧
      (0 < l.length → ∃ ad, A = some ad ∧ ∀ i x, l[i]? = some x → x.num < 18446744073709551616 ∧ ∃ dv pv, w.cell? (ad.add (i * 3)) = some (.int .u64 x.num) ∧ w.cell? (ad.add (i * 3 + 1)) = some dv ∧ w.cell? (ad.add (i * 3 + 2)) = some pv ∧ Rd w dv x.data ∧ RdP w n pv x.parts)
/-- The three cells of a value. -/
def RdV (w : World) (n : Nat) (nv dv pv : Value) (x : Va) : Prop := x.num < 18446744073709551616 ∧ nv = .int .u64 x.num ∧ Rd w dv x.data ∧ RdP w n pv x.parts
theorem rd_keep {w w' : World} (hk : ∀ k, k < w.heap.size → w'.heap[k]? = w.heap[k]?) {v : Value} {l : List UInt8} (h : Rd w v l) : Rd w' v l := by
  obtain ⟨A, c, e, h1, h2, h3⟩ := h
  refine ⟨A, c, e, h1, h2, fun h0 => ?_⟩
  obtain ⟨ad, ha, hc⟩ := h3 h0
  exact ⟨ad, ha, fun j u hu => by
    have := hc j u hu
    exact (World.cell?_of_block (hk _ (World.block_lt_of_cell? w _ this))).trans this⟩
theorem RdP.keep {w w' : World} (hk : ∀ k, k < w.heap.size → w'.heap[k]? = w.heap[k]?) : ∀ (n : Nat) (v : Value) (l : List Va), RdP w n v l → RdP w' n v l
  | 0, _, _, h => h.elim
  | n + 1, v, l, h => by
    obtain ⟨A, c, e, h1, h2, h3⟩ := h
    refine ⟨A, c, e, h1, h2, fun h0 => ?_⟩
    obtain ⟨ad, ha, hc⟩ := h3 h0
    refine ⟨ad, ha, fun i x hx => ?_⟩
    obtain ⟨g0, dv, pv, g1, g2, g3, g4, g5⟩ := hc i x hx
    have k : ∀ a u, w.cell? a = some u → w'.cell? a = some u := fun a u hu => (World.cell?_of_block (hk _ (World.block_lt_of_cell? w _ hu))).trans hu
    exact ⟨g0, dv, pv, k _ _ g1, k _ _ g2, k _ _ g3, rd_keep hk g4, RdP.keep hk n pv x.parts g5⟩
theorem RdP.below {w w' : World} {n : Nat} {v : Value} {l : List Va} (h : RdP w n v l) (hb : Below w.heap.size w w') : RdP w' n v l := RdP.keep hb.block n v l h
theorem RdV.below {w w' : World} {n : Nat} {nv dv pv : Value} {x : Va} (h : RdV w n nv dv pv x) (hb : Below w.heap.size w w') : RdV w' n nv dv pv x := ⟨h.1, h.2.1, rd_keep hb.block h.2.2.1, h.2.2.2.below hb⟩
theorem RdP.slice {w : World} {n : Nat} {v : Value} {l : List Va} (h : RdP w n v l) : ∃ A c, v = .slice A l.length c ∧ l.length ≤ c ∧ c ≤ maxLen := by
  cases n with
  | zero => exact h.elim
  | succ n => obtain ⟨A, c, e, h1, h2, _⟩ := h; exact ⟨A, c, e, h1, h2⟩
theorem RdP.pos {w : World} {n : Nat} {v : Value} {l : List Va} (h : RdP w n v l) : ∃ m, n = m + 1 := by
  cases n with
  | zero => exact h.elim
  | succ n => exact ⟨n, rfl⟩
theorem RdP.at_ {w : World} {n : Nat} {A : Option Addr} {m c : Nat} {l : List Va} (h : RdP w (n + 1) (.slice A m c) l) (i : Nat) (hi : i < l.length) :
    ∃ ad, A = some ad ∧ ∃ dv pv, w.cell? (ad.add (i * 3)) = some (.int .u64 l[i].num) ∧ w.cell? (ad.add (i * 3 + 1)) = some dv ∧ w.cell? (ad.add (i * 3 + 2)) = some pv ∧ RdV w n (.int .u64 l[i].num) dv pv l[i] := by
  obtain ⟨A', c', e, h1, h2, h3⟩ := h
  simp only [Value.slice.injEq] at e
  obtain ⟨rfl, rfl, rfl⟩ := e
  obtain ⟨ad, ha, hc⟩ := h3 (by omega)
  obtain ⟨g0, dv, pv, g1, g2, g3, g4, g5⟩ := hc i l[i] (by simp [hi])
  exact ⟨ad, ha, dv, pv, g1, g2, g3, g0, rfl, g4, g5⟩
/-- A fault: line, place, reason (0: none). -/
abbrev Flt := Int × Int × Int
/-- What stands a float's bits: the reason, by the program's tests; F tells. What text: U tells. -/
def within (n least most : Nat) : Int := if n < least ∨ most < n then 83 else 0
/-- Has a value what its shape has? -/
def isOf (t : Slot) (x : Va) : Bool :=
  if t.kind = 5 ∨ t.kind = 6 then decide (x.num = 0) && decide (x.parts.length = 0)
  else if t.kind = 8 ∨ t.kind = 9 then decide (x.num = 0) && decide (x.data.length = 0)
  else decide (x.data.length = 0) && decide (x.parts.length = 0)
/-- What is wrong with its bounds. -/
def badOf (F : Nat → Nat → Int) (U : List UInt8 → Bool) (t : Slot) (x : Va) (items : Nat) : Int :=
  if t.kind = 4 then within x.num 0 1
  else if t.kind = 7 then F x.num t.most
  else if t.kind = 5 ∨ t.kind = 6 then (if within x.data.length t.least t.most ≠ 0 then 83 else if t.kind = 6 ∧ U x.data = false then 84 else 0)
  else if t.kind = 9 then within items t.least t.most
  else if t.kind = 8 then 0
  else within x.num t.least t.most
/-- The first that is wrong with the values of some slots. -/
def chkGo (f : Slot → Va → Flt) : List Slot → List Va → Flt
  | t :: s, x :: p => if (f t x).2.2 ≠ 0 then f t x else chkGo f s p
  | _, _ => (0, 0, 0)
/-- The first that is wrong with items. -/
def itemsGo (f : Va → Flt) : List Va → Flt
  | x :: p => if (f x).2.2 ≠ 0 then f x else itemsGo f p
  | [] => (0, 0, 0)
/-- The first that is wrong with a message of less than n levels, so deep. -/
def chk (F : Nat → Nat → Int) (U : List UInt8 → Bool) : Nat → List Slot → Va → Int → Flt
  | 0, _, _, _ => (0, 0, 0)
  | n + 1, s, v, deep =>
    if v.num ≠ 0 ∨ v.data.length ≠ 0 then (deep, 0, 84)
    else if v.parts.length ≠ s.length then (deep, 0, 81)
    else chkGo (fun t x =>
      if t.kind = 8 then chk F U n t.sub x (deep + 1)
      else if isOf t x = false then (deep, t.no, 84)
      else if badOf F U t x x.parts.length ≠ 0 then (deep, t.no, badOf F U t x x.parts.length)
      else if t.kind = 9 then itemsGo (fun y => chk F U n t.sub y (deep + 1)) x.parts
      else (0, 0, 0)) s v.parts
end Go.Proofs.YtinngljphjdpoaaGreatDoor.Vu
/- give, within, the shapes' is. -/
namespace Go.Proofs.YtinngljphjdpoaaGreatDoor.Vg
open Go Go.RowKit Go.Proofs.YtinngljphjdpoaaGreatDoor.Pa Go.Proofs.YtinngljphjdpoaaGreatDoor.Pb Go.Proofs.YtinngljphjdpoaaGreatDoor.Pf Go.Proofs.YtinngljphjdpoaaGreatDoor.Pq Go.Proofs.YtinngljphjdpoaaGreatDoor.Sc Go.Proofs.YtinngljphjdpoaaGreatDoor.Rs Go.Proofs.YtinngljphjdpoaaGreatDoor.Hs Go.Proofs.YtinngljphjdpoaaGreatDoor.Ca Go.Proofs.YtinngljphjdpoaaGreatDoor.Cb Go.Proofs.YtinngljphjdpoaaGreatDoor.Vu
set_option linter.unusedVariables false
set_option linter.unusedSimpArgs false
/-- A panic of a fault. -/
def gave (f : Flt) : Ending := .panicked [{ v := .iface 39 (.agg #[.int .i64 f.1, .int .i64 f.2.1, .int .i64 f.2.2]), recovered := false }]
set_option maxRecDepth 100000 in
theorem give (line at_ why : Int) (w : World) : Calls Tryz.prog 86 #[.int .i64 line, .int .i64 at_, .int .i64 why] w fun e w' => e = gave (line, at_, why) ∧ w' = w := by
  go_enter Tryz.func86, Tryz.ntmps86
  go_wp2_with fail
  exact ⟨rfl, rfl, rfl⟩
set_option maxRecDepth 100000 in
theorem within (n least most : Nat) (w : World) : Calls Tryz.prog 142 #[.int .u64 (n : Int), .int .u64 (least : Int), .int .u64 (most : Int)] w fun e w' => e = .returned (.int .i64 (Vu.within n least most)) ∧ w' = w := by
  go_enter Tryz.func142, Tryz.ntmps142
  by_cases h1 : (n : Int) < least
  · have e : Vu.within n least most = 83 := by unfold Vu.within; rw [if_pos (.inl (by omega))]
    rw [e]
    go_wp2_with fail
    go_ret
    exact ⟨rfl, rfl⟩
  · by_cases h2 : (most : Int) < n
    · have e : Vu.within n least most = 83 := by unfold Vu.within; rw [if_pos (.inr (by omega))]
      rw [e]
      go_wp2_with fail
      go_ret
      exact ⟨rfl, rfl⟩
    · have e : Vu.within n least most = 0 := by unfold Vu.within; rw [if_neg (by omega)]
      rw [e]
      go_wp2_with fail
      go_ret
      exact ⟨rfl, rfl⟩
set_option maxRecDepth 100000 in
theorem is_number (a b : Nat) (num dl pl c c2 : Nat) (A B : Option Addr) (w : World) : Calls Tryz.prog 194 #[.agg #[.int .u64 (a : Int), .int .u64 (b : Int)], .agg #[.int .u64 (num : Int), .slice A dl c, .slice B pl c2]] w fun e w' => e = .returned (.bool (decide (dl = 0) && decide (pl = 0))) ∧ Below w.heap.size w w' := by
  have al : ∀ (w : World) (o : Obj), Below w.heap.size w (w.alloc o) := fun w o => (Below.refl _ _).alloc (Nat.le_refl _) _
  have bb : ∀ (o o' : Obj), Below w.heap.size w ((w.alloc o).alloc o') := fun o o' => (al w o).trans ((al _ o').mono (by simp))
  have BB := Lib.hid bb; clear al bb
  by_cases h1 : dl = 0
  · subst h1
    by_cases h2 : pl = 0
    · subst h2
      go_enter Tryz.func194, Tryz.ntmps194
      go_wp2_with fail
      go_ret
      exact ⟨rfl, BB.out _ _⟩
    · have h2' : ¬ (pl : Int) = 0 := by omega
      have h2b : ((pl : Int) == 0) = false := by simp; omega
      have e : decide (pl = 0) = false := decide_eq_false h2
      rw [e]
      go_enter Tryz.func194, Tryz.ntmps194
      go_wp2_with fail
      go_ret
      exact ⟨rfl, BB.out _ _⟩
  · have h1' : ¬ (dl : Int) = 0 := by omega
    have h1b : ((dl : Int) == 0) = false := by simp; omega
    have e : decide (dl = 0) = false := decide_eq_false h1
    rw [e, Bool.false_and]
    go_enter Tryz.func194, Tryz.ntmps194
    go_wp2_with fail
    go_ret
    exact ⟨rfl, BB.out _ _⟩
set_option maxRecDepth 100000 in
theorem is_float (fb : Nat) (num dl pl c c2 : Nat) (A B : Option Addr) (w : World) : Calls Tryz.prog 195 #[.agg #[.float .f64 fb], .agg #[.int .u64 (num : Int), .slice A dl c, .slice B pl c2]] w fun e w' => e = .returned (.bool (decide (dl = 0) && decide (pl = 0))) ∧ Below w.heap.size w w' := by
  have al : ∀ (w : World) (o : Obj), Below w.heap.size w (w.alloc o) := fun w o => (Below.refl _ _).alloc (Nat.le_refl _) _
  have bb : ∀ (o o' : Obj), Below w.heap.size w ((w.alloc o).alloc o') := fun o o' => (al w o).trans ((al _ o').mono (by simp))
  have BB := Lib.hid bb; clear al bb
  by_cases h1 : dl = 0
  · subst h1
    by_cases h2 : pl = 0
    · subst h2
      go_enter Tryz.func195, Tryz.ntmps195
      go_wp2_with fail
      go_ret
      exact ⟨rfl, BB.out _ _⟩
    · have h2' : ¬ (pl : Int) = 0 := by omega
      have h2b : ((pl : Int) == 0) = false := by simp; omega
      have e : decide (pl = 0) = false := decide_eq_false h2
      rw [e]
      go_enter Tryz.func195, Tryz.ntmps195
      go_wp2_with fail
      go_ret
      exact ⟨rfl, BB.out _ _⟩
  · have h1' : ¬ (dl : Int) = 0 := by omega
    have h1b : ((dl : Int) == 0) = false := by simp; omega
    have e : decide (dl = 0) = false := decide_eq_false h1
    rw [e, Bool.false_and]
    go_enter Tryz.func195, Tryz.ntmps195
    go_wp2_with fail
    go_ret
    exact ⟨rfl, BB.out _ _⟩
set_option maxRecDepth 100000 in
theorem is_data (a b : Nat) (tx : Bool) (num dl pl c c2 : Nat) (A B : Option Addr) (w : World) : Calls Tryz.prog 196 #[.agg #[.int .u64 (a : Int), .int .u64 (b : Int), .bool tx], .agg #[.int .u64 (num : Int), .slice A dl c, .slice B pl c2]] w fun e w' => e = .returned (.bool (decide (num = 0) && decide (pl = 0))) ∧ Below w.heap.size w w' := by
  have al : ∀ (w : World) (o : Obj), Below w.heap.size w (w.alloc o) := fun w o => (Below.refl _ _).alloc (Nat.le_refl _) _
  have bb : ∀ (o o' : Obj), Below w.heap.size w ((w.alloc o).alloc o') := fun o o' => (al w o).trans ((al _ o').mono (by simp))
  have BB := Lib.hid bb; clear al bb
  by_cases h1 : num = 0
  · subst h1
    by_cases h2 : pl = 0
    · subst h2
      go_enter Tryz.func196, Tryz.ntmps196
      go_wp2_with fail
      go_ret
      exact ⟨rfl, BB.out _ _⟩
    · have h2' : ¬ (pl : Int) = 0 := by omega
      have h2b : ((pl : Int) == 0) = false := by simp; omega
      have e : decide (pl = 0) = false := decide_eq_false h2
      rw [e]
      go_enter Tryz.func196, Tryz.ntmps196
      go_wp2_with fail
      go_ret
      exact ⟨rfl, BB.out _ _⟩
  · have h1' : ¬ (num : Int) = 0 := by omega
    have h1b : ((num : Int) == 0) = false := by simp; omega
    have e : decide (num = 0) = false := decide_eq_false h1
    rw [e, Bool.false_and]
    go_enter Tryz.func196, Tryz.ntmps196
    go_wp2_with fail
    go_ret
    exact ⟨rfl, BB.out _ _⟩
set_option maxRecDepth 100000 in
theorem is_list (g a b : Nat) (num dl pl c c2 : Nat) (A B : Option Addr) (w : World) : Calls Tryz.prog 193 #[.agg #[ptr g, .int .u64 (a : Int), .int .u64 (b : Int)], .agg #[.int .u64 (num : Int), .slice A dl c, .slice B pl c2]] w fun e w' => e = .returned (.bool (decide (num = 0) && decide (dl = 0))) ∧ Below w.heap.size w w' := by
  have al : ∀ (w : World) (o : Obj), Below w.heap.size w (w.alloc o) := fun w o => (Below.refl _ _).alloc (Nat.le_refl _) _
  have bb : ∀ (o o' : Obj), Below w.heap.size w ((w.alloc o).alloc o') := fun o o' => (al w o).trans ((al _ o').mono (by simp))
  have BB := Lib.hid bb; clear al bb
  unfold ptr
  by_cases h1 : num = 0
  · subst h1
    by_cases h2 : dl = 0
    · subst h2
      go_enter Tryz.func193, Tryz.ntmps193
      go_wp2_with fail
      go_ret
      exact ⟨rfl, BB.out _ _⟩
    · have h2' : ¬ (dl : Int) = 0 := by omega
      have h2b : ((dl : Int) == 0) = false := by simp; omega
      have e : decide (dl = 0) = false := decide_eq_false h2
      rw [e]
      go_enter Tryz.func193, Tryz.ntmps193
      go_wp2_with fail
      go_ret
      exact ⟨rfl, BB.out _ _⟩
  · have h1' : ¬ (num : Int) = 0 := by omega
    have h1b : ((num : Int) == 0) = false := by simp; omega
    have e : decide (num = 0) = false := decide_eq_false h1
    rw [e, Bool.false_and]
    go_enter Tryz.func193, Tryz.ntmps193
    go_wp2_with fail
    go_ret
    exact ⟨rfl, BB.out _ _⟩
end Go.Proofs.YtinngljphjdpoaaGreatDoor.Vg
/- bad: floats, bounds. -/
namespace Go.Proofs.YtinngljphjdpoaaGreatDoor.Vh
open Go Go.RowKit Go.Proofs.YtinngljphjdpoaaGreatDoor.Pa Go.Proofs.YtinngljphjdpoaaGreatDoor.Pb Go.Proofs.YtinngljphjdpoaaGreatDoor.Pf Go.Proofs.YtinngljphjdpoaaGreatDoor.Pq Go.Proofs.YtinngljphjdpoaaGreatDoor.Sc Go.Proofs.YtinngljphjdpoaaGreatDoor.Rs Go.Proofs.YtinngljphjdpoaaGreatDoor.Hs Go.Proofs.YtinngljphjdpoaaGreatDoor.Ca Go.Proofs.YtinngljphjdpoaaGreatDoor.Cb Go.Proofs.YtinngljphjdpoaaGreatDoor.Vu Go.Proofs.YtinngljphjdpoaaGreatDoor.Vg
set_option linter.unusedVariables false
set_option linter.unusedSimpArgs false
/-- A world that has drawn. -/
def Like (w W : World) : Prop := ∃ n, W = w.drewN n
theorem Like.same {w W W' : World} (h : Like w W) (e : W' = W) : Like w W' := e ▸ h
theorem Like.refl (w : World) : Like w w.drew := ⟨1, rfl⟩
def ord (a b : Nat) : Option Ordering := FloatKind.f64.format.order a b
/-- The program's test of a float's bits. -/
def pF (n most : Nat) : Int :=
  if (ord n n != some .eq) || (ord (n % 9223372036854775808) 9218868437227405311 == some .gt) || (ord n 0 == some .eq && decide (n ≠ 0)) then 84
  else if ord (n % 9223372036854775808) (FloatKind.f64.nearest (most : Int)) == some .gt then 83 else 0
theorem from_run (n : Nat) (w : World) : (callFunc 143 #[.int .u64 (n : Int)]).run Tryz.prog w = .ok (.value (.float .f64 n)) w := by
  rw [run_callFunc_extern Tryz.func143 (by kernel_rfl) (by kernel_rfl) (by kernel_rfl) (e := Extern.MathFloatBits.float64frombits) (by kernel_rfl)]
  rfl
theorem to_run (n : Nat) (w : World) : (callFunc 153 #[.float .f64 n]).run Tryz.prog w = .ok (.value (.int .u64 (n : Int))) w := by
  rw [run_callFunc_extern Tryz.func153 (by kernel_rfl) (by kernel_rfl) (by kernel_rfl) (e := Extern.MathFloatBits.float64bits) (by kernel_rfl)]
  rfl
theorem and_not (n : Nat) (h : n < 18446744073709551616) : bits .andNot .u64 (n : Int) 9223372036854775808 = ((n % 9223372036854775808 : Nat) : Int) := by
  have := u64_andNot_nat n 9223372036854775808 h (by decide)
  rw [show ((9223372036854775808 : Nat) : Int) = 9223372036854775808 from rfl] at this
  rw [this]
  congr 1
  have h63 := Nat.and_two_pow_sub_one_eq_mod n 63
  exact h63
set_option maxRecDepth 100000 in
theorem abs_ (n : Nat) (h : n < 18446744073709551616) (w : World) : Calls Tryz.prog 146 #[.float .f64 n] w fun e w' => e = .returned (.float .f64 (n % 9223372036854775808)) ∧ w' = w := by
  have h1 := to_run n
  have h2 : ∀ w, (callFunc 143 #[.int .u64 ((n : Int) % 9223372036854775808)]).run Tryz.prog w = .ok (.value (.float .f64 (n % 9223372036854775808))) w := fun w => by
    have := from_run (n % 9223372036854775808) w
    rw [Int.natCast_emod] at this
    exact this
  have h3 : bits .andNot .u64 (n : Int) 9223372036854775808 = (n : Int) % 9223372036854775808 := by
    rw [and_not n h, Int.natCast_emod]; rfl
  go_enter Tryz.func146, Tryz.ntmps146
  go_wp2
  go_ret
  exact ⟨rfl, rfl⟩
set_option maxRecDepth 100000 in
theorem isNaN (n : Nat) (w : World) : Calls Tryz.prog 144 #[.float .f64 n] w fun e w' => e = .returned (.bool (ord n n != some .eq)) ∧ w' = w := by
  go_enter Tryz.func144, Tryz.ntmps144
  go_wp2
  go_ret
  exact ⟨rfl, rfl⟩
set_option maxRecDepth 100000 in
theorem isInf (n : Nat) (h : n < 18446744073709551616) (w : World) : Calls Tryz.prog 145 #[.float .f64 n, .int .i64 0] w fun e w' => e = .returned (.bool (ord (n % 9223372036854775808) 9218868437227405311 == some .gt)) ∧ w' = w := by
  go_enter Tryz.func145, Tryz.ntmps145
  go_wp2_with (go_at_call 9999)
  go_at_call 146
  refine (abs_ n h w).mono ?_
  rintro _ w1 ⟨rfl, rfl⟩
  go_wp2_with fail
  go_ret
  exact ⟨rfl, rfl⟩
/-- The tables of package utf8 stand as laid. -/
def TabU (w : World) : Prop := Lib.Utf8Tabs 2 3 w
theorem TabU.below {w w' : World} (h : TabU w) (hb : Below w.heap.size w w') : TabU w' := Go.Proofs.Utf8Tabs_below h hb
/-- What Valid says of bytes. -/
def UtfSaid (U : List UInt8 → Bool) : Prop := ∀ (v : Value) (l : List UInt8) (w : World), Rd w v l → TabU w → Calls Tryz.prog 147 #[v] w fun e w' => e = .returned (.bool (U l)) ∧ Below w.heap.size w w'
section
variable (w : World)
theorem b1 (o : Obj) : Below w.heap.size w (w.alloc o) := (Below.refl _ _).alloc (Nat.le_refl _) _
theorem b2 (o o' : Obj) : Below w.heap.size w ((w.alloc o).alloc o') := (b1 w o).trans ((b1 _ o').mono (by simp))
theorem b3 (o o' o'' : Obj) : Below w.heap.size w (((w.alloc o).alloc o').alloc o'') := (b2 w o o').trans ((b1 _ o'').mono (by simp; omega))
theorem b4 (o o' o'' o3 : Obj) : Below w.heap.size w ((((w.alloc o).alloc o').alloc o'').alloc o3) := (b3 w o o' o'').trans ((b1 _ o3).mono (by simp; omega))
theorem b5 (o o' o'' o3 o4 : Obj) : Below w.heap.size w (((((w.alloc o).alloc o').alloc o'').alloc o3).alloc o4) := (b4 w o o' o'' o3).trans ((b1 _ o4).mono (by simp; omega))
end
set_option maxRecDepth 100000 in
theorem bad_number (a b num items : Nat) (dv pv : Value) (w : World) : Calls Tryz.prog 118 #[.iface 204 (.agg #[.int .u64 (a : Int), .int .u64 (b : Int)]), .agg #[.int .u64 (num : Int), dv, pv], .int .i64 (items : Int)] w fun e w' => e = .returned (.int .i64 (Vu.within num a b)) ∧ Below w.heap.size w w' := by
  go_enter Tryz.func118, Tryz.ntmps118
  go_wp2_with (go_at_call 9999)
  go_at_call 142
  refine (Vg.within num a b _).mono ?_
  rintro _ w1 ⟨rfl, rfl⟩
  go_wp2_with fail
  go_ret
  exact ⟨rfl, b2 _ _ _⟩
set_option maxRecDepth 100000 in
theorem bad_list (g a b num items : Nat) (hi : items < 9223372036854775808) (dv pv : Value) (w : World) : Calls Tryz.prog 118 #[.iface 201 (.agg #[ptr g, .int .u64 (a : Int), .int .u64 (b : Int)]), .agg #[.int .u64 (num : Int), dv, pv], .int .i64 (items : Int)] w fun e w' => e = .returned (.int .i64 (Vu.within items a b)) ∧ Below w.heap.size w w' := by
  unfold ptr
  have hw : IntKind.u64.wrap (items : Int) = (items : Int) := by rw [IntKind.wrap_u64]; omega
  go_enter Tryz.func118, Tryz.ntmps118
  go_wp2_with (go_at_call 9999)
  go_at_call 142
  refine (Vg.within items a b _).mono ?_
  rintro _ w1 ⟨rfl, rfl⟩
  go_wp2_with fail
  go_ret
  exact ⟨rfl, b2 _ _ _⟩
theorem rint {a b : Int} (h : a = b) : Ending.returned (.int .i64 a) = .returned (.int .i64 b) := by rw [h]
set_option maxRecDepth 100000 in
theorem bad_data {U : List UInt8 → Bool} (HU : UtfSaid U) (a b num items : Nat) (tx : Bool) (dv pv : Value) (l : List UInt8) (w : World) (hd : Rd w dv l) (hT : TabU w) : Calls Tryz.prog 118 #[.iface 210 (.agg #[.int .u64 (a : Int), .int .u64 (b : Int), .bool tx]), .agg #[.int .u64 (num : Int), dv, pv], .int .i64 (items : Int)] w fun e w' => e = .returned (.int .i64 (if Vu.within l.length a b ≠ 0 then 83 else if tx = true ∧ U l = false then 84 else 0)) ∧ Below w.heap.size w w' := by
  obtain ⟨A, c, rfl, hlc, hcm⟩ : ∃ A c, dv = .slice A l.length c ∧ l.length ≤ c ∧ c ≤ maxLen := by obtain ⟨A, c, e, h1, h2, -⟩ := hd; exact ⟨A, c, e, h1, h2⟩
  unfold maxLen at hcm
  have hw : IntKind.u64.wrap (l.length : Int) = (l.length : Int) := by rw [IntKind.wrap_u64]; omega
  obtain ⟨R, hR⟩ : ∃ R, R = (if Vu.within l.length a b ≠ 0 then (83 : Int) else if tx = true ∧ U l = false then 84 else 0) := ⟨_, rfl⟩
  rw [← hR]
  have HR := Lib.hid hR; clear hR
  go_enter Tryz.func118, Tryz.ntmps118
  go_wp2_with (go_at_call 9999)
  go_at_call 142
  refine (Vg.within l.length a b _).mono ?_
  rintro _ w1 ⟨rfl, rfl⟩
  by_cases hE : Vu.within l.length a b = 0
  · have hR2 := HR.out
    rw [if_neg (by omega)] at hR2
    have HR2 := Lib.hid hR2
    rw [hE]
    have hu := HU (.slice A l.length c) l ((w.alloc (.cells #[.int .u64 (num : Int), .slice A l.length c, pv] 32)).alloc (.cells #[.int .u64 (a : Int), .int .u64 (b : Int), .bool tx] 210)) (hd.below (b2 _ _ _)) (hT.below (b2 _ _ _))
    have HUU := Lib.hid hu; clear hu hE HU hd hT HR hR2
    cases tx with
    | false =>
      go_wp2_with fail
      go_ret
      exact ⟨rint (by rw [HR2.out]; simp), b2 _ _ _⟩
    | true =>
      go_wp2_with (go_at_call 9999)
      go_at_call 147
      refine HUU.out.mono ?_
      rintro _ w2 ⟨rfl, bb⟩
      have BB := Lib.hid ((b2 w _ _).trans (bb.mono (by simp; omega)))
      clear bb HUU
      cases hU : U l with
      | true =>
        go_wp2_with fail
        go_ret
        exact ⟨rint (by rw [HR2.out]; simp [hU]), BB.out⟩
      | false =>
        go_wp2_with fail
        go_ret
        exact ⟨rint (by rw [HR2.out]; simp [hU]), BB.out⟩
  · have hE83 : Vu.within l.length a b = 83 := by unfold Vu.within at *; split <;> simp_all
    have hR2 := HR.out
    rw [if_pos hE] at hR2
    have HR2 := Lib.hid hR2; clear hR2
    rw [hE83]
    go_wp2_with fail
    go_ret
    exact ⟨rint HR2.out.symm, b2 _ _ _⟩
@[go_sem] theorem run_store_float (P : Program) (w : World) (a : Addr) (m : Mode) (k : FloatKind) (b : Nat) : (store a (.float k b) m).run P w = stored P w a (.float k b) m := run_store P w a _ m rfl
set_option maxRecDepth 100000 in
theorem bad_float (num most items : Nat) (hn : num < 18446744073709551616) (dv pv : Value) (w : World) : Calls Tryz.prog 118 #[.iface 207 (.agg #[fbits most]), .agg #[.int .u64 (num : Int), dv, pv], .int .i64 (items : Int)] w fun e w' => e = .returned (.int .i64 (pF num most)) ∧ Below w.heap.size w w' := by
  unfold fbits
  have hf := from_run num
  obtain ⟨R, hR⟩ : ∃ R, R = pF num most := ⟨_, rfl⟩
  rw [← hR]
  unfold pF at hR
  generalize FloatKind.f64.nearest (most : Int) = M at *
  have HR := Lib.hid hR; clear hR
  go_enter Tryz.func118, Tryz.ntmps118
  go_wp2_with (go_at_call 9999)
  go_at_call 144
  refine (isNaN num _).mono ?_
  rintro _ w1 ⟨rfl, rfl⟩
  have HI := Lib.hid (fun w => isInf num hn w); have HA := Lib.hid (fun w => abs_ num hn w); clear hf
  cases h1 : (ord num num != some .eq) with
  | true =>
    have hr := HR.out
    rw [h1] at hr
    have HR2 := Lib.hid hr; clear hr
    go_wp2_with fail
    go_ret
    exact ⟨rint (by rw [HR2.out]; simp), b2 _ _ _⟩
  | false =>
    have hr := HR.out
    rw [h1] at hr
    have HR2 := Lib.hid hr; clear hr
    go_wp2_with (go_at_call 9999)
    go_at_call 145
    refine (HI.out _).mono ?_
    rintro _ w1 ⟨rfl, rfl⟩
    cases h2 : (ord (num % 9223372036854775808) 9218868437227405311 == some .gt) with
    | true =>
      have hr := HR2.out
      rw [h2] at hr
      have HR3 := Lib.hid hr; clear hr
      go_wp2_with fail
      go_ret
      exact ⟨rint (by rw [HR3.out]; simp), b2 _ _ _⟩
    | false =>
      have hr := HR2.out
      rw [h2] at hr
      have HR3 := Lib.hid hr; clear hr
      obtain ⟨wz, hwz⟩ : ∃ x, x = (w.alloc (.cells #[.int .u64 (num : Int), dv, pv] 32)).alloc (.cells #[.float .f64 M] 207) := ⟨_, rfl⟩
      rw [← hwz]
      have hz : hp wz (w.heap.size + 1) = some (.cells #[.float .f64 M] 207 (0, 0)) := by rw [hwz]; exact hp_alloc_at _ _ (by simp)
      have hz0 : hp wz w.heap.size = some (.cells #[.int .u64 (num : Int), dv, pv] 32 (0, 0)) := by rw [hwz]; simp [go_sem]
      have hc0 := fun i => hp_cell hz0 i
      have hcell : ∀ u : Held (Like wz), u.w.cell? ⟨w.heap.size + 1, 0, none⟩ = some (.float .f64 M) := fun u => by obtain ⟨m, hm⟩ := u.h; rw [hm]; exact hp_cell ((hp_drewN m _).trans hz) 0
      have BZ := Lib.hid (show Below w.heap.size w wz by rw [hwz]; exact b2 _ _ _)
      clear hwz hz hz0
      cases h3 : (ord num 0 == some .eq) with
      | true =>
        have hr := HR3.out
        rw [h3] at hr
        have HR4 := Lib.hid hr; clear hr
        have h3' : (FloatKind.f64.format.order num 0 == some .eq) = true := h3
        by_cases h4 : num = 0
        · have h4' : (num : Int) = 0 := by omega
          have H4 := Lib.hid h4; clear h4
          go_wp2_with fail
          clear h4'
          refine wp_region_calm (S := Like wz) (by kernel_rfl) (by kernel_rfl) (Like.refl _) ?_
          intro hN
          repeat (go_big_quiet_step (first | (go_at_call 146; exact calm_call (HA.out _) (fun w' hs hr => hs.same hr))))
          refine wpQuiet_nil ?_
          intro u
          obtain ⟨m, hm⟩ := u.h
          rw [hm]
          have hBz : Below w.heap.size w (wz.drewN m) := ⟨BZ.out.os, BZ.out.tape, BZ.out.output, BZ.out.size, BZ.out.block⟩
          have HBZ := Lib.hid hBz; clear hBz hcell hN hm u
          generalize hOO : FloatKind.f64.format.order (num % 9223372036854775808) M = OO at *
          have HOO := Lib.hid hOO; clear hOO
          go_wp2_with fail
          all_goals
            go_ret
            refine ⟨rint ?_, HBZ.out⟩
            rw [HR4.out]
            have ho := HOO.out
            have h4 := H4.out
            subst h4
            rw [Nat.zero_mod] at ho
            simp_all [ord]
        · have h4' : ¬ (num : Int) = 0 := by omega
          go_wp2_with fail
          go_ret
          exact ⟨rint (by rw [HR4.out]; simp [h4]), BZ.out⟩
      | false =>
        have hr := HR3.out
        rw [h3] at hr
        have HR4 := Lib.hid hr; clear hr
        have h3' : (FloatKind.f64.format.order num 0 == some .eq) = false := h3
        go_wp2_with fail
        refine wp_region_calm (S := Like wz) (by kernel_rfl) (by kernel_rfl) (Like.refl _) ?_
        intro hN
        repeat (go_big_quiet_step (first | (go_at_call 146; exact calm_call (HA.out _) (fun w' hs hr => hs.same hr))))
        refine wpQuiet_nil ?_
        intro u
        obtain ⟨m, hm⟩ := u.h
        rw [hm]
        have hBz : Below w.heap.size w (wz.drewN m) := ⟨BZ.out.os, BZ.out.tape, BZ.out.output, BZ.out.size, BZ.out.block⟩
        have HBZ := Lib.hid hBz; clear hBz hcell hN hm u
        generalize hOO : FloatKind.f64.format.order (num % 9223372036854775808) M = OO at *
        have HOO := Lib.hid hOO; clear hOO
        go_wp2_with fail
        all_goals
          go_ret
          refine ⟨rint ?_, HBZ.out⟩
          rw [HR4.out]
          simp_all [ord, HOO.out]
end Go.Proofs.YtinngljphjdpoaaGreatDoor.Vh
/- utf8.word of bytes. -/
namespace Go.Proofs.YtinngljphjdpoaaGreatDoor.Uw
open Go Go.RowKit Go.Proofs.YtinngljphjdpoaaGreatDoor.Pa Go.Proofs.YtinngljphjdpoaaGreatDoor.Pb Go.Proofs.YtinngljphjdpoaaGreatDoor.Pf Go.Proofs.YtinngljphjdpoaaGreatDoor.Pq Go.Proofs.YtinngljphjdpoaaGreatDoor.Vh
set_option linter.unusedVariables false
set_option linter.unusedSimpArgs false
theorem below_drewN (w : World) (n : Nat) : Below w.heap.size w (w.drewN n) := ⟨rfl, rfl, rfl, Nat.le_refl _, fun _ _ => rfl⟩
theorem Like.below {w W : World} (h : Like w W) : Below w.heap.size w W := by obtain ⟨n, rfl⟩ := h; exact below_drewN w n
/-- A byte behind an address. -/
theorem rd_byte {w : World} {ad : Addr} {n c : Nat} {l : List UInt8} (h : Rd w (.slice (some ad) n c) l) (j : Nat) (hj : j < l.length) (h0 : 0 < j) (x : Nat) (hx : l[j].toNat = x) : w.cell? ⟨ad.block, ad.off + j, none⟩ = some (.int .u8 (x : Int)) := by
  obtain ⟨ad', e, hc⟩ := h.at_ j hj
  cases e
  rw [← hx, ← hc]
  unfold Addr.add
  rw [if_neg (by omega)]
theorem rd_byte0 {w : World} {ad : Addr} {n c : Nat} {l : List UInt8} (h : Rd w (.slice (some ad) n c) l) (hj : 0 < l.length) (x : Nat) (hx : l[0].toNat = x) : w.cell? ad = some (.int .u8 (x : Int)) := by
  obtain ⟨ad', e, hc⟩ := h.at_ 0 hj
  cases e
  rw [← hx, ← hc]
  rfl
set_option maxHeartbeats 4000000 in
set_option maxRecDepth 100000 in
theorem word8 (v : Value) (l : List UInt8) (w : World) (h : Rd w v l) (h8 : 8 ≤ l.length) :
    Calls Tryz.prog 154 #[v] w fun e w' => e = .returned (.int .u64 (Lib.leNat (l.take 8))) ∧ ∃ q, w' = w.drewN q := by
  obtain ⟨A, c, rfl, h1, h2, -⟩ := id h
  obtain ⟨ad, rfl, -⟩ := h.at_ 0 (by omega)
  obtain ⟨x0, hx0⟩ : ∃ x, l[0].toNat = x := ⟨_, rfl⟩
  obtain ⟨x1, hx1⟩ : ∃ x, l[1].toNat = x := ⟨_, rfl⟩
  obtain ⟨x2, hx2⟩ : ∃ x, l[2].toNat = x := ⟨_, rfl⟩
  obtain ⟨x3, hx3⟩ : ∃ x, l[3].toNat = x := ⟨_, rfl⟩
  obtain ⟨x4, hx4⟩ : ∃ x, l[4].toNat = x := ⟨_, rfl⟩
  obtain ⟨x5, hx5⟩ : ∃ x, l[5].toNat = x := ⟨_, rfl⟩
  obtain ⟨x6, hx6⟩ : ∃ x, l[6].toNat = x := ⟨_, rfl⟩
  obtain ⟨x7, hx7⟩ : ∃ x, l[7].toNat = x := ⟨_, rfl⟩
  have hr : ∀ u : Held (Like w), Rd u.w (.slice (some ad) l.length c) l := fun u => h.below (Like.below u.h)
  have g0 := fun u => rd_byte0 (hr u) (by omega) x0 hx0
  have g1 := fun u => rd_byte (hr u) 1 (by omega) (by omega) x1 hx1
  have g2 := fun u => rd_byte (hr u) 2 (by omega) (by omega) x2 hx2
  have g3 := fun u => rd_byte (hr u) 3 (by omega) (by omega) x3 hx3
  have g4 := fun u => rd_byte (hr u) 4 (by omega) (by omega) x4 hx4
  have g5 := fun u => rd_byte (hr u) 5 (by omega) (by omega) x5 hx5
  have g6 := fun u => rd_byte (hr u) 6 (by omega) (by omega) x6 hx6
  have g7 := fun u => rd_byte (hr u) 7 (by omega) (by omega) x7 hx7
  have b0 : x0 < 256 := hx0 ▸ l[0].toNat_lt
  have b1 : x1 < 256 := hx1 ▸ l[1].toNat_lt
  have b2 : x2 < 256 := hx2 ▸ l[2].toNat_lt
  have b3 : x3 < 256 := hx3 ▸ l[3].toNat_lt
  have b4 : x4 < 256 := hx4 ▸ l[4].toNat_lt
  have b5 : x5 < 256 := hx5 ▸ l[5].toNat_lt
  have b6 : x6 < 256 := hx6 ▸ l[6].toNat_lt
  have b7 : x7 < 256 := hx7 ▸ l[7].toNat_lt
  have hv : ((Lib.leNat (l.take 8) : Nat) : Int) = (x0 : Int) + (x1 : Int) * 256 + (x2 : Int) * 65536 + (x3 : Int) * 16777216 + (x4 : Int) * 4294967296 + (x5 : Int) * 1099511627776 + (x6 : Int) * 281474976710656 + (x7 : Int) * 72057594037927936 := by
    clear g0 g1 g2 g3 g4 g5 g6 g7 hr b0 b1 b2 b3 b4 b5 b6 b7 h
    obtain ⟨a0, a1, a2, a3, a4, a5, a6, a7, r, hl⟩ : ∃ a0 a1 a2 a3 a4 a5 a6 a7 r, l = a0 :: a1 :: a2 :: a3 :: a4 :: a5 :: a6 :: a7 :: r := by
      match l, h8 with
      | a0 :: a1 :: a2 :: a3 :: a4 :: a5 :: a6 :: a7 :: r, _ => exact ⟨_, _, _, _, _, _, _, _, _, rfl⟩
    subst hl
    simp at hx0 hx1 hx2 hx3 hx4 hx5 hx6 hx7
    simp only [List.take_succ_cons, List.take_zero, Lib.leNat, hx0, hx1, hx2, hx3, hx4, hx5, hx6, hx7]
    push_cast
    omega
  obtain ⟨A, hA⟩ : ∃ A, A = Lib.leNat (l.take 8) := ⟨_, rfl⟩
  rw [← hA] at hv ⊢
  have q0 : (0 : Int) < (l.length : Int) := by omega
  have q1 : (1 : Int) < (l.length : Int) := by omega
  have q2 : (2 : Int) < (l.length : Int) := by omega
  have q3 : (3 : Int) < (l.length : Int) := by omega
  have q4 : (4 : Int) < (l.length : Int) := by omega
  have q5 : (5 : Int) < (l.length : Int) := by omega
  have q6 : (6 : Int) < (l.length : Int) := by omega
  have q7 : (7 : Int) < (l.length : Int) := by omega
  have HV := Lib.hid hv
  clear hr hx0 hx1 hx2 hx3 hx4 hx5 hx6 hx7 hA h hv h1 h2
  generalize l.length = n at *
  clear h8
  go_enter Tryz.func154, Tryz.ntmps154
  go_wp2_with fail
  refine wp_region_calm (S := Like w) (by kernel_rfl) (by kernel_rfl) (Like.refl _) ?_
  intro hN
  repeat (go_big_quiet_step (fail))
  refine wpQuiet_nil ?_
  intro u
  obtain ⟨m, hm⟩ := u.h
  rw [hm]
  clear g0 g1 g2 g3 g4 g5 g6 g7 hN
  go_wp2_with fail
  go_ret
  refine ⟨?_, _, rfl⟩
  simp (disch := omega) only [u64_wrap_id, u64_or8, u64_or16, u64_or24, u64_or32, u64_or40, u64_or48, u64_or56]
  rw [HV.out]; rfl
end Go.Proofs.YtinngljphjdpoaaGreatDoor.Uw
