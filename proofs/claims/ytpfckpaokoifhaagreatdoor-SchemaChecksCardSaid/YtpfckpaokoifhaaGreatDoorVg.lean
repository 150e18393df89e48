/- give, within, the shapes' is. -/
import Derived.Test.YtpfckpaokoifhaaGreatDoorVu
import Derived.WalkLawsBesides
import Derived.Laws.Cover2
namespace Go.Proofs.YtpfckpaokoifhaaGreatDoor.Vg
open Go Go.RowKit Go.Proofs.YtpfckpaokoifhaaGreatDoor.Pa Go.Proofs.YtpfckpaokoifhaaGreatDoor.Pb Go.Proofs.YtpfckpaokoifhaaGreatDoor.Pf Go.Proofs.YtpfckpaokoifhaaGreatDoor.Pq Go.Proofs.YtpfckpaokoifhaaGreatDoor.Sc Go.Proofs.YtpfckpaokoifhaaGreatDoor.Rs Go.Proofs.YtpfckpaokoifhaaGreatDoor.Hs Go.Proofs.YtpfckpaokoifhaaGreatDoor.Ca Go.Proofs.YtpfckpaokoifhaaGreatDoor.Cb Go.Proofs.YtpfckpaokoifhaaGreatDoor.Vu
set_option linter.unusedVariables false
set_option linter.unusedSimpArgs false
/-- A panic of a fault. -/
def gave (f : Flt) : Ending := .panicked [{ v := .iface 41 (.agg #[.int .i64 f.1, .int .i64 f.2.1, .int .i64 f.2.2]), recovered := false }]
set_option maxRecDepth 100000 in
theorem give (line at_ why : Int) (w : World) : Calls Tryz.prog 36 #[.int .i64 line, .int .i64 at_, .int .i64 why] w fun e w' => e = gave (line, at_, why) ∧ w' = w := by
  go_enter Tryz.func36, Tryz.ntmps36
  go_wp2_with fail
  exact ⟨rfl, rfl, rfl⟩
set_option maxRecDepth 100000 in
theorem within (n least most : Nat) (w : World) : Calls Tryz.prog 89 #[.int .u64 (n : Int), .int .u64 (least : Int), .int .u64 (most : Int)] w fun e w' => e = .returned (.int .i64 (Vu.within n least most)) ∧ w' = w := by
  go_enter Tryz.func89, Tryz.ntmps89
  by_cases h1 : (n : Int) < least
  · have e : Vu.within n least most = 83 := by unfold Vu.within; rw [if_pos (.inl (by omega))]
    rw [e]
    go_wp2_with fail
    go_ret
    exact ⟨rfl, rfl⟩
  · by_cases h2 : (most : Int) < n
    · have e : Vu.within n least most = 83 := by unfold Vu.within; rw [if_pos (.inr (by omega))]
      rw [e]
      go_wp2_with fail
      go_ret
      exact ⟨rfl, rfl⟩
    · have e : Vu.within n least most = 0 := by unfold Vu.within; rw [if_neg (by omega)]
      rw [e]
      go_wp2_with fail
      go_ret
      exact ⟨rfl, rfl⟩
set_option maxRecDepth 100000 in
theorem is_number (a b : Nat) (num dl pl c c2 : Nat) (A B : Option Addr) (w : World) : Calls Tryz.prog 148 #[.agg #[.int .u64 (a : Int), .int .u64 (b : Int)], .agg #[.int .u64 (num : Int), .slice A dl c, .slice B pl c2]] w fun e w' => e = .returned (.bool (decide (dl = 0) && decide (pl = 0))) ∧ Below w.heap.size w w' := by
  have al : ∀ (w : World) (o : Obj), Below w.heap.size w (w.alloc o) := fun w o => (Below.refl _ _).alloc (Nat.le_refl _) _
  have bb : ∀ (o o' : Obj), Below w.heap.size w ((w.alloc o).alloc o') := fun o o' => (al w o).trans ((al _ o').mono (by simp))
  have BB := Lib.hid bb; clear al bb
  by_cases h1 : dl = 0
  · subst h1
    by_cases h2 : pl = 0
    · subst h2
      go_enter Tryz.func148, Tryz.ntmps148
      go_wp2_with fail
      go_ret
      exact ⟨rfl, BB.out _ _⟩
    · have h2' : ¬ (pl : Int) = 0 := by omega
      have h2b : ((pl : Int) == 0) = false := by simp; omega
      have e : decide (pl = 0) = false := decide_eq_false h2
      rw [e]
      go_enter Tryz.func148, Tryz.ntmps148
      go_wp2_with fail
      go_ret
      exact ⟨rfl, BB.out _ _⟩
  · have h1' : ¬ (dl : Int) = 0 := by omega
    have h1b : ((dl : Int) == 0) = false := by simp; omega
    have e : decide (dl = 0) = false := decide_eq_false h1
    rw [e, Bool.false_and]
    go_enter Tryz.func148, Tryz.ntmps148
    go_wp2_with fail
    go_ret
    exact ⟨rfl, BB.out _ _⟩
set_option maxRecDepth 100000 in
theorem is_float (fb : Nat) (num dl pl c c2 : Nat) (A B : Option Addr) (w : World) : Calls Tryz.prog 149 #[.agg #[.float .f64 fb], .agg #[.int .u64 (num : Int), .slice A dl c, .slice B pl c2]] w fun e w' => e = .returned (.bool (decide (dl = 0) && decide (pl = 0))) ∧ Below w.heap.size w w' := by
  have al : ∀ (w : World) (o : Obj), Below w.heap.size w (w.alloc o) := fun w o => (Below.refl _ _).alloc (Nat.le_refl _) _
  have bb : ∀ (o o' : Obj), Below w.heap.size w ((w.alloc o).alloc o') := fun o o' => (al w o).trans ((al _ o').mono (by simp))
  have BB := Lib.hid bb; clear al bb
  by_cases h1 : dl = 0
  · subst h1
    by_cases h2 : pl = 0
    · subst h2
      go_enter Tryz.func149, Tryz.ntmps149
      go_wp2_with fail
      go_ret
      exact ⟨rfl, BB.out _ _⟩
    · have h2' : ¬ (pl : Int) = 0 := by omega
      have h2b : ((pl : Int) == 0) = false := by simp; omega
      have e : decide (pl = 0) = false := decide_eq_false h2
      rw [e]
      go_enter Tryz.func149, Tryz.ntmps149
      go_wp2_with fail
      go_ret
      exact ⟨rfl, BB.out _ _⟩
  · have h1' : ¬ (dl : Int) = 0 := by omega
    have h1b : ((dl : Int) == 0) = false := by simp; omega
    have e : decide (dl = 0) = false := decide_eq_false h1
    rw [e, Bool.false_and]
    go_enter Tryz.func149, Tryz.ntmps149
    go_wp2_with fail
    go_ret
    exact ⟨rfl, BB.out _ _⟩
set_option maxRecDepth 100000 in
theorem is_data (a b : Nat) (tx : Bool) (num dl pl c c2 : Nat) (A B : Option Addr) (w : World) : Calls Tryz.prog 150 #[.agg #[.int .u64 (a : Int), .int .u64 (b : Int), .bool tx], .agg #[.int .u64 (num : Int), .slice A dl c, .slice B pl c2]] w fun e w' => e = .returned (.bool (decide (num = 0) && decide (pl = 0))) ∧ Below w.heap.size w w' := by
  have al : ∀ (w : World) (o : Obj), Below w.heap.size w (w.alloc o) := fun w o => (Below.refl _ _).alloc (Nat.le_refl _) _
  have bb : ∀ (o o' : Obj), Below w.heap.size w ((w.alloc o).alloc o') := fun o o' => (al w o).trans ((al _ o').mono (by simp))
  have BB := Lib.hid bb; clear al bb
  by_cases h1 : num = 0
  · subst h1
    by_cases h2 : pl = 0
    · subst h2
      go_enter Tryz.func150, Tryz.ntmps150
      go_wp2_with fail
      go_ret
      exact ⟨rfl, BB.out _ _⟩
    · have h2' : ¬ (pl : Int) = 0 := by omega
      have h2b : ((pl : Int) == 0) = false := by simp; omega
      have e : decide (pl = 0) = false := decide_eq_false h2
      rw [e]
      go_enter Tryz.func150, Tryz.ntmps150
      go_wp2_with fail
      go_ret
      exact ⟨rfl, BB.out _ _⟩
  · have h1' : ¬ (num : Int) = 0 := by omega
    have h1b : ((num : Int) == 0) = false := by simp; omega
    have e : decide (num = 0) = false := decide_eq_false h1
    rw [e, Bool.false_and]
    go_enter Tryz.func150, Tryz.ntmps150
    go_wp2_with fail
    go_ret
    exact ⟨rfl, BB.out _ _⟩
set_option maxRecDepth 100000 in
theorem is_list (g a b : Nat) (num dl pl c c2 : Nat) (A B : Option Addr) (w : World) : Calls Tryz.prog 147 #[.agg #[ptr g, .int .u64 (a : Int), .int .u64 (b : Int)], .agg #[.int .u64 (num : Int), .slice A dl c, .slice B pl c2]] w fun e w' => e = .returned (.bool (decide (num = 0) && decide (dl = 0))) ∧ Below w.heap.size w w' := by
  have al : ∀ (w : World) (o : Obj), Below w.heap.size w (w.alloc o) := fun w o => (Below.refl _ _).alloc (Nat.le_refl _) _
  have bb : ∀ (o o' : Obj), Below w.heap.size w ((w.alloc o).alloc o') := fun o o' => (al w o).trans ((al _ o').mono (by simp))
  have BB := Lib.hid bb; clear al bb
  unfold ptr
  by_cases h1 : num = 0
  · subst h1
    by_cases h2 : dl = 0
    · subst h2
      go_enter Tryz.func147, Tryz.ntmps147
      go_wp2_with fail
      go_ret
      exact ⟨rfl, BB.out _ _⟩
    · have h2' : ¬ (dl : Int) = 0 := by omega
      have h2b : ((dl : Int) == 0) = false := by simp; omega
      have e : decide (dl = 0) = false := decide_eq_false h2
      rw [e]
      go_enter Tryz.func147, Tryz.ntmps147
      go_wp2_with fail
      go_ret
      exact ⟨rfl, BB.out _ _⟩
  · have h1' : ¬ (num : Int) = 0 := by omega
    have h1b : ((num : Int) == 0) = false := by simp; omega
    have e : decide (num = 0) = false := decide_eq_false h1
    rw [e, Bool.false_and]
    go_enter Tryz.func147, Tryz.ntmps147
    go_wp2_with fail
    go_ret
    exact ⟨rfl, BB.out _ _⟩
end Go.Proofs.YtpfckpaokoifhaaGreatDoor.Vg
