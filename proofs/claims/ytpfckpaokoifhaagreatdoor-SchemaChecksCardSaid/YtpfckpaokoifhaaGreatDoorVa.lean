/- The program's bounded, nested, canBe. -/
import Derived.Test.YtpfckpaokoifhaaGreatDoorSl
namespace Go.Proofs.YtpfckpaokoifhaaGreatDoor.Va
open Go Go.RowKit Go.Proofs.YtpfckpaokoifhaaGreatDoor.Pa Go.Proofs.YtpfckpaokoifhaaGreatDoor.Pb Go.Proofs.YtpfckpaokoifhaaGreatDoor.Pf Go.Proofs.YtpfckpaokoifhaaGreatDoor.Sc Go.Proofs.YtpfckpaokoifhaaGreatDoor.Rs
set_option linter.unusedVariables false
set_option linter.unusedSimpArgs false

/-- A slot's cells. -/
def sc (t : Slot) (sv : Value) : Value := .agg #[.int .i64 t.no, .int .i64 t.kind, .int .u64 t.least, .int .u64 t.most, sv]
theorem bnd_at (no kind : Int) (least most : Nat) (sub : List Slot) : bnd (.mk no kind least most sub) =
    if kind = 1 ∨ kind = 3 then decide (least ≤ most)
    else if kind = 2 then decide (least ≤ most) && decide (most ≤ 4294967295)
    else if kind = 4 ∨ kind = 8 then decide (least = 0) && decide (most = 0)
    else if kind = 5 ∨ kind = 6 then decide (least ≤ most) && decide (most ≤ 4194304)
    else if kind = 7 then decide (least = 0) && decide (most ≤ 9007199254740992)
    else if kind = 9 then decide (least ≤ most) && decide (most ≤ 4096)
    else false := rfl

theorem nested (k : Int) (w : World) : Calls Tryz.prog 59 #[.int .i64 k] w fun e w' => e = .returned (.bool (decide (k = 8 ∨ k = 9))) ∧ w = w' := by
  by_cases h : k = 8
  · subst h
    go_enter Tryz.func59, Tryz.ntmps59
    go_wp2
    go_ret
    exact ⟨rfl, rfl⟩
  · have e1 : (k == 8) = false := by simpa using h
    go_enter Tryz.func59, Tryz.ntmps59
    go_wp2
    go_ret
    exact ⟨ret_bool (by rw [Bool.eq_iff_iff]; simp [h]), rfl⟩

theorem nested' (no kind : Int) (least most : Nat) (sub : List Slot) (w : World) : Calls Tryz.prog 59 #[.int .i64 kind] w fun e w' => e = .returned (.bool (nest (.mk no kind least most sub))) ∧ w = w' := nested kind w
theorem bounded (no kind : Int) (least most : Nat) (sub : List Slot) (sv : Value) (w : World) (h1 : sv.oneCell' = true) :
    Calls Tryz.prog 58 #[.agg #[.int .i64 no, .int .i64 kind, .int .u64 least, .int .u64 most, sv]] w fun e w' => e = .returned (.bool (bnd (.mk no kind least most sub))) ∧ Below w.heap.size w w' := by
  have hb := bnd_at no kind least most sub
  generalize bnd (.mk no kind least most sub) = r at hb ⊢
  subst hb
  by_cases k1 : kind = 1
  · subst k1
    go_enter Tryz.func58, Tryz.ntmps58
    go_wp2
    go_ret
    exact ⟨ret_bool (by simp), (Below.refl _ _).alloc (Nat.le_refl _) _⟩
  by_cases k3 : kind = 3
  · subst k3
    go_enter Tryz.func58, Tryz.ntmps58
    go_wp2
    go_ret
    exact ⟨ret_bool (by simp), (Below.refl _ _).alloc (Nat.le_refl _) _⟩
  by_cases k2 : kind = 2
  · subst k2
    by_cases h : least ≤ most
    · have g : (least : Int) ≤ (most : Int) := by omega
      have H := Lib.hid h; clear h
      go_enter Tryz.func58, Tryz.ntmps58
      go_wp2
      go_ret
      have h := H.out
      exact ⟨ret_bool (by rw [Bool.eq_iff_iff]; simp [h]; try omega), (Below.refl _ _).alloc (Nat.le_refl _) _⟩
    · have g : ¬ (least : Int) ≤ (most : Int) := by omega
      have H := Lib.hid h; clear h
      go_enter Tryz.func58, Tryz.ntmps58
      go_wp2
      go_ret
      have h := H.out
      exact ⟨ret_bool (by simp [h]), (Below.refl _ _).alloc (Nat.le_refl _) _⟩
  by_cases k4 : kind = 4
  · subst k4
    by_cases h : least = 0
    · have g : ((least : Int) == 0) = true := by simp [h]
      have H := Lib.hid h; clear h
      go_enter Tryz.func58, Tryz.ntmps58
      go_wp2
      go_ret
      have h := H.out
      exact ⟨ret_bool (by rw [Bool.eq_iff_iff]; simp [h]; try omega), (Below.refl _ _).alloc (Nat.le_refl _) _⟩
    · have g : ((least : Int) == 0) = false := by simp; omega
      have H := Lib.hid h; clear h
      go_enter Tryz.func58, Tryz.ntmps58
      go_wp2
      go_ret
      have h := H.out
      exact ⟨ret_bool (by simp [h]), (Below.refl _ _).alloc (Nat.le_refl _) _⟩
  by_cases k8 : kind = 8
  · subst k8
    by_cases h : least = 0
    · have g : ((least : Int) == 0) = true := by simp [h]
      have H := Lib.hid h; clear h
      go_enter Tryz.func58, Tryz.ntmps58
      go_wp2
      go_ret
      have h := H.out
      exact ⟨ret_bool (by rw [Bool.eq_iff_iff]; simp [h]; try omega), (Below.refl _ _).alloc (Nat.le_refl _) _⟩
    · have g : ((least : Int) == 0) = false := by simp; omega
      have H := Lib.hid h; clear h
      go_enter Tryz.func58, Tryz.ntmps58
      go_wp2
      go_ret
      have h := H.out
      exact ⟨ret_bool (by simp [h]), (Below.refl _ _).alloc (Nat.le_refl _) _⟩
  by_cases k5 : kind = 5
  · subst k5
    by_cases h : least ≤ most
    · have g : (least : Int) ≤ (most : Int) := by omega
      have H := Lib.hid h; clear h
      go_enter Tryz.func58, Tryz.ntmps58
      go_wp2
      go_ret
      have h := H.out
      exact ⟨ret_bool (by rw [Bool.eq_iff_iff]; simp [h]; try omega), (Below.refl _ _).alloc (Nat.le_refl _) _⟩
    · have g : ¬ (least : Int) ≤ (most : Int) := by omega
      have H := Lib.hid h; clear h
      go_enter Tryz.func58, Tryz.ntmps58
      go_wp2
      go_ret
      have h := H.out
      exact ⟨ret_bool (by simp [h]), (Below.refl _ _).alloc (Nat.le_refl _) _⟩
  by_cases k6 : kind = 6
  · subst k6
    by_cases h : least ≤ most
    · have g : (least : Int) ≤ (most : Int) := by omega
      have H := Lib.hid h; clear h
      go_enter Tryz.func58, Tryz.ntmps58
      go_wp2
      go_ret
      have h := H.out
      exact ⟨ret_bool (by rw [Bool.eq_iff_iff]; simp [h]; try omega), (Below.refl _ _).alloc (Nat.le_refl _) _⟩
    · have g : ¬ (least : Int) ≤ (most : Int) := by omega
      have H := Lib.hid h; clear h
      go_enter Tryz.func58, Tryz.ntmps58
      go_wp2
      go_ret
      have h := H.out
      exact ⟨ret_bool (by simp [h]), (Below.refl _ _).alloc (Nat.le_refl _) _⟩
  by_cases k7 : kind = 7
  · subst k7
    by_cases h : least = 0
    · have g : ((least : Int) == 0) = true := by simp [h]
      have H := Lib.hid h; clear h
      go_enter Tryz.func58, Tryz.ntmps58
      go_wp2
      go_ret
      have h := H.out
      exact ⟨ret_bool (by rw [Bool.eq_iff_iff]; simp [h]; try omega), (Below.refl _ _).alloc (Nat.le_refl _) _⟩
    · have g : ((least : Int) == 0) = false := by simp; omega
      have H := Lib.hid h; clear h
      go_enter Tryz.func58, Tryz.ntmps58
      go_wp2
      go_ret
      have h := H.out
      exact ⟨ret_bool (by simp [h]), (Below.refl _ _).alloc (Nat.le_refl _) _⟩
  by_cases k9 : kind = 9
  · subst k9
    by_cases h : least ≤ most
    · have g : (least : Int) ≤ (most : Int) := by omega
      have H := Lib.hid h; clear h
      go_enter Tryz.func58, Tryz.ntmps58
      go_wp2
      go_ret
      have h := H.out
      exact ⟨ret_bool (by rw [Bool.eq_iff_iff]; simp [h]; try omega), (Below.refl _ _).alloc (Nat.le_refl _) _⟩
    · have g : ¬ (least : Int) ≤ (most : Int) := by omega
      have H := Lib.hid h; clear h
      go_enter Tryz.func58, Tryz.ntmps58
      go_wp2
      go_ret
      have h := H.out
      exact ⟨ret_bool (by simp [h]), (Below.refl _ _).alloc (Nat.le_refl _) _⟩
  have e1 : (kind == 1) = false := by simpa using k1
  have e3 : (kind == 3) = false := by simpa using k3
  have e2 : (kind == 2) = false := by simpa using k2
  have e4 : (kind == 4) = false := by simpa using k4
  have e8 : (kind == 8) = false := by simpa using k8
  have e5 : (kind == 5) = false := by simpa using k5
  have e6 : (kind == 6) = false := by simpa using k6
  have e7 : (kind == 7) = false := by simpa using k7
  have e9 : (kind == 9) = false := by simpa using k9
  rw [if_neg (by omega), if_neg (by omega), if_neg (by omega), if_neg (by omega), if_neg (by omega), if_neg (by omega)]
  go_enter Tryz.func58, Tryz.ntmps58
  go_wp2
  go_ret
  exact ⟨rfl, (Below.refl _ _).alloc (Nat.le_refl _) _⟩
end Go.Proofs.YtpfckpaokoifhaaGreatDoor.Va
