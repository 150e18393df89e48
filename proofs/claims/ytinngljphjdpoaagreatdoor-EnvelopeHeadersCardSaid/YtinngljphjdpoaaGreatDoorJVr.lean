/- The reference's Fits. -/
import Derived.Test.YtinngljphjdpoaaGreatDoorJCb
namespace Go.Proofs.YtinngljphjdpoaaGreatDoor.Vr
open Go Go.RowKit Go.Proofs.YtinngljphjdpoaaGreatDoor.Pa Go.Proofs.YtinngljphjdpoaaGreatDoor.Pb Go.Proofs.YtinngljphjdpoaaGreatDoor.Pf Go.Proofs.YtinngljphjdpoaaGreatDoor.Nz Go.Proofs.YtinngljphjdpoaaGreatDoor.Nm Go.Proofs.YtinngljphjdpoaaGreatDoor.Sc Go.Proofs.YtinngljphjdpoaaGreatDoor.Rs Go.Proofs.YtinngljphjdpoaaGreatDoor.Va Go.Proofs.YtinngljphjdpoaaGreatDoor.Vb Go.Proofs.YtinngljphjdpoaaGreatDoor.Vc Go.Proofs.YtinngljphjdpoaaGreatDoor.Vd
set_option linter.unusedVariables false
set_option linter.unusedSimpArgs false

theorem fits_at (no kind : Int) (least most : Nat) (sub : List Slot) : fits (.mk no kind least most sub) = (bnd (.mk no kind least most sub) && (decide (kind = 8 ∨ kind = 9) || decide (sub.length = 0))) := by
  unfold fits nest
  cases sub <;> rfl

set_option maxHeartbeats 2000000 in
theorem fits1 (no kind : Int) (least most : Nat) (sub : List Slot) (A2 : Option Addr) (c2 : Nat) (w : World) (hk : kind = 1 ∨ kind = 3) :
    Calls Tryz.prog 129 #[.agg #[.int .i64 no, .int .i64 kind, .int .u64 least, .int .u64 most, .slice A2 sub.length c2]] w fun e w' => e = .returned (.bool (fits (.mk no kind least most sub))) ∧ Below w.heap.size w w' := by
  rw [fits_at, bnd_at]
  generalize sub.length = n
  obtain ⟨r, hr⟩ : ∃ r, r = ((if kind = 1 ∨ kind = 3 then decide (least ≤ most)
    else if kind = 2 then decide (least ≤ most) && decide (most ≤ 4294967295)
    else if kind = 4 ∨ kind = 8 then decide (least = 0) && decide (most = 0)
    else if kind = 5 ∨ kind = 6 then decide (least ≤ most) && decide (most ≤ 4194304)
    else if kind = 7 then decide (least = 0) && decide (most ≤ 9007199254740992)
    else if kind = 9 then decide (least ≤ most) && decide (most ≤ 4096)
    else false) && (decide (kind = 8 ∨ kind = 9) || decide (n = 0))) := ⟨_, rfl⟩
  rw [← hr]
  rcases hk with rfl | rfl
  all_goals
    have hcase : (least = 0 ∧ least ≤ most ∨ ¬ least = 0 ∧ least ≤ most ∨ ¬ least = 0 ∧ ¬ least ≤ most) ∧ (n = 0 ∨ ¬ n = 0) := by omega
    obtain ⟨⟨h0, h1⟩ | ⟨h0, h1⟩ | ⟨h0, h1⟩, h2 | h2⟩ := hcase
    all_goals
      have g0 : ((least : Int) == 0) = decide (least = 0) := by rw [Bool.eq_iff_iff]; simp
      have g1 : decide ((least : Int) ≤ (most : Int)) = decide (least ≤ most) := by rw [Bool.eq_iff_iff]; simp
      have g2 : ((n : Int) == 0) = decide (n = 0) := by rw [Bool.eq_iff_iff]; simp
      simp only [h0, h1, h2, decide_true, decide_false] at g0 g1 g2 hr
      have HR := Lib.hid hr; have H0 := Lib.hid h0; have H1 := Lib.hid h1; have H2 := Lib.hid h2; clear hr h0 h1 h2
      go_enter Tryz.func129, Tryz.ntmps129
      go_wp2
      all_goals
        go_ret
        have h0 := H0.out
        have h1 := H1.out
        have h2 := H2.out
        exact ⟨ret_bool (by rw [HR.out, Bool.eq_iff_iff]; simp [*]; try omega), (Below.refl _ _).alloc (Nat.le_refl _) _⟩

set_option maxHeartbeats 2000000 in
theorem fits2 (no kind : Int) (least most : Nat) (sub : List Slot) (A2 : Option Addr) (c2 : Nat) (w : World) (hk : kind = 2) :
    Calls Tryz.prog 129 #[.agg #[.int .i64 no, .int .i64 kind, .int .u64 least, .int .u64 most, .slice A2 sub.length c2]] w fun e w' => e = .returned (.bool (fits (.mk no kind least most sub))) ∧ Below w.heap.size w w' := by
  rw [fits_at, bnd_at]
  generalize sub.length = n
  obtain ⟨r, hr⟩ : ∃ r, r = ((if kind = 1 ∨ kind = 3 then decide (least ≤ most)
    else if kind = 2 then decide (least ≤ most) && decide (most ≤ 4294967295)
    else if kind = 4 ∨ kind = 8 then decide (least = 0) && decide (most = 0)
    else if kind = 5 ∨ kind = 6 then decide (least ≤ most) && decide (most ≤ 4194304)
    else if kind = 7 then decide (least = 0) && decide (most ≤ 9007199254740992)
    else if kind = 9 then decide (least ≤ most) && decide (most ≤ 4096)
    else false) && (decide (kind = 8 ∨ kind = 9) || decide (n = 0))) := ⟨_, rfl⟩
  rw [← hr]
  subst hk
  have hcase : (least = 0 ∧ least ≤ most ∨ ¬ least = 0 ∧ least ≤ most ∨ ¬ least = 0 ∧ ¬ least ≤ most) ∧ (n = 0 ∨ ¬ n = 0) := by omega
  obtain ⟨⟨h0, h1⟩ | ⟨h0, h1⟩ | ⟨h0, h1⟩, h2 | h2⟩ := hcase
  all_goals
    have g0 : ((least : Int) == 0) = decide (least = 0) := by rw [Bool.eq_iff_iff]; simp
    have g1 : decide ((least : Int) ≤ (most : Int)) = decide (least ≤ most) := by rw [Bool.eq_iff_iff]; simp
    have g2 : ((n : Int) == 0) = decide (n = 0) := by rw [Bool.eq_iff_iff]; simp
    simp only [h0, h1, h2, decide_true, decide_false] at g0 g1 g2 hr
    have HR := Lib.hid hr; have H0 := Lib.hid h0; have H1 := Lib.hid h1; have H2 := Lib.hid h2; clear hr h0 h1 h2
    go_enter Tryz.func129, Tryz.ntmps129
    go_wp2
    all_goals
      go_ret
      have h0 := H0.out
      have h1 := H1.out
      have h2 := H2.out
      exact ⟨ret_bool (by rw [HR.out, Bool.eq_iff_iff]; simp [*]; try omega), (Below.refl _ _).alloc (Nat.le_refl _) _⟩

set_option maxHeartbeats 2000000 in
theorem fits3 (no kind : Int) (least most : Nat) (sub : List Slot) (A2 : Option Addr) (c2 : Nat) (w : World) (hk : kind = 4 ∨ kind = 8) :
    Calls Tryz.prog 129 #[.agg #[.int .i64 no, .int .i64 kind, .int .u64 least, .int .u64 most, .slice A2 sub.length c2]] w fun e w' => e = .returned (.bool (fits (.mk no kind least most sub))) ∧ Below w.heap.size w w' := by
  rw [fits_at, bnd_at]
  generalize sub.length = n
  obtain ⟨r, hr⟩ : ∃ r, r = ((if kind = 1 ∨ kind = 3 then decide (least ≤ most)
    else if kind = 2 then decide (least ≤ most) && decide (most ≤ 4294967295)
    else if kind = 4 ∨ kind = 8 then decide (least = 0) && decide (most = 0)
    else if kind = 5 ∨ kind = 6 then decide (least ≤ most) && decide (most ≤ 4194304)
    else if kind = 7 then decide (least = 0) && decide (most ≤ 9007199254740992)
    else if kind = 9 then decide (least ≤ most) && decide (most ≤ 4096)
    else false) && (decide (kind = 8 ∨ kind = 9) || decide (n = 0))) := ⟨_, rfl⟩
  rw [← hr]
  rcases hk with rfl | rfl
  all_goals
    have hcase : (least = 0 ∧ least ≤ most ∨ ¬ least = 0 ∧ least ≤ most ∨ ¬ least = 0 ∧ ¬ least ≤ most) ∧ (n = 0 ∨ ¬ n = 0) := by omega
    obtain ⟨⟨h0, h1⟩ | ⟨h0, h1⟩ | ⟨h0, h1⟩, h2 | h2⟩ := hcase
    all_goals
      have g0 : ((least : Int) == 0) = decide (least = 0) := by rw [Bool.eq_iff_iff]; simp
      have g1 : decide ((least : Int) ≤ (most : Int)) = decide (least ≤ most) := by rw [Bool.eq_iff_iff]; simp
      have g2 : ((n : Int) == 0) = decide (n = 0) := by rw [Bool.eq_iff_iff]; simp
      simp only [h0, h1, h2, decide_true, decide_false] at g0 g1 g2 hr
      have HR := Lib.hid hr; have H0 := Lib.hid h0; have H1 := Lib.hid h1; have H2 := Lib.hid h2; clear hr h0 h1 h2
      go_enter Tryz.func129, Tryz.ntmps129
      go_wp2
      all_goals
        go_ret
        have h0 := H0.out
        have h1 := H1.out
        have h2 := H2.out
        exact ⟨ret_bool (by rw [HR.out, Bool.eq_iff_iff]; simp [*]; try omega), (Below.refl _ _).alloc (Nat.le_refl _) _⟩

set_option maxHeartbeats 2000000 in
theorem fits4 (no kind : Int) (least most : Nat) (sub : List Slot) (A2 : Option Addr) (c2 : Nat) (w : World) (hk : kind = 5 ∨ kind = 6) :
    Calls Tryz.prog 129 #[.agg #[.int .i64 no, .int .i64 kind, .int .u64 least, .int .u64 most, .slice A2 sub.length c2]] w fun e w' => e = .returned (.bool (fits (.mk no kind least most sub))) ∧ Below w.heap.size w w' := by
  rw [fits_at, bnd_at]
  generalize sub.length = n
  obtain ⟨r, hr⟩ : ∃ r, r = ((if kind = 1 ∨ kind = 3 then decide (least ≤ most)
    else if kind = 2 then decide (least ≤ most) && decide (most ≤ 4294967295)
    else if kind = 4 ∨ kind = 8 then decide (least = 0) && decide (most = 0)
    else if kind = 5 ∨ kind = 6 then decide (least ≤ most) && decide (most ≤ 4194304)
    else if kind = 7 then decide (least = 0) && decide (most ≤ 9007199254740992)
    else if kind = 9 then decide (least ≤ most) && decide (most ≤ 4096)
    else false) && (decide (kind = 8 ∨ kind = 9) || decide (n = 0))) := ⟨_, rfl⟩
  rw [← hr]
  rcases hk with rfl | rfl
  all_goals
    have hcase : (least = 0 ∧ least ≤ most ∨ ¬ least = 0 ∧ least ≤ most ∨ ¬ least = 0 ∧ ¬ least ≤ most) ∧ (n = 0 ∨ ¬ n = 0) := by omega
    obtain ⟨⟨h0, h1⟩ | ⟨h0, h1⟩ | ⟨h0, h1⟩, h2 | h2⟩ := hcase
    all_goals
      have g0 : ((least : Int) == 0) = decide (least = 0) := by rw [Bool.eq_iff_iff]; simp
      have g1 : decide ((least : Int) ≤ (most : Int)) = decide (least ≤ most) := by rw [Bool.eq_iff_iff]; simp
      have g2 : ((n : Int) == 0) = decide (n = 0) := by rw [Bool.eq_iff_iff]; simp
      simp only [h0, h1, h2, decide_true, decide_false] at g0 g1 g2 hr
      have HR := Lib.hid hr; have H0 := Lib.hid h0; have H1 := Lib.hid h1; have H2 := Lib.hid h2; clear hr h0 h1 h2
      go_enter Tryz.func129, Tryz.ntmps129
      go_wp2
      all_goals
        go_ret
        have h0 := H0.out
        have h1 := H1.out
        have h2 := H2.out
        exact ⟨ret_bool (by rw [HR.out, Bool.eq_iff_iff]; simp [*]; try omega), (Below.refl _ _).alloc (Nat.le_refl _) _⟩

set_option maxHeartbeats 2000000 in
theorem fits5 (no kind : Int) (least most : Nat) (sub : List Slot) (A2 : Option Addr) (c2 : Nat) (w : World) (hk : kind = 7) :
    Calls Tryz.prog 129 #[.agg #[.int .i64 no, .int .i64 kind, .int .u64 least, .int .u64 most, .slice A2 sub.length c2]] w fun e w' => e = .returned (.bool (fits (.mk no kind least most sub))) ∧ Below w.heap.size w w' := by
  rw [fits_at, bnd_at]
  generalize sub.length = n
  obtain ⟨r, hr⟩ : ∃ r, r = ((if kind = 1 ∨ kind = 3 then decide (least ≤ most)
    else if kind = 2 then decide (least ≤ most) && decide (most ≤ 4294967295)
    else if kind = 4 ∨ kind = 8 then decide (least = 0) && decide (most = 0)
    else if kind = 5 ∨ kind = 6 then decide (least ≤ most) && decide (most ≤ 4194304)
    else if kind = 7 then decide (least = 0) && decide (most ≤ 9007199254740992)
    else if kind = 9 then decide (least ≤ most) && decide (most ≤ 4096)
    else false) && (decide (kind = 8 ∨ kind = 9) || decide (n = 0))) := ⟨_, rfl⟩
  rw [← hr]
  subst hk
  have hcase : (least = 0 ∧ least ≤ most ∨ ¬ least = 0 ∧ least ≤ most ∨ ¬ least = 0 ∧ ¬ least ≤ most) ∧ (n = 0 ∨ ¬ n = 0) := by omega
  obtain ⟨⟨h0, h1⟩ | ⟨h0, h1⟩ | ⟨h0, h1⟩, h2 | h2⟩ := hcase
  all_goals
    have g0 : ((least : Int) == 0) = decide (least = 0) := by rw [Bool.eq_iff_iff]; simp
    have g1 : decide ((least : Int) ≤ (most : Int)) = decide (least ≤ most) := by rw [Bool.eq_iff_iff]; simp
    have g2 : ((n : Int) == 0) = decide (n = 0) := by rw [Bool.eq_iff_iff]; simp
    simp only [h0, h1, h2, decide_true, decide_false] at g0 g1 g2 hr
    have HR := Lib.hid hr; have H0 := Lib.hid h0; have H1 := Lib.hid h1; have H2 := Lib.hid h2; clear hr h0 h1 h2
    go_enter Tryz.func129, Tryz.ntmps129
    go_wp2
    all_goals
      go_ret
      have h0 := H0.out
      have h1 := H1.out
      have h2 := H2.out
      exact ⟨ret_bool (by rw [HR.out, Bool.eq_iff_iff]; simp [*]; try omega), (Below.refl _ _).alloc (Nat.le_refl _) _⟩

set_option maxHeartbeats 2000000 in
theorem fits6 (no kind : Int) (least most : Nat) (sub : List Slot) (A2 : Option Addr) (c2 : Nat) (w : World) (hk : kind = 9) :
    Calls Tryz.prog 129 #[.agg #[.int .i64 no, .int .i64 kind, .int .u64 least, .int .u64 most, .slice A2 sub.length c2]] w fun e w' => e = .returned (.bool (fits (.mk no kind least most sub))) ∧ Below w.heap.size w w' := by
  rw [fits_at, bnd_at]
  generalize sub.length = n
  obtain ⟨r, hr⟩ : ∃ r, r = ((if kind = 1 ∨ kind = 3 then decide (least ≤ most)
    else if kind = 2 then decide (least ≤ most) && decide (most ≤ 4294967295)
    else if kind = 4 ∨ kind = 8 then decide (least = 0) && decide (most = 0)
    else if kind = 5 ∨ kind = 6 then decide (least ≤ most) && decide (most ≤ 4194304)
    else if kind = 7 then decide (least = 0) && decide (most ≤ 9007199254740992)
    else if kind = 9 then decide (least ≤ most) && decide (most ≤ 4096)
    else false) && (decide (kind = 8 ∨ kind = 9) || decide (n = 0))) := ⟨_, rfl⟩
  rw [← hr]
  subst hk
  have hcase : (least = 0 ∧ least ≤ most ∨ ¬ least = 0 ∧ least ≤ most ∨ ¬ least = 0 ∧ ¬ least ≤ most) ∧ (n = 0 ∨ ¬ n = 0) := by omega
  obtain ⟨⟨h0, h1⟩ | ⟨h0, h1⟩ | ⟨h0, h1⟩, h2 | h2⟩ := hcase
  all_goals
    have g0 : ((least : Int) == 0) = decide (least = 0) := by rw [Bool.eq_iff_iff]; simp
    have g1 : decide ((least : Int) ≤ (most : Int)) = decide (least ≤ most) := by rw [Bool.eq_iff_iff]; simp
    have g2 : ((n : Int) == 0) = decide (n = 0) := by rw [Bool.eq_iff_iff]; simp
    simp only [h0, h1, h2, decide_true, decide_false] at g0 g1 g2 hr
    have HR := Lib.hid hr; have H0 := Lib.hid h0; have H1 := Lib.hid h1; have H2 := Lib.hid h2; clear hr h0 h1 h2
    go_enter Tryz.func129, Tryz.ntmps129
    go_wp2
    all_goals
      go_ret
      have h0 := H0.out
      have h1 := H1.out
      have h2 := H2.out
      exact ⟨ret_bool (by rw [HR.out, Bool.eq_iff_iff]; simp [*]; try omega), (Below.refl _ _).alloc (Nat.le_refl _) _⟩

set_option maxHeartbeats 2000000 in
theorem fits7 (no kind : Int) (least most : Nat) (sub : List Slot) (A2 : Option Addr) (c2 : Nat) (w : World) (hk : ¬ kind = 1 ∧ ¬ kind = 2 ∧ ¬ kind = 3 ∧ ¬ kind = 4 ∧ ¬ kind = 5 ∧ ¬ kind = 6 ∧ ¬ kind = 7 ∧ ¬ kind = 8 ∧ ¬ kind = 9) :
    Calls Tryz.prog 129 #[.agg #[.int .i64 no, .int .i64 kind, .int .u64 least, .int .u64 most, .slice A2 sub.length c2]] w fun e w' => e = .returned (.bool (fits (.mk no kind least most sub))) ∧ Below w.heap.size w w' := by
  rw [fits_at, bnd_at]
  generalize sub.length = n
  obtain ⟨r, hr⟩ : ∃ r, r = ((if kind = 1 ∨ kind = 3 then decide (least ≤ most)
    else if kind = 2 then decide (least ≤ most) && decide (most ≤ 4294967295)
    else if kind = 4 ∨ kind = 8 then decide (least = 0) && decide (most = 0)
    else if kind = 5 ∨ kind = 6 then decide (least ≤ most) && decide (most ≤ 4194304)
    else if kind = 7 then decide (least = 0) && decide (most ≤ 9007199254740992)
    else if kind = 9 then decide (least ≤ most) && decide (most ≤ 4096)
    else false) && (decide (kind = 8 ∨ kind = 9) || decide (n = 0))) := ⟨_, rfl⟩
  rw [← hr]
  have e1 : (kind == 1) = false := by simpa using (by omega : ¬ kind = 1)
  have e3 : (kind == 3) = false := by simpa using (by omega : ¬ kind = 3)
  have e2 : (kind == 2) = false := by simpa using (by omega : ¬ kind = 2)
  have e4 : (kind == 4) = false := by simpa using (by omega : ¬ kind = 4)
  have e8 : (kind == 8) = false := by simpa using (by omega : ¬ kind = 8)
  have e5 : (kind == 5) = false := by simpa using (by omega : ¬ kind = 5)
  have e6 : (kind == 6) = false := by simpa using (by omega : ¬ kind = 6)
  have e7 : (kind == 7) = false := by simpa using (by omega : ¬ kind = 7)
  have e9 : (kind == 9) = false := by simpa using (by omega : ¬ kind = 9)
  rw [if_neg (by omega), if_neg (by omega), if_neg (by omega), if_neg (by omega), if_neg (by omega), if_neg (by omega)] at hr
  have hf : decide (kind = 8 ∨ kind = 9) = false := by simp; omega
  rw [hf] at hr
  clear hf hk
  have hcase : (least = 0 ∧ least ≤ most ∨ ¬ least = 0 ∧ least ≤ most ∨ ¬ least = 0 ∧ ¬ least ≤ most) ∧ (n = 0 ∨ ¬ n = 0) := by omega
  obtain ⟨⟨h0, h1⟩ | ⟨h0, h1⟩ | ⟨h0, h1⟩, h2 | h2⟩ := hcase
  all_goals
    have g0 : ((least : Int) == 0) = decide (least = 0) := by rw [Bool.eq_iff_iff]; simp
    have g1 : decide ((least : Int) ≤ (most : Int)) = decide (least ≤ most) := by rw [Bool.eq_iff_iff]; simp
    have g2 : ((n : Int) == 0) = decide (n = 0) := by rw [Bool.eq_iff_iff]; simp
    simp only [h0, h1, h2, decide_true, decide_false] at g0 g1 g2 hr
    have HR := Lib.hid hr; have H0 := Lib.hid h0; have H1 := Lib.hid h1; have H2 := Lib.hid h2; clear hr h0 h1 h2
    go_enter Tryz.func129, Tryz.ntmps129
    go_wp2
    all_goals
      go_ret
      have h0 := H0.out
      have h1 := H1.out
      have h2 := H2.out
      exact ⟨ret_bool (by rw [HR.out, Bool.eq_iff_iff]; simp [*]; try omega), (Below.refl _ _).alloc (Nat.le_refl _) _⟩

theorem rfits (no kind : Int) (least most : Nat) (sub : List Slot) (A2 : Option Addr) (c2 : Nat) (w : World) :
    Calls Tryz.prog 129 #[.agg #[.int .i64 no, .int .i64 kind, .int .u64 least, .int .u64 most, .slice A2 sub.length c2]] w fun e w' => e = .returned (.bool (fits (.mk no kind least most sub))) ∧ Below w.heap.size w w' := by
  by_cases hfits1 : kind = 1 ∨ kind = 3
  · exact fits1 no kind least most sub A2 c2 w hfits1
  by_cases hfits2 : kind = 2
  · exact fits2 no kind least most sub A2 c2 w hfits2
  by_cases hfits3 : kind = 4 ∨ kind = 8
  · exact fits3 no kind least most sub A2 c2 w hfits3
  by_cases hfits4 : kind = 5 ∨ kind = 6
  · exact fits4 no kind least most sub A2 c2 w hfits4
  by_cases hfits5 : kind = 7
  · exact fits5 no kind least most sub A2 c2 w hfits5
  by_cases hfits6 : kind = 9
  · exact fits6 no kind least most sub A2 c2 w hfits6
  exact fits7 no kind least most sub A2 c2 w (by omega)
end Go.Proofs.YtinngljphjdpoaaGreatDoor.Vr
