/- The reference's Fits. -/
import Derived.Test.YtinngljphjdpoaaGreatDoorJCb
namespace Go.Proofs.YtinngljphjdpoaaGreatDoor.Vr
open Go Go.RowKit Go.Proofs.YtinngljphjdpoaaGreatDoor.Pa Go.Proofs.YtinngljphjdpoaaGreatDoor.Pb Go.Proofs.YtinngljphjdpoaaGreatDoor.Pf Go.Proofs.YtinngljphjdpoaaGreatDoor.Nz Go.Proofs.YtinngljphjdpoaaGreatDoor.Nm Go.Proofs.YtinngljphjdpoaaGreatDoor.Sc Go.Proofs.YtinngljphjdpoaaGreatDoor.Rs Go.Proofs.YtinngljphjdpoaaGreatDoor.Va Go.Proofs.YtinngljphjdpoaaGreatDoor.Vb Go.Proofs.YtinngljphjdpoaaGreatDoor.Vc Go.Proofs.YtinngljphjdpoaaGreatDoor.Vd
set_option linter.unusedVariables false
set_option linter.unusedSimpArgs false

theorem fits_at (no kind : Int) (least most : Nat) (sub : List Slot) : fits (.mk no kind least most sub) = (bnd (.mk no kind least most sub) && (decide (kind = 8 ∨ kind = 9) || decide (sub.length = 0))) := by
  unfold fits nest
  cases sub <;> rfl

set_option maxHeartbeats 2000000 in
theorem fits1 (no kind : Int) (least most : Nat) (sub : List Slot) (A2 : Option Addr) (c2 : Nat) (w : World) (hk : kind = 1 ∨ kind = 3) :
    Calls Tryz.prog 129 #[.agg #[.int .i64 no, .int .i64 kind, .int .u64 least, .int .u64 most, .slice A2 sub.length c2]] w fun e w' => e = .returned (.bool (fits (.mk no kind least most sub))) ∧ Below w.heap.size w w' := by
  rw [fits_at, bnd_at]
  generalize sub.length = n
  obtain ⟨r, hr⟩ : ∃ r, r = ((if kind = 1 ∨ kind = 3 then decide (least ≤ most)
    else if kind = 2 then decide (least ≤ most) && decide (most ≤ 4294967295)
    else if kind = 4 ∨ kind = 8 then decide (least = 0) && decide (most = 0)
    else if kind = 5 ∨ kind = 6 then decide (least ≤ most) && decide (most ≤ 4194304)
    else if kind = 7 then decide (least = 0) && decide (most ≤ 9007199254740992)
    else if kind = 9 then decide (least ≤ most) && decide (most ≤ 4096)
    else false) && (decide (kind = 8 ∨ kind = 9) || decide (n = 0))) := ⟨_, rfl⟩
  rw [← hr]
  rcases hk with rfl | rfl
  all_goals
    have hcase : (least = 0 ∧ least ≤ most ∨ ¬ least = 0 ∧ least ≤ most ∨ ¬ least = 0 ∧ ¬ least ≤ most) ∧ (n = 0 ∨ ¬ n = 0) := by omega
    obtain ⟨⟨h0, h1⟩ | ⟨h0, h1⟩ | ⟨h0, h1⟩, h2 | h2⟩ := hcase
    all_goals
      have g0 : ((least : Int) == 0) = decide (least = 0) := by rw [Bool.eq_iff_iff]; simp
      have g1 : decide ((least : Int) ≤ (most : Int)) = decide (least ≤ most) := by rw [Bool.eq_iff_iff]; simp
      have g2 : ((n : Int) == 0) = decide (n = 0) := by rw [Bool.eq_iff_iff]; simp
      simp only [h0, h1, h2, decide_true, decide_false] at g0 g1 g2 hr
      have HR := Lib.hid hr; have H0 := Lib.hid h0; have H1 := Lib.hid h1; have H2 := Lib.hid h2; clear hr h0 h1 h2
      go_enter Tryz.func129, Tryz.ntmps129
      go_wp2
      all_goals
        go_ret
        have h0 := H0.out
        have h1 := H1.out
        have h2 := H2.out
        exact ⟨ret_bool (by rw [HR.out, Bool.eq_iff_iff]; simp [*]; try omega), (Below.refl _ _).alloc (Nat.le_refl _) _⟩

set_option maxHeartbeats 2000000 in
theorem fits2 (no kind : Int) (least most : Nat) (sub : List Slot) (A2 : Option Addr) (c2 : Nat) (w : World) (hk : kind = 2) :
    Calls Tryz.prog 129 #[.agg #[.int .i64 no, .int .i64 kind, .int .u64 least, .int .u64 most, .slice A2 sub.length c2]] w fun e w' => e = .returned (.bool (fits (.mk no kind least most sub))) ∧ Below w.heap.size w w' := by
  rw [fits_at, bnd_at]
  generalize sub.length = n
  obtain ⟨r, hr⟩ : ∃ r, r = ((if kind = 1 ∨ kind = 3 then decide (least ≤ most)
    else if kind = 2 then decide (least ≤ most) && decide (most ≤ 4294967295)
    else if kind = 4 ∨ kind = 8 then decide (least = 0) && decide (most = 0)
    else if kind = 5 ∨ kind = 6 then decide (least ≤ most) && decide (most ≤ 4194304)
    else if kind = 7 then decide (least = 0) && decide (most ≤ 9007199254740992)
    else if kind = 9 then decide (least ≤ most) && decide (most ≤ 4096)
    else false) && (decide (kind = 8 ∨ kind = 9) || decide (n = 0))) := ⟨_, rfl⟩
  rw [← hr]
  subst hk
  have hcase : (least = 0 ∧ least ≤ most ∨ ¬ least = 0 ∧ least ≤ most ∨ ¬ least = 0 ∧ ¬ least ≤ most) ∧ (n = 0 ∨ ¬ n = 0) := by omega
  obtain ⟨⟨h0, h1⟩ | ⟨h0, h1⟩ | ⟨h0, h1⟩, h2 | h2⟩ := hcase
  all_goals
    have g0 : ((least : Int) == 0) = decide (least = 0) := by rw [Bool.eq_iff_iff]; simp
    have g1 : decide ((least : Int) ≤ (most : Int)) = decide (least ≤ most) := by rw [Bool.eq_iff_iff]; simp
    have g2 : ((n : Int) == 0) = decide (n = 0) := by rw [Bool.eq_iff_iff]; simp
    simp only [h0, h1, h2, decide_true, decide_false] at g0 g1 g2 hr
    have HR := Lib.hid hr; have H0 := Lib.hid h0; have H1 := Lib.hid h1; have H2 := Lib.hid h2; clear hr h0 h1 h2
    go_enter Tryz.func129, Tryz.ntmps129
    go_wp2
    all_goals
      go_ret
      have h0 := H0.out
      have h1 := H1.out
      have h2 := H2.out
      exact ⟨ret_bool (by rw [HR.out, Bool.eq_iff_iff]; simp [*]; try omega), (Below.refl _ _).alloc (Nat.le_refl _) _⟩

set_option maxHeartbeats 2000000 in
theorem fits3 (no kind : Int) (least most : Nat) (sub : List Slot) (A2 : Option Addr) (c2 : Nat) (w : World) (hk : kind = 4 ∨ kind = 8) :
    Calls Tryz.prog 129 #[.agg #[.int .i64 no, .int .i64 kind, .int .u64 least, .int .u64 most, .slice A2 sub.length c2]] w fun e w' => e = .returned (.bool (fits (.mk no kind least most sub))) ∧ Below w.heap.size w w' := by
  rw [fits_at, bnd_at]
  generalize sub.length = n
  obtain ⟨r, hr⟩ : ∃ r, r = ((if kind = 1 ∨ kind = 3 then decide (least ≤ most)
    else if kind = 2 then decide (least ≤ most) && decide (most ≤ 4294967295)
    else if kind = 4 ∨ kind = 8 then decide (least = 0) && decide (most = 0)
    else if kind = 5 ∨ kind = 6 then decide (least ≤ most) && decide (most ≤ 4194304)
    else if kind = 7 then decide (least = 0) && decide (most ≤ 9007199254740992)
    else if kind = 9 then decide (least ≤ most) && decide (most ≤ 4096)
    else false) && (decide (kind = 8 ∨ kind = 9) || decide (n = 0))) := ⟨_, rfl⟩
  rw [← hr]
  rcases hk with rfl | rfl
  all_goals
    have hcase : (least = 0 ∧ least ≤ most ∨ ¬ least = 0 ∧ least ≤ most ∨ ¬ least = 0 ∧ ¬ least ≤ most) ∧ (n = 0 ∨ ¬ n = 0) := by omega
    obtain ⟨⟨h0, h1⟩ | ⟨h0, h1⟩ | ⟨h0, h1⟩, h2 | h2⟩ := hcase
    all_goals
      have g0 : ((least : Int) == 0) = decide (least = 0) := by rw [Bool.eq_iff_iff]; simp
      have g1 : decide ((least : Int) ≤ (most : Int)) = decide (least ≤ most) := by rw [Bool.eq_iff_iff]; simp
      have g2 : ((n : Int) == 0) = decide (n = 0) := by rw [Bool.eq_iff_iff]; simp
      simp only [h0, h1, h2, decide_true, decide_false] at g0 g1 g2 hr
      have HR := Lib.hid hr; have H0 := Lib.hid h0; have H1 := Lib.hid h1; have H2 := Lib.hid h2; clear hr h0 h1 h2
      go_enter Tryz.func129, Tryz.ntmps129
      go_wp2
      all_goals
        go_ret
        have h0 := H0.out
        have h1 := H1.out
        have h2 := H2.out
        exact ⟨ret_bool (by rw [HR.out, Bool.eq_iff_iff]; simp [*]; try omega), (Below.refl _ _).alloc (Nat.le_refl _) _⟩

set_option maxHeartbeats 2000000 in
theorem fits4 (no kind : Int) (least most : Nat) (sub : List Slot) (A2 : Option Addr) (c2 : Nat) (w : World) (hk : kind = 5 ∨ kind = 6) :
    Calls Tryz.prog 129 #[.agg #[.int .i64 no, .int .i64 kind, .int .u64 least, .int .u64 most, .slice A2 sub.length c2]] w fun e w' => e = .returned (.bool (fits (.mk no kind least most sub))) ∧ Below w.heap.size w w' := by
  rw [fits_at, bnd_at]
  generalize sub.length = n
  obtain ⟨r, hr⟩ : ∃ r, r = ((if kind = 1 ∨ kind = 3 then decide (least ≤ most)
    else if kind = 2 then decide (least ≤ most) && decide (most ≤ 4294967295)
    else if kind = 4 ∨ kind = 8 then decide (least = 0) && decide (most = 0)
    else if kind = 5 ∨ kind = 6 then decide (least ≤ most) && decide (most ≤ 4194304)
    else if kind = 7 then decide (least = 0) && decide (most ≤ 9007199254740992)
    else if kind = 9 then decide (least ≤ most) && decide (most ≤ 4096)
    else false) && (decide (kind = 8 ∨ kind = 9) || decide (n = 0))) := ⟨_, rfl⟩
  rw [← hr]
  rcases hk with rfl | rfl
  all_goals
    have hcase : (least = 0 ∧ least ≤ most ∨ ¬ least = 0 ∧ least ≤ most ∨ ¬ least = 0 ∧ ¬ least ≤ most) ∧ (n = 0 ∨ ¬ n = 0) := by omega
    obtain ⟨⟨h0, h1⟩ | ⟨h0, h1⟩ | ⟨h0, h1⟩, h2 | h2⟩ := hcase
    all_goals
      have g0 : ((least : Int) == 0) = decide (least = 0) := by rw [Bool.eq_iff_iff]; simp
      have g1 : decide ((least : Int) ≤ (most : Int)) = decide (least ≤ most) := by rw [Bool.eq_iff_iff]; simp
      have g2 : ((n : Int) == 0) = decide (n = 0) := by rw [Bool.eq_iff_iff]; simp
      simp only [h0, h1, h2, decide_true, decide_false] at g0 g1 g2 hr
      have HR := Lib.hid hr; have H0 := Lib.hid h0; have H1 := Lib.hid h1; have H2 := Lib.hid h2; clear hr h0 h1 h2
      go_enter Tryz.func129, Tryz.ntmps129
      go_wp2
      all_goals
        go_ret
        have h0 := H0.out
        have h1 := H1.out
        have h2 := H2.out
        exact ⟨ret_bool (by rw [HR.out, Bool.eq_iff_iff]; simp [*]; try omega), (Below.refl _ _).alloc (Nat.le_refl _) _⟩

set_option maxHeartbeats 2000000 in
theorem fits5 (no kind : Int) (least most : Nat) (sub : List Slot) (A2 : Option Addr) (c2 : Nat) (w : World) (hk : kind = 7) :
    Calls Tryz.prog 129 #[.agg #[.int .i64 no, .int .i64 kind, .int .u64 least, .int .u64 most, .slice A2 sub.length c2]] w fun e w' => e = .returned (.bool (fits (.mk no kind least most sub))) ∧ Below w.heap.size w w' := by
  rw [fits_at, bnd_at]
  generalize sub.length = n
  obtain ⟨r, hr⟩ : ∃ r, r = ((if kind = 1 ∨ kind = 3 then decide (least ≤ most)
    else if kind = 2 then decide (least ≤ most) && decide (most ≤ 4294967295)
    else if kind = 4 ∨ kind = 8 then decide (least = 0) && decide (most = 0)
    else if kind = 5 ∨ kind = 6 then decide (least ≤ most) && decide (most ≤ 4194304)
    else if kind = 7 then decide (least = 0) && decide (most ≤ 9007199254740992)
    else if kind = 9 then decide (least ≤ most) && decide (most ≤ 4096)
    else false) && (decide (kind = 8 ∨ kind = 9) || decide (n = 0))) := ⟨_, rfl⟩
  rw [← hr]
  subst hk
  have hcase : (least = 0 ∧ least ≤ most ∨ ¬ least = 0 ∧ least ≤ most ∨ ¬ least = 0 ∧ ¬ least ≤ most) ∧ (n = 0 ∨ ¬ n = 0) := by omega
  obtain ⟨⟨h0, h1⟩ | ⟨h0, h1⟩ | ⟨h0, h1⟩, h2 | h2⟩ := hcase
  all_goals
    have g0 : ((least : Int) == 0) = decide (least = 0) := by rw [Bool.eq_iff_iff]; simp
    have g1 : decide ((least : Int) ≤ (most : Int)) = decide (least ≤ most) := by rw [Bool.eq_iff_iff]; simp
    have g2 : ((n : Int) == 0) = decide (n = 0) := by rw [Bool.eq_iff_iff]; simp
    simp only [h0, h1, h2, decide_true, decide_false] at g0 g1 g2 hr
    have HR := Lib.hid hr; have H0 := Lib.hid h0; have H1 := Lib.hid h1; have H2 := Lib.hid h2; clear hr h0 h1 h2
    go_enter Tryz.func129, Tryz.ntmps129
    go_wp2
    all_goals
      go_ret
      have h0 := H0.out
      have h1 := H1.out
      have h2 := H2.out
      exact ⟨ret_bool (by rw [HR.out, Bool.eq_iff_iff]; simp [*]; try omega), (Below.refl _ _).alloc (Nat.le_refl _) _⟩

set_option maxHeartbeats 2000000 in
theorem fits6 (no kind : Int) (least most : Nat) (sub : List Slot) (A2 : Option Addr) (c2 : Nat) (w : World) (hk : kind = 9) :
    Calls Tryz.prog 129 #[.agg #[.int .i64 no, .int .i64 kind, .int .u64 least, .int .u64 most, .slice A2 sub.length c2]] w fun e w' => e = .returned (.bool (fits (.mk no kind least most sub))) ∧ Below w.heap.size w w' := by
  rw [fits_at, bnd_at]
  generalize sub.length = n
  obtain ⟨r, hr⟩ : ∃ r, r = ((if kind = 1 ∨ kind = 3 then decide (least ≤ most)
    else if kind = 2 then decide (least ≤ most) && decide (most ≤ 4294967295)
    else if kind = 4 ∨ kind = 8 then decide (least = 0) && decide (most = 0)
    else if kind = 5 ∨ kind = 6 then decide (least ≤ most) && decide (most ≤ 4194304)
    else if kind = 7 then decide (least = 0) && decide (most ≤ 9007199254740992)
    else if kind = 9 then decide (least ≤ most) && decide (most ≤ 4096)
    else false) && (decide (kind = 8 ∨ kind = 9) || decide (n = 0))) := ⟨_, rfl⟩
  rw [← hr]
  subst hk
  have hcase : (least = 0 ∧ least ≤ most ∨ ¬ least = 0 ∧ least ≤ most ∨ ¬ least = 0 ∧ ¬ least ≤ most) ∧ (n = 0 ∨ ¬ n = 0) := by omega
  obtain ⟨⟨h0, h1⟩ | ⟨h0, h1⟩ | ⟨h0, h1⟩, h2 | h2⟩ := hcase
  all_goals
    have g0 : ((least : Int) == 0) = decide (least = 0) := by rw [Bool.eq_iff_iff]; simp
    have g1 : decide ((least : Int) ≤ (most : Int)) = decide (least ≤ most) := by rw [Bool.eq_iff_iff]; simp
    have g2 : ((n : Int) == 0) = decide (n = 0) := by rw [Bool.eq_iff_iff]; simp
    simp only [h0, h1, h2, decide_true, decide_false] at g0 g1 g2 hr
    have HR := Lib.hid hr; have H0 := Lib.hid h0; have H1 := Lib.hid h1; have H2 := Lib.hid h2; clear hr h0 h1 h2
    go_enter Tryz.func129, Tryz.ntmps129
    go_wp2
    all_goals
      go_ret
      have h0 := H0.out
      have h1 := H1.out
      have h2 := H2.out
      exact ⟨ret_bool (by rw [HR.out, Bool.eq_iff_iff]; simp [*]; try omega), (Below.refl _ _).alloc (Nat.le_refl _) _⟩

set_option maxHeartbeats 2000000 in
theorem fits7 (no kind : Int) (least most : Nat) (sub : List Slot) (A2 : Option Addr) (c2 : Nat) (w : World) (hk : ¬ kind = 1 ∧ ¬ kind = 2 ∧ ¬ kind = 3 ∧ ¬ kind = 4 ∧ ¬ kind = 5 ∧ ¬ kind = 6 ∧ ¬ kind = 7 ∧ ¬ kind = 8 ∧ ¬ kind = 9) :
    Calls Tryz.prog 129 #[.agg #[.int .i64 no, .int .i64 kind, .int .u64 least, .int .u64 most, .slice A2 sub.length c2]] w fun e w' => e = .returned (.bool (fits (.mk no kind least most sub))) ∧ Below w.heap.size w w' := by
  rw [fits_at, bnd_at]
  generalize sub.length = n
  obtain ⟨r, hr⟩ : ∃ r, r = ((if kind = 1 ∨ kind = 3 then decide (least ≤ most)
    else if kind = 2 then decide (least ≤ most) && decide (most ≤ 4294967295)
    else if kind = 4 ∨ kind = 8 then decide (least = 0) && decide (most = 0)
    else if kind = 5 ∨ kind = 6 then decide (least ≤ most) && decide (most ≤ 4194304)
    else if kind = 7 then decide (least = 0) && decide (most ≤ 9007199254740992)
    else if kind = 9 then decide (least ≤ most) && decide (most ≤ 4096)
    else false) && (decide (kind = 8 ∨ kind = 9) || decide (n = 0))) := ⟨_, rfl⟩
  rw [← hr]
  have e1 : (kind == 1) = false := by simpa using (by omega : ¬ kind = 1)
  have e3 : (kind == 3) = false := by simpa using (by omega : ¬ kind = 3)
  have e2 : (kind == 2) = false := by simpa using (by omega : ¬ kind = 2)
  have e4 : (kind == 4) = false := by simpa using (by omega : ¬ kind = 4)
  have e8 : (kind == 8) = false := by simpa using (by omega : ¬ kind = 8)
  have e5 : (kind == 5) = false := by simpa using (by omega : ¬ kind = 5)
  have e6 : (kind == 6) = false := by simpa using (by omega : ¬ kind = 6)
  have e7 : (kind == 7) = false := by simpa using (by omega : ¬ kind = 7)
  have e9 : (kind == 9) = false := by simpa using (by omega : ¬ kind = 9)
  rw [if_neg (by omega), if_neg (by omega), if_neg (by omega), if_neg (by omega), if_neg (by omega), if_neg (by omega)] at hr
  have hf : decide (kind = 8 ∨ kind = 9) = false := by simp; omega
  rw [hf] at hr
  clear hf hk
  have hcase : (least = 0 ∧ least ≤ most ∨ ¬ least = 0 ∧ least ≤ most ∨ ¬ least = 0 ∧ ¬ least ≤ most) ∧ (n = 0 ∨ ¬ n = 0) := by omega
  obtain ⟨⟨h0, h1⟩ | ⟨h0, h1⟩ | ⟨h0, h1⟩, h2 | h2⟩ := hcase
  all_goals
    have g0 : ((least : Int) == 0) = decide (least = 0) := by rw [Bool.eq_iff_iff]; simp
    have g1 : decide ((least : Int) ≤ (most : Int)) = decide (least ≤ most) := by rw [Bool.eq_iff_iff]; simp
    have g2 : ((n : Int) == 0) = decide (n = 0) := by rw [Bool.eq_iff_iff]; simp
    simp only [h0, h1, h2, decide_true, decide_false] at g0 g1 g2 hr
    have HR := Lib.hid hr; have H0 := Lib.hid h0; have H1 := Lib.hid h1; have H2 := Lib.hid h2; clear hr h0 h1 h2
    go_enter Tryz.func129, Tryz.ntmps129
    go_wp2
    all_goals
      go_ret
      have h0 := H0.out
      have h1 := H1.out
      have h2 := H2.out
      exact ⟨ret_bool (by rw [HR.out, Bool.eq_iff_iff]; simp [*]; try omega), (Below.refl _ _).alloc (Nat.le_refl _) _⟩

theorem rfits (no kind : Int) (least most : Nat) (sub : List Slot) (A2 : Option Addr) (c2 : Nat) (w : World) :
    Calls Tryz.prog 129 #[.agg #[.int .i64 no, .int .i64 kind, .int .u64 least, .int .u64 most, .slice A2 sub.length c2]] w fun e w' => e = .returned (.bool (fits (.mk no kind least most sub))) ∧ Below w.heap.size w w' := by
  by_cases hfits1 : kind = 1 ∨ kind = 3
  · exact fits1 no kind least most sub A2 c2 w hfits1
  by_cases hfits2 : kind = 2
  · exact fits2 no kind least most sub A2 c2 w hfits2
  by_cases hfits3 : kind = 4 ∨ kind = 8
  · exact fits3 no kind least most sub A2 c2 w hfits3
  by_cases hfits4 : kind = 5 ∨ kind = 6
  · exact fits4 no kind least most sub A2 c2 w hfits4
  by_cases hfits5 : kind = 7
  · exact fits5 no kind least most sub A2 c2 w hfits5
  by_cases hfits6 : kind = 9
  · exact fits6 no kind least most sub A2 c2 w hfits6
  exact fits7 no kind least most sub A2 c2 w (by omega)
end Go.Proofs.YtinngljphjdpoaaGreatDoor.Vr
/- The reference's left. -/
namespace Go.Proofs.YtinngljphjdpoaaGreatDoor.Vl
open Go Go.RowKit Go.Proofs.YtinngljphjdpoaaGreatDoor.Pa Go.Proofs.YtinngljphjdpoaaGreatDoor.Pb Go.Proofs.YtinngljphjdpoaaGreatDoor.Pf Go.Proofs.YtinngljphjdpoaaGreatDoor.Nz Go.Proofs.YtinngljphjdpoaaGreatDoor.Nm Go.Proofs.YtinngljphjdpoaaGreatDoor.Sc Go.Proofs.YtinngljphjdpoaaGreatDoor.Rs Go.Proofs.YtinngljphjdpoaaGreatDoor.Va Go.Proofs.YtinngljphjdpoaaGreatDoor.Vb Go.Proofs.YtinngljphjdpoaaGreatDoor.Vc Go.Proofs.YtinngljphjdpoaaGreatDoor.Vd Go.Proofs.YtinngljphjdpoaaGreatDoor.Vr
set_option linter.unusedVariables false
set_option linter.unusedSimpArgs false

/-- The number of the one ahead. -/
def ahead (l : List Slot) (i : Nat) : Option Int := if i = 0 then none else (l[i - 1]?).map Slot.no
theorem forall_and5 {α : Type} {a b c d e : α → Prop} (h : ∀ x, a x ∧ b x ∧ c x ∧ d x ∧ e x) : (∀ x, a x) ∧ (∀ x, b x) ∧ (∀ x, c x) ∧ (∀ x, d x) ∧ (∀ x, e x) :=
  ⟨fun x => (h x).1, fun x => (h x).2.1, fun x => (h x).2.2.1, fun x => (h x).2.2.2.1, fun x => (h x).2.2.2.2⟩
/-- Worlds behind one. -/
def Past (w W' : World) : Prop := Below w.heap.size w W'
theorem Past.on {w W W' : World} (h : Past w W) (hb : Below W.heap.size W W') : Past w W' := Below.trans h (hb.mono h.size)
theorem bad_step {f : List Slot → Int → Int} {last : Option Int} {t : Slot} {r : List Slot} {x : Int} (hx : 0 ≤ x) (h : t.no < 1 ∨ 536870911 < t.no ∨ behind t.no last = true ∨ fits t = false) : leftGo f last (t :: r) x = -1 := by
  simp only [leftGo]; rw [if_neg (by omega), if_pos h]
theorem good_step {f : List Slot → Int → Int} {last : Option Int} {t : Slot} {r : List Slot} {x : Int} (hx : 0 ≤ x) (h1 : 1 ≤ t.no) (h2 : t.no ≤ 536870911) (h3 : behind t.no last = false) (h4 : fits t = true) : leftGo f last (t :: r) x = leftGo f (some t.no) r (next f t x) := by
  simp only [leftGo]; rw [if_neg (by omega), if_neg (by rw [h3, h4]; simp; omega)]
theorem leftL_bd (k : Nat) (s : List Slot) (r : Nat) : -1 ≤ leftL k s r ∧ leftL k s r ≤ r := by
  rw [left_can]
  cases h : canL k s r with
  | none => simp [back]
  | some x => have := canL_le _ _ _ _ h; simp [back]; omega

set_option maxHeartbeats 4000000 in
set_option maxRecDepth 100000 in
theorem left : ∀ (k n : Nat) (v : Value) (l : List Slot) (deep : Int) (room : Nat) (W w : World), RdS W n v l → Below W.heap.size W w → deep = 7 - k → k ≤ 7 → room ≤ 256 →
    Calls Tryz.prog 97 #[v, .int .i64 deep, .int .i64 room] w fun e w' => e = .returned (.int .i64 (leftL k l room)) ∧ Below w.heap.size w w' := by
  intro k
  induction k with
  | zero =>
    intro n v l deep room W w h hb hd hk hr
    obtain ⟨A, c, rfl, hlc, hcm⟩ := h.slice
    have hd' : 6 < deep := by omega
    clear h hd
    by_cases h16 : l.length ≤ 16
    · go_enter Tryz.func97, Tryz.ntmps97
      go_wp2_with fail
      go_ret
      exact ⟨rfl, Below.refl _ _⟩
    · go_enter Tryz.func97, Tryz.ntmps97
      go_wp2_with fail
      go_ret
      exact ⟨rfl, Below.refl _ _⟩
  | succ k ih =>
    intro n v l deep room W w h hb hd hk hr
    obtain ⟨A, c, rfl, hlc, hcm⟩ := h.slice
    unfold maxLen at hcm
    have hd' : deep ≤ 6 := by omega
    have hd0 : 0 ≤ deep := by omega
    obtain ⟨m, rfl⟩ := h.pos
    have IH := Lib.hid ih; clear ih
    have H := Lib.hid h; have HD := Lib.hid hd; clear h hd
    obtain ⟨R, hR⟩ : ∃ R, R = leftL (k + 1) l room := ⟨_, rfl⟩
    rw [← hR]
    by_cases h16 : 16 < l.length
    · have hcl : R = -1 := by rw [hR]; simp only [leftL]; rw [if_pos h16]
      have HC := Lib.hid hcl; clear hcl hR
      go_enter Tryz.func97, Tryz.ntmps97
      go_wp2_with fail
      go_ret
      exact ⟨ret_int HC.out.symm, Below.refl _ _⟩
    · have hcl : R = leftGo (leftL k) none l room := by rw [hR]; simp only [leftL]; rw [if_neg h16]
      have HRR := Lib.hid hcl; clear hcl hR
      go_enter Tryz.func97, Tryz.ntmps97
      go_wp2_with fail
      go_loopw [2, 7] (fun s t wr => ∃ (i : Nat) (x : Int), i ≤ l.length ∧ -1 ≤ x ∧ x ≤ 256 ∧ s = .int .i64 x ∧ t = .int .i64 i ∧ leftGo (leftL k) (ahead l i) (l.drop i) x = R ∧ Below w.heap.size w wr) (fun _ t _ => l.length - (intOf t).toNat)
      case atStart => exact ⟨0, room, by omega, by omega, by omega, rfl, rfl, HRR.out.symm, Below.refl _ _⟩
      case round =>
        obtain ⟨i, x, hi, hx1, hx2, rfl, rfl, he, hbw⟩ := hrel
        have hbr : Below W.heap.size W wr := hb.trans (hbw.mono hb.size)
        have HE := Lib.hid he; clear he
        by_cases hil : i < l.length
        · by_cases hx0 : 0 ≤ x
          · obtain ⟨ad, rfl, hwf, sv, hsl, hrd⟩ := H.out.at_ i hil
            have hC : ∀ u : Held (Past w), SlotAt u.w (ad.add (i * 5)) l[i] sv := fun u => hsl.keep ((hb.trans (Below.mono u.h hb.size)).block _ hsl.lt)
            replace hsl := hsl.keep (hbr.block _ hsl.lt)
            have hprev : ∀ hp : 0 < i, ∀ u : Held (Past w), u.w.cell? (ad.add ((i - 1) * 5)) = some (.int .i64 (l[i - 1]'(by omega)).no) := fun hp u => by
              obtain ⟨ad', e, _, _, hs', _⟩ := H.out.at_ (i - 1) (by omega)
              cases e
              exact (hs'.keep ((hb.trans (Below.mono u.h hb.size)).block _ hs'.lt)).no
            have hah : ∀ hp : 0 < i, ahead l i = some (l[i - 1]'(by omega)).no := fun hp => by unfold ahead; rw [if_neg (by omega), List.getElem?_eq_getElem (by omega)]; rfl
            have hah2 : ahead l (i + 1) = some l[i].no := by unfold ahead; rw [if_neg (by omega), Nat.add_sub_cancel, List.getElem?_eq_getElem hil]; rfl
            have hdrop := List.drop_eq_getElem_cons hil
            rw [hdrop] at HE
            obtain ⟨p, hpa⟩ : ∃ p, ad.add (i * 5) = p := ⟨_, rfl⟩
            rw [hpa] at hsl
            simp only [hpa] at hC
            generalize l[i] = t at hwf hsl hrd hdrop hC hah2 HE
            obtain ⟨no, kind, least, most, sub⟩ := t
            obtain ⟨A2, cc2, rfl, hlc2, hcm2⟩ := hrd.slice
            simp only [Slot.no] at hah2
            replace hC : ∀ u : Held (Past w), u.w.cell? p = some (.int .i64 no) ∧ u.w.cell? ⟨p.block, p.off + 1, none⟩ = some (.int .i64 kind) ∧ u.w.cell? ⟨p.block, p.off + 2, none⟩ = some (.int .u64 least) ∧ u.w.cell? ⟨p.block, p.off + 3, none⟩ = some (.int .u64 most) ∧ u.w.cell? ⟨p.block, p.off + 4, none⟩ = some (.slice A2 sub.length cc2) := fun u => ⟨(hC u).no, (hC u).kind, (hC u).least, (hC u).most, (hC u).sub⟩
            have HR := Lib.hid hrd; have HAH := Lib.hid hah2; have HDR := Lib.hid hdrop; clear hrd hwf hlc2 hcm2 hsl hah2 hdrop
            obtain ⟨g0, g1, g2, g3, g4⟩ := forall_and5 hC
            by_cases hn1 : no < 1
            · clear hprev hah
              have d1 : decide (no < 1) = true := decide_eq_true hn1
              have hbd : R = -1 := by rw [← HE.out]; exact bad_step hx0 (.inl hn1)
              have HB := Lib.hid hbd; clear hbd
              go_wp2_with fail
              refine wp_region_calm (S := Past w) (by kernel_rfl) (by kernel_rfl) hbw.drew ?_
              intro hN
              repeat (go_big_quiet_step (first | (go_at_call 129; exact calm_call (rfits no _ least most sub _ _ _) (fun w' hs hr => hs.on hr))))
              refine wpQuiet_nil ?_
              intro u
              have hub : Below w.heap.size w u.w := u.h
              have hk0 := g1 u; have hk4 := g4 u
              go_wp2_with fail
              go_ret
              exact ⟨ret_int HB.out.symm, hub⟩
            · have d1 : decide (no < 1) = false := decide_eq_false hn1
              by_cases hn2 : 536870911 < no
              · clear hprev hah
                have d2 : decide (536870911 < no) = true := decide_eq_true hn2
                have hbd : R = -1 := by rw [← HE.out]; exact bad_step hx0 (.inr (.inl hn2))
                have HB := Lib.hid hbd; clear hbd
                go_wp2_with fail
                refine wp_region_calm (S := Past w) (by kernel_rfl) (by kernel_rfl) hbw.drew ?_
                intro hN
                repeat (go_big_quiet_step (first | (go_at_call 129; exact calm_call (rfits no _ least most sub _ _ _) (fun w' hs hr => hs.on hr))))
                refine wpQuiet_nil ?_
                intro u
                have hub : Below w.heap.size w u.w := u.h
                have hk0 := g1 u; have hk4 := g4 u
                go_wp2_with fail
                go_ret
                exact ⟨ret_int HB.out.symm, hub⟩
              · have d2 : decide (536870911 < no) = false := decide_eq_false hn2
                by_cases hi0 : i = 0
                · have d3 : decide (0 < i) = false := decide_eq_false (by omega)
                  have hbh : behind (Slot.no (.mk no kind least most sub)) (ahead l i) = false := by subst hi0; rfl
                  clear hprev hah hi0
                  by_cases hft : fits (.mk no kind least most sub) = true
                  · have HEE : leftGo (leftL k) (ahead l i) (.mk no kind least most sub :: l.drop (i + 1)) x = R := HE.out
                    rw [good_step hx0 (by simp only [Slot.no]; omega) (by simp only [Slot.no]; omega) hbh hft] at HEE
                    simp only [Slot.no] at HEE
                    have HEH := Lib.hid HEE; clear HEE
                    go_wp2_with fail
                    refine wp_region_calm (S := Past w) (by kernel_rfl) (by kernel_rfl) hbw.drew ?_
                    intro hN
                    repeat (go_big_quiet_step (first | (go_at_call 129; exact calm_call (rfits no _ least most sub _ _ _) (fun w' hs hr => hs.on hr))))
                    refine wpQuiet_nil ?_
                    intro u
                    have hub : Below w.heap.size w u.w := u.h
                    have hk0 := g1 u; have hk4 := g4 u
                    have HEE := HEH.out
                    clear g0 g1 g2 g3 g4
                    by_cases hne : nest (.mk no kind least most sub) = true
                    · have hkk : kind = 8 ∨ kind = 9 := of_decide_eq_true hne
                      by_cases hx1 : 0 ≤ x - 1
                      · obtain ⟨r, hr⟩ := Int.eq_ofNat_of_zero_le hx1
                        have hnx : next (leftL k) (.mk no kind least most sub) x = leftL k sub r := by unfold next; rw [if_pos ⟨hne, hx1⟩, hr]; rfl
                        rw [hnx] at HEE
                        obtain ⟨hbd1, hbd2⟩ := leftL_bd k sub r
                        have hxr : x = (r : Int) + 1 := by omega
                        subst hxr
                        have hr1 : (r : Int) + 1 - 1 = (r : Int) := by omega
                        have HNN := Lib.hid HEE; clear HEE hnx hne hr hx1
                        rcases hkk with rfl | rfl
                        all_goals
                          go_wp2_with (go_at_call 9999)
                          go_at_call 97
                          refine (IH.out m _ sub _ r W u.w HR.out (hb.trans (hub.mono hb.size)) (by have := HD.out; omega) (by omega) (by omega)).mono ?_
                          rintro e w1 ⟨rfl, hb1⟩
                          go_wp2_with fail
                          go_roundw
                          case rel => exact ⟨i + 1, _, by omega, hbd1, by omega, rfl, by go_num, by rw [HAH.out]; exact HNN.out, hub.trans (hb1.mono hub.size)⟩
                          case measure => simp [intOf]; omega
                      · have hx00 : x = 0 := by omega
                        subst hx00
                        have hnx : next (leftL k) (.mk no kind least most sub) 0 = 0 - 1 := by unfold next; rw [if_neg (by omega)]
                        rw [hnx] at HEE
                        have HNN := Lib.hid HEE; clear HEE hnx hne hx1
                        rcases hkk with rfl | rfl
                        all_goals
                          go_wp2_with fail
                          go_roundw
                          case rel => exact ⟨i + 1, -1, by omega, by omega, by omega, rfl, by go_num, by rw [HAH.out]; exact HNN.out, hub⟩
                          case measure => simp [intOf]; omega
                    · have hkk : ¬ kind = 8 ∧ ¬ kind = 9 := not_or.1 (fun h => hne (decide_eq_true h))
                      have hnx : next (leftL k) (.mk no kind least most sub) x = x - 1 := by unfold next; rw [if_neg (fun h => hne h.1)]
                      rw [hnx] at HEE
                      have e8 : (kind == 8) = false := by simpa using hkk.1
                      have e9 : (kind == 9) = false := by simpa using hkk.2
                      have HNN := Lib.hid HEE; clear HEE hnx hne hkk
                      go_wp2_with fail
                      go_roundw
                      case rel => exact ⟨i + 1, x - 1, by omega, by omega, by omega, rfl, by go_num, by rw [HAH.out]; exact HNN.out, hub⟩
                      case measure => simp [intOf]; omega
                  · have hff : fits (.mk no kind least most sub) = false := by simpa using hft
                    clear hft
                    have hbd : R = -1 := by rw [← HE.out]; exact bad_step hx0 (.inr (.inr (.inr hff)))
                    have HB := Lib.hid hbd; clear hbd
                    go_wp2_with fail
                    refine wp_region_calm (S := Past w) (by kernel_rfl) (by kernel_rfl) hbw.drew ?_
                    intro hN
                    repeat (go_big_quiet_step (first | (go_at_call 129; exact calm_call (rfits no _ least most sub _ _ _) (fun w' hs hr => hs.on hr))))
                    refine wpQuiet_nil ?_
                    intro u
                    have hub : Below w.heap.size w u.w := u.h
                    have hk0 := g1 u; have hk4 := g4 u
                    go_wp2_with fail
                    go_ret
                    exact ⟨ret_int HB.out.symm, hub⟩
                · have hi1 : 0 < i := by omega
                  have d3 : decide (0 < (i : Int)) = true := decide_eq_true (by omega)
                  have hpv := hprev hi1
                  have hah1 := hah hi1
                  have hidx : ((i : Int) - 1).toNat = i - 1 := by omega
                  generalize (l[i - 1]'(by omega)).no = pv at hpv hah1
                  clear hprev hah hi0
                  by_cases hle : no ≤ pv
                  · have d4 : decide (no ≤ pv) = true := decide_eq_true hle
                    have hbt : behind (Slot.no (.mk no kind least most sub)) (ahead l i) = true := by rw [hah1]; exact decide_eq_true hle
                    clear hah1
                    have hbd : R = -1 := by rw [← HE.out]; exact bad_step hx0 (.inr (.inr (.inl hbt)))
                    have HB := Lib.hid hbd; clear hbd
                    go_wp2_with fail
                    refine wp_region_calm (S := Past w) (by kernel_rfl) (by kernel_rfl) hbw.drew ?_
                    intro hN
                    repeat (go_big_quiet_step (first | (go_at_call 129; exact calm_call (rfits no _ least most sub _ _ _) (fun w' hs hr => hs.on hr))))
                    refine wpQuiet_nil ?_
                    intro u
                    have hub : Below w.heap.size w u.w := u.h
                    have hk0 := g1 u; have hk4 := g4 u
                    go_wp2_with fail
                    go_ret
                    exact ⟨ret_int HB.out.symm, hub⟩
                  · have d4 : decide (no ≤ pv) = false := decide_eq_false hle
                    have hbh : behind (Slot.no (.mk no kind least most sub)) (ahead l i) = false := by rw [hah1]; exact decide_eq_false hle
                    clear hah1
                    by_cases hft : fits (.mk no kind least most sub) = true
                    · have HEE : leftGo (leftL k) (ahead l i) (.mk no kind least most sub :: l.drop (i + 1)) x = R := HE.out
                      rw [good_step hx0 (by simp only [Slot.no]; omega) (by simp only [Slot.no]; omega) hbh hft] at HEE
                      simp only [Slot.no] at HEE
                      have HEH := Lib.hid HEE; clear HEE
                      go_wp2_with fail
                      refine wp_region_calm (S := Past w) (by kernel_rfl) (by kernel_rfl) hbw.drew ?_
                      intro hN
                      repeat (go_big_quiet_step (first | (go_at_call 129; exact calm_call (rfits no _ least most sub _ _ _) (fun w' hs hr => hs.on hr))))
                      refine wpQuiet_nil ?_
                      intro u
                      have hub : Below w.heap.size w u.w := u.h
                      have hk0 := g1 u; have hk4 := g4 u
                      have HEE := HEH.out
                      clear g0 g1 g2 g3 g4
                      by_cases hne : nest (.mk no kind least most sub) = true
                      · have hkk : kind = 8 ∨ kind = 9 := of_decide_eq_true hne
                        by_cases hx1 : 0 ≤ x - 1
                        · obtain ⟨r, hr⟩ := Int.eq_ofNat_of_zero_le hx1
                          have hnx : next (leftL k) (.mk no kind least most sub) x = leftL k sub r := by unfold next; rw [if_pos ⟨hne, hx1⟩, hr]; rfl
                          rw [hnx] at HEE
                          obtain ⟨hbd1, hbd2⟩ := leftL_bd k sub r
                          have hxr : x = (r : Int) + 1 := by omega
                          subst hxr
                          have hr1 : (r : Int) + 1 - 1 = (r : Int) := by omega
                          have HNN := Lib.hid HEE; clear HEE hnx hne hr hx1
                          rcases hkk with rfl | rfl
                          all_goals
                            go_wp2_with (go_at_call 9999)
                            go_at_call 97
                            refine (IH.out m _ sub _ r W u.w HR.out (hb.trans (hub.mono hb.size)) (by have := HD.out; omega) (by omega) (by omega)).mono ?_
                            rintro e w1 ⟨rfl, hb1⟩
                            go_wp2_with fail
                            go_roundw
                            case rel => exact ⟨i + 1, _, by omega, hbd1, by omega, rfl, by go_num, by rw [HAH.out]; exact HNN.out, hub.trans (hb1.mono hub.size)⟩
                            case measure => simp [intOf]; omega
                        · have hx00 : x = 0 := by omega
                          subst hx00
                          have hnx : next (leftL k) (.mk no kind least most sub) 0 = 0 - 1 := by unfold next; rw [if_neg (by omega)]
                          rw [hnx] at HEE
                          have HNN := Lib.hid HEE; clear HEE hnx hne hx1
                          rcases hkk with rfl | rfl
                          all_goals
                            go_wp2_with fail
                            go_roundw
                            case rel => exact ⟨i + 1, -1, by omega, by omega, by omega, rfl, by go_num, by rw [HAH.out]; exact HNN.out, hub⟩
                            case measure => simp [intOf]; omega
                      · have hkk : ¬ kind = 8 ∧ ¬ kind = 9 := not_or.1 (fun h => hne (decide_eq_true h))
                        have hnx : next (leftL k) (.mk no kind least most sub) x = x - 1 := by unfold next; rw [if_neg (fun h => hne h.1)]
                        rw [hnx] at HEE
                        have e8 : (kind == 8) = false := by simpa using hkk.1
                        have e9 : (kind == 9) = false := by simpa using hkk.2
                        have HNN := Lib.hid HEE; clear HEE hnx hne hkk
                        go_wp2_with fail
                        go_roundw
                        case rel => exact ⟨i + 1, x - 1, by omega, by omega, by omega, rfl, by go_num, by rw [HAH.out]; exact HNN.out, hub⟩
                        case measure => simp [intOf]; omega
                    · have hff : fits (.mk no kind least most sub) = false := by simpa using hft
                      clear hft
                      have hbd : R = -1 := by rw [← HE.out]; exact bad_step hx0 (.inr (.inr (.inr hff)))
                      have HB := Lib.hid hbd; clear hbd
                      go_wp2_with fail
                      refine wp_region_calm (S := Past w) (by kernel_rfl) (by kernel_rfl) hbw.drew ?_
                      intro hN
                      repeat (go_big_quiet_step (first | (go_at_call 129; exact calm_call (rfits no _ least most sub _ _ _) (fun w' hs hr => hs.on hr))))
                      refine wpQuiet_nil ?_
                      intro u
                      have hub : Below w.heap.size w u.w := u.h
                      have hk0 := g1 u; have hk4 := g4 u
                      go_wp2_with fail
                      go_ret
                      exact ⟨ret_int HB.out.symm, hub⟩
          · have hfin : R = x := by rw [← HE.out, leftGo_neg _ _ _ _ (by omega)]
            have HF := Lib.hid hfin; clear hfin
            go_wp2_with fail
            go_ret
            exact ⟨ret_int HF.out.symm, hbw⟩
        · have hfin : R = x := by rw [← HE.out, List.drop_eq_nil_of_le (by omega)]; rfl
          have HF := Lib.hid hfin; clear hfin
          go_wp2_with fail
          go_ret
          exact ⟨ret_int HF.out.symm, hbw⟩
end Go.Proofs.YtinngljphjdpoaaGreatDoor.Vl
