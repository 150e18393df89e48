/- The buckets: what the program's and the reference's Bucket, Length and Size compute. -/
import Derived.Test.YthiibkcaodaekaaProg
import Derived.Test.YthiibkcaodaekaaPm
import Derived.Lib.Hide
namespace Go.Proofs.Ythiibkcaodaekaa.Bk
open Go Go.RowKit Go.Instr Go.Proofs.Ythiibkcaodaekaa.Pa Go.Proofs.Ythiibkcaodaekaa.Pm
set_option linter.unusedVariables false
set_option linter.unusedSimpArgs false

/-- The function that grows gives back. -/
def grown (v : Int) : Value := if v = 1 then .func (.func 25) #[] #[] else if v = 2 then .func (.func 26) #[] #[] else .nilFunc

theorem grows_lookup (v : Int) (w : World) :
    (lookup 41 (.map (some w.heap.size)) (.int .i64 v) false).run Try.prog (w.alloc (.map #[⟨.int .i64 1, .func (.func 25) #[] #[], 0⟩, ⟨.int .i64 2, .func (.func 26) #[] #[], 1⟩] 2))
      = .ok (grown v) (w.alloc (.map #[⟨.int .i64 1, .func (.func 25) #[] #[], 0⟩, ⟨.int .i64 2, .func (.func 26) #[] #[], 1⟩] 2)) := by
  unfold grown
  by_cases h1 : v = 1
  · subst h1
    exact run_lookup_found Try.underlying41 Try.underlying3 rfl (hp_alloc_at _ _ rfl) _ _ 0 false (by simp [findNow, sameNow])
  · by_cases h2 : v = 2
    · subst h2
      exact run_lookup_found Try.underlying41 Try.underlying3 rfl (hp_alloc_at _ _ rfl) _ _ 1 false (by simp [findNow, sameNow])
    · rw [if_neg h1, if_neg h2]
      have e1 : (v == 1) = false := by simpa using h1
      have e2 : (v == 2) = false := by simpa using h2
      refine run_lookup_none Try.underlying41 Try.underlying3 rfl (hp_alloc_at _ _ rfl) _ _ false ?_ (by kernel_rfl)
      simp [findNow, sameNow, e1, e2]
theorem grows_ins1 (w : World) (f : Value) : (mapUpdate 41 (.map (some w.heap.size)) (.int .i64 1) f).run Try.prog (w.alloc (.map #[] 0)) = .ok () (w.alloc (.map #[⟨.int .i64 1, f, 0⟩] 1)) := by
  rw [run_insert_new Try.underlying41 Try.underlying3 rfl (hp_alloc_at _ _ rfl) _ _ (by simp [findNow]), putObj_alloc_at _ _ _ rfl]
  rfl
theorem grows_ins2 (w : World) (f g : Value) : (mapUpdate 41 (.map (some w.heap.size)) (.int .i64 2) g).run Try.prog (w.alloc (.map #[⟨.int .i64 1, f, 0⟩] 1)) = .ok () (w.alloc (.map #[⟨.int .i64 1, f, 0⟩, ⟨.int .i64 2, g, 1⟩] 2)) := by
  rw [run_insert_new Try.underlying41 Try.underlying3 rfl (hp_alloc_at _ _ rfl) _ _ (by simp [findNow, sameNow]), putObj_alloc_at _ _ _ rfl]
  rfl

theorem grows (v : Int) (w : World) : Calls Try.prog 19 #[.int .i64 v] w fun e w' => e = .returned (grown v) ∧ Below w.heap.size w w' := by
  have hmm := @run_makeMap Try.prog
  have h1 := grows_ins1
  have h2 := grows_ins2
  have h3 := grows_lookup v
  go_enter Try.func19, Try.ntmps19
  go_wp2
  go_ret
  exact ⟨rfl, (Below.refl _ _).alloc (Nat.le_refl _) _⟩

/-! ### The numbers -/
/-- The unit of a bucket of version 2: the least e, twice as much at each step, with b / e < 16. -/
def U (b e : Nat) : Nat := if h : 0 < e ∧ 16 ≤ b / e then U b (2 * e) else e
termination_by b + 1 - e
decreasing_by
  obtain ⟨h0, h1⟩ := h
  have h2 : e * 16 ≤ b := by
    have := Nat.div_mul_le_self b e
    calc e * 16 ≤ e * (b / e) := Nat.mul_le_mul_left _ h1
      _ = b / e * e := Nat.mul_comm _ _
      _ ≤ b := this
  omega
theorem U_step {b e : Nat} (h0 : 0 < e) (h : 16 ≤ b / e) : U b (2 * e) = U b e := by
  conv => rhs; unfold U
  rw [dif_pos ⟨h0, h⟩]
theorem U_end {b e : Nat} (h : ¬ 16 ≤ b / e) : U b e = e := by
  unfold U
  rw [dif_neg (by omega)]
theorem room {b e : Nat} (h0 : 0 < e) (h : 16 ≤ b / e) : 16 * e ≤ b := by
  have := Nat.div_mul_le_self b e
  calc 16 * e ≤ b / e * e := Nat.mul_le_mul_right _ h
    _ ≤ b := this
theorem U_bd (b : Nat) : ∀ (k e : Nat), b + 1 - e = k → 0 < e → e ≤ U b e ∧ (U b e ≤ b ∨ U b e = e) := by
  intro k
  induction k using Nat.strongRecOn with
  | _ k ih =>
    intro e hk h0
    by_cases h : 16 ≤ b / e
    · have h1 := room h0 h
      have h2 := ih (b + 1 - 2 * e) (by omega) (2 * e) rfl (by omega)
      rw [U_step h0 h] at h2
      omega
    · rw [U_end h]
      omega
/-- The bucket behind b. -/
def next (v b : Nat) : Nat := if v = 1 then 2 * b else b + U b 1
theorem next_gt (v b : Nat) (h : 0 < b) : b < next v b := by
  unfold next
  split
  · omega
  · have := U_bd b _ 1 rfl (by omega)
    omega
theorem next_le (v b : Nat) (h : 0 < b) : next v b ≤ 2 * b := by
  unfold next
  split
  · omega
  · have := U_bd b _ 1 rfl (by omega)
    omega
/-- The least bucket from b on that has room for n. -/
def up (v n b : Nat) : Nat := if h : 0 < b ∧ b < n then up v n (next v b) else b
termination_by n - b
decreasing_by have := next_gt v b h.1; omega
theorem up_step {v n b : Nat} (h0 : 0 < b) (h : b < n) : up v n (next v b) = up v n b := by
  conv => rhs; unfold up
  rw [dif_pos ⟨h0, h⟩]
theorem up_end {v n b : Nat} (h : ¬ b < n) : up v n b = b := by
  unfold up
  rw [dif_neg (by omega)]

/-! ### The functions -/
theorem grows1 (b : Nat) (hb : b ≤ 4194304) (w : World) : Calls Try.prog 25 #[.int .i64 b] w fun e w' => e = .returned (.int .i64 (next 1 b : Nat)) ∧ w = w' := by
  go_enter Try.func25, Try.ntmps25
  go_wp2
  go_ret
  exact ⟨by simp [next], rfl⟩
theorem grows2 (b : Nat) (hb : b ≤ 4194304) (w : World) : Calls Try.prog 26 #[.int .i64 b] w fun e w' => e = .returned (.int .i64 (next 2 b : Nat)) ∧ w = w' := by
  go_enter Try.func26, Try.ntmps26
  go_wp2
  go_loop [3] (fun s => ∃ e : Nat, 0 < e ∧ (e = 1 ∨ e ≤ b) ∧ U b e = U b 1 ∧ s = .int .i64 e) (fun s => b + 1 - (intOf s).toNat)
  case atStart => exact ⟨1, by omega, by omega, rfl, rfl⟩
  case round =>
    obtain ⟨e, h0, h1, h2, rfl⟩ := hrel
    have HU : Hid (U b e = U b 1) := h2
    clear h2
    have hq : wrap64 ((b : Int) / (e : Int)) = ((b / e : Nat) : Int) := by
      have : b / e ≤ b := Nat.div_le_self _ _
      rw [← Int.natCast_ediv]
      generalize b / e = q at *
      exact w64 (by omega) (by omega)
    by_cases h : 16 ≤ b / e
    · have h3 := room h0 h
      have h' : (16 : Int) ≤ ((b / e : Nat) : Int) := by omega
      go_wp2
      go_round
      case rel => exact ⟨2 * e, by omega, by omega, by rw [U_step h0 h]; exact HU.out, by go_num⟩
      case measure => simp [intOf]; omega
    · have h' : ((b / e : Nat) : Int) < 16 := by omega
      go_wp2
      go_ret
      have : U b 1 = e := by rw [← HU.out, U_end h]
      exact ⟨by simp [next, this], rfl⟩

/-- The bucket of a text of n bytes; 0 with its reason. -/
def known (v : Int) : Bool := v == 1 || v == 2
def bucket (v n : Int) : Int × Int := if ¬ (v = 1 ∨ v = 2) then (0, 100) else if n < 0 then (0, 1) else if 1048576 < n then (0, 2) else ((up v.toNat (n.toNat + 4) 64 : Nat), 0)
theorem up_bd (v n : Nat) : ∀ (k b : Nat), n - b = k → 0 < b → b ≤ up v n b ∧ (up v n b ≤ 2 * n ∨ up v n b = b) := by
  intro k
  induction k using Nat.strongRecOn with
  | _ k ih =>
    intro b hk h0
    by_cases h : b < n
    · have h1 := next_gt v b h0
      have h2 := next_le v b h0
      have h3 := ih (n - next v b) (by omega) (next v b) rfl (by omega)
      rw [up_step h0 h] at h3
      omega
    · rw [up_end h]
      omega

theorem eqf_nil (w : World) : (binOp .eql 35 .nilFunc .nilFunc).run Try.prog w = .ok (.bool true) w := by kernel_rfl
theorem eqf_func (w : World) (f : FuncId) (a b : Array Value) : (binOp .eql 35 (.func (.func f) a b) .nilFunc).run Try.prog w = .ok (.bool false) w := by kernel_rfl
theorem grown_no {v : Int} (h : ¬ (v = 1 ∨ v = 2)) : grown v = .nilFunc := by unfold grown; rw [if_neg (by omega), if_neg (by omega)]
theorem bucket_no (v n : Int) (w : World) (h : ¬ (v = 1 ∨ v = 2)) :
    Calls Try.prog 13 #[.int .i64 v, .int .i64 n] w fun e w' => e = .returned (.tuple #[.int .i64 (bucket v n).1, .int .i64 (bucket v n).2]) ∧ Below w.heap.size w w' := by
  have hg := grown_no h
  have hb : bucket v n = (0, 100) := by unfold bucket; rw [if_pos h]
  have Hb := Lib.hid hb; clear hb
  have hn := eqf_nil
  go_enter Try.func13, Try.ntmps13
  go_wp2_with (go_at_call 19; refine (grows _ _).mono ?_; rintro e w1 ⟨rfl, hb1⟩)
  go_ret2
  rw [Hb.out]
  exact ⟨rfl, hb1⟩

theorem bucket_yes1 (n : Int) (w : World) :
    Calls Try.prog 13 #[.int .i64 1, .int .i64 n] w fun e w' => e = .returned (.tuple #[.int .i64 (bucket 1 n).1, .int .i64 (bucket 1 n).2]) ∧ Below w.heap.size w w' := by
  have hf := eqf_func
  have hg : grown 1 = .func (.func 25) #[] #[] := rfl
  by_cases h1 : n < 0
  · have hb : bucket 1 n = (0, 1) := by unfold bucket; rw [if_neg (by omega), if_pos h1]
    have Hb := Lib.hid hb; clear hb
    go_enter Try.func13, Try.ntmps13
    go_wp2_with (go_at_call 19; refine (grows _ _).mono ?_; rintro e w1 ⟨rfl, hb1⟩)
    go_ret2
    rw [Hb.out]
    exact ⟨rfl, hb1⟩
  · by_cases h2 : 1048576 < n
    · have hb : bucket 1 n = (0, 2) := by unfold bucket; rw [if_neg (by omega), if_neg h1, if_pos h2]
      have Hb := Lib.hid hb; clear hb
      go_enter Try.func13, Try.ntmps13
      go_wp2_with (go_at_call 19; refine (grows _ _).mono ?_; rintro e w1 ⟨rfl, hb1⟩)
      go_ret2
      rw [Hb.out]
      exact ⟨rfl, hb1⟩
    · obtain ⟨m, rfl⟩ := Int.eq_ofNat_of_zero_le (show 0 ≤ n by omega)
      have hb : bucket 1 m = (((up 1 (m + 4) 64 : Nat) : Int), 0) := by unfold bucket; rw [if_neg (by omega), if_neg h1, if_neg h2]; rfl
      have Hb := Lib.hid hb; clear hb
      have hm : (m : Int) ≤ 1048576 := by omega
      have c1 : decide ((m : Int) < 0) = false := by simp
      have c2 : decide ((1048576 : Int) < (m : Int)) = false := by simp; omega
      clear h1 h2
      go_enter Try.func13, Try.ntmps13
      go_wp2_with (go_at_call 19; refine (grows _ _).mono ?_; rintro e w1 ⟨rfl, hb1⟩)
      go_loop [7] (fun s => ∃ b : Nat, 0 < b ∧ (b = 64 ∨ b ≤ 2 * (m + 4)) ∧ up 1 (m + 4) b = up 1 (m + 4) 64 ∧ s = .int .i64 b) (fun s => m + 4 - (intOf s).toNat)
      case atStart => exact ⟨64, by omega, by omega, rfl, rfl⟩
      case round =>
        obtain ⟨b, b0, b1, b2, rfl⟩ := hrel
        have HU := Lib.hid b2; clear b2
        have hgt := next_gt 1 b b0
        have hle := next_le 1 b b0
        by_cases h : b < m + 4
        · have h' : (b : Int) < (m : Int) + 4 := by omega
          go_wp2_with (go_at_call 25; refine (grows1 b (by omega) _).mono ?_; rintro e w2 ⟨rfl, rfl⟩)
          go_round
          case rel => exact ⟨next 1 b, by omega, by omega, by rw [up_step b0 h]; exact HU.out, rfl⟩
          case measure => simp [intOf]; omega
        · have h' : (m : Int) + 4 ≤ (b : Int) := by omega
          go_wp2
          go_ret2
          rw [Hb.out, ← HU.out, up_end h]
          exact ⟨rfl, hb1⟩
theorem bucket_yes2 (n : Int) (w : World) :
    Calls Try.prog 13 #[.int .i64 2, .int .i64 n] w fun e w' => e = .returned (.tuple #[.int .i64 (bucket 2 n).1, .int .i64 (bucket 2 n).2]) ∧ Below w.heap.size w w' := by
  have hf := eqf_func
  have hg : grown 2 = .func (.func 26) #[] #[] := rfl
  by_cases h1 : n < 0
  · have hb : bucket 2 n = (0, 1) := by unfold bucket; rw [if_neg (by omega), if_pos h1]
    have Hb := Lib.hid hb; clear hb
    go_enter Try.func13, Try.ntmps13
    go_wp2_with (go_at_call 19; refine (grows _ _).mono ?_; rintro e w1 ⟨rfl, hb1⟩)
    go_ret2
    rw [Hb.out]
    exact ⟨rfl, hb1⟩
  · by_cases h2 : 1048576 < n
    · have hb : bucket 2 n = (0, 2) := by unfold bucket; rw [if_neg (by omega), if_neg h1, if_pos h2]
      have Hb := Lib.hid hb; clear hb
      go_enter Try.func13, Try.ntmps13
      go_wp2_with (go_at_call 19; refine (grows _ _).mono ?_; rintro e w1 ⟨rfl, hb1⟩)
      go_ret2
      rw [Hb.out]
      exact ⟨rfl, hb1⟩
    · obtain ⟨m, rfl⟩ := Int.eq_ofNat_of_zero_le (show 0 ≤ n by omega)
      have hb : bucket 2 m = (((up 2 (m + 4) 64 : Nat) : Int), 0) := by unfold bucket; rw [if_neg (by omega), if_neg h1, if_neg h2]; rfl
      have Hb := Lib.hid hb; clear hb
      have hm : (m : Int) ≤ 1048576 := by omega
      have c1 : decide ((m : Int) < 0) = false := by simp
      have c2 : decide ((1048576 : Int) < (m : Int)) = false := by simp; omega
      clear h1 h2
      go_enter Try.func13, Try.ntmps13
      go_wp2_with (go_at_call 19; refine (grows _ _).mono ?_; rintro e w1 ⟨rfl, hb1⟩)
      go_loop [7] (fun s => ∃ b : Nat, 0 < b ∧ (b = 64 ∨ b ≤ 2 * (m + 4)) ∧ up 2 (m + 4) b = up 2 (m + 4) 64 ∧ s = .int .i64 b) (fun s => m + 4 - (intOf s).toNat)
      case atStart => exact ⟨64, by omega, by omega, rfl, rfl⟩
      case round =>
        obtain ⟨b, b0, b1, b2, rfl⟩ := hrel
        have HU := Lib.hid b2; clear b2
        have hgt := next_gt 2 b b0
        have hle := next_le 2 b b0
        by_cases h : b < m + 4
        · have h' : (b : Int) < (m : Int) + 4 := by omega
          go_wp2_with (go_at_call 26; refine (grows2 b (by omega) _).mono ?_; rintro e w2 ⟨rfl, rfl⟩)
          go_round
          case rel => exact ⟨next 2 b, by omega, by omega, by rw [up_step b0 h]; exact HU.out, rfl⟩
          case measure => simp [intOf]; omega
        · have h' : (m : Int) + 4 ≤ (b : Int) := by omega
          go_wp2
          go_ret2
          rw [Hb.out, ← HU.out, up_end h]
          exact ⟨rfl, hb1⟩
theorem bucket_any (v n : Int) (w : World) :
    Calls Try.prog 13 #[.int .i64 v, .int .i64 n] w fun e w' => e = .returned (.tuple #[.int .i64 (bucket v n).1, .int .i64 (bucket v n).2]) ∧ Below w.heap.size w w' := by
  by_cases h : v = 1 ∨ v = 2
  · rcases h with rfl | rfl
    · exact bucket_yes1 n w
    · exact bucket_yes2 n w
  · exact bucket_no v n w h
end Go.Proofs.Ythiibkcaodaekaa.Bk
