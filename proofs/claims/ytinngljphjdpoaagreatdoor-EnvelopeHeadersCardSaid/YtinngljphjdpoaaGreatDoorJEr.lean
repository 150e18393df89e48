/- The reference's low, known, fits, one. -/
import Derived.Test.YtinngljphjdpoaaGreatDoorJEb
namespace Go.Proofs.YtinngljphjdpoaaGreatDoor.Er
open Go Go.RowKit Go.Proofs.YtinngljphjdpoaaGreatDoor.Pa Go.Proofs.YtinngljphjdpoaaGreatDoor.Pb Go.Proofs.YtinngljphjdpoaaGreatDoor.Pf Go.Proofs.YtinngljphjdpoaaGreatDoor.Nz Go.Proofs.YtinngljphjdpoaaGreatDoor.Ea Go.Proofs.YtinngljphjdpoaaGreatDoor.Eb Go.Proofs.YtinngljphjdpoaaGreatDoor.Hx
set_option linter.unusedVariables false
set_option linter.unusedSimpArgs false
set_option maxRecDepth 100000 in
theorem low (n k : Nat) (hn : n < 18446744073709551616) (hk : k ≤ 8) (w : World) :
    Calls Tryz.prog 140 #[.int .u64 n, .int .i64 (k : Int)] w fun e w' => ∃ v', e = .returned v' ∧ Own w' w.heap.size 5 v' (Ep.low n k) ∧ Below w.heap.size w w' := by
  have HN := Lib.hid hn; clear hn
  go_enter Tryz.func140, Tryz.ntmps140
  go_wp2_with fail
  go_loopw [0, 5, 6] (fun s t u wr => ∃ (i : Nat), i ≤ k ∧ u = .int .i64 i ∧ s = .int .u64 ((n / 256 ^ i : Nat) : Int) ∧ Own wr w.heap.size 5 t (Ep.low n i) ∧ Below w.heap.size w wr) (fun _ _ u _ => k - (intOf u).toNat)
  case atStart => exact ⟨0, by omega, rfl, by simp, Own.empty w w.heap.size _ (Nat.le_refl _), (Below.refl _ _).alloc (Nat.le_refl _) _⟩
  case round =>
    obtain ⟨i, hi, rfl, rfl, ho, hbw⟩ := hrel
    have hbs := hbw.size
    have hll := Ep.low_length n i
    have hsn := Ep.low_snoc i n
    have hnx : n / 256 ^ (i + 1) = n / 256 ^ i / 256 := by rw [Nat.div_div_eq_div_mul, Nat.pow_succ]
    have hlt : n / 256 ^ i < 18446744073709551616 := Nat.lt_of_le_of_lt (Nat.div_le_self _ _) HN.out
    generalize n / 256 ^ i = q at *
    have HO := Lib.hid ho; clear ho
    by_cases h : i < k
    · have HY := Lib.hid (show ((q : Int) % 256) = ((UInt8.ofNat (q % 256)).toNat : Int) by rw [← of_nat8 (by omega)]; omega)
      have hw8 : IntKind.u8.wrap ((q : Int) % 256) = (q : Int) % 256 := by rw [IntKind.wrap_u8]; omega
      have hq : IntKind.u64.wrap ((q : Int) / 256) = ((q / 256 : Nat) : Int) := by rw [wu64 (by omega) (by omega)]; omega
      have HNX := Lib.hid hnx; have HSN := Lib.hid hsn; clear hnx hsn
      go_wp2_with (at_builtin; refine wp_app (.tmp 13) (.tmp 17) Nm.u8 rfl rfl rfl rfl (HO.out.alloc _) (rd_box wr _ _ _ HY.out) (by simp; omega) (by simp; omega) ?_; intro v2 w2 ho2 hg2 hc2)
      have hb2 := Lib.hid (below_grown (hbw.alloc hbs _) (HO.out.alloc _) (Nat.le_refl _) (by simp; omega) hg2)
      clear hg2 hc2
      go_wp2
      go_roundw
      case rel => exact ⟨i + 1, by omega, by go_num, by rw [HNX.out]; first | rfl | go_num, by rw [HSN.out]; simpa using ho2, hb2.out⟩
      case measure => simp [intOf]; omega
    · obtain rfl : i = k := by omega
      go_wp2
      go_ret
      exact ⟨_, rfl, HO.out, hbw⟩
/-- Is a wire type one? -/
def kn (ty : Int) : Bool := decide (ty = 0 ∨ ty = 1 ∨ ty = 2 ∨ ty = 5)
set_option maxRecDepth 100000 in
theorem known (ty : Int) (w : World) : Calls Tryz.prog 107 #[.int .i64 ty] w fun e w' => e = .returned (.bool (kn ty)) ∧ w' = w := by
  obtain ⟨R, hR⟩ : ∃ R, R = kn ty := ⟨_, rfl⟩
  rw [← hR]
  unfold kn at hR
  by_cases t0 : ty = 0
  · subst t0
    have hr : R = true := by rw [hR]; rfl
    subst hr; clear hR
    go_enter Tryz.func107, Tryz.ntmps107
    go_wp2
    go_ret
    exact ⟨rfl, rfl⟩
  by_cases t1 : ty = 1
  · subst t1
    have hr : R = true := by rw [hR]; rfl
    subst hr; clear hR t0
    go_enter Tryz.func107, Tryz.ntmps107
    go_wp2
    go_ret
    exact ⟨rfl, rfl⟩
  by_cases t2 : ty = 2
  · subst t2
    have hr : R = true := by rw [hR]; rfl
    subst hr; clear hR t0 t1
    go_enter Tryz.func107, Tryz.ntmps107
    go_wp2
    go_ret
    exact ⟨rfl, rfl⟩
  by_cases t5 : ty = 5
  · subst t5
    have hr : R = true := by rw [hR]; rfl
    subst hr; clear hR t0 t1 t2
    go_enter Tryz.func107, Tryz.ntmps107
    go_wp2
    go_ret
    exact ⟨rfl, rfl⟩
  have hr : R = false := by rw [hR]; exact decide_eq_false (by omega)
  have t0z : (ty == 0) = false := by simpa using t0
  have t1z : (ty == 1) = false := by simpa using t1
  have t2z : (ty == 2) = false := by simpa using t2
  have t5z : (ty == 5) = false := by simpa using t5
  subst hr; clear hR t0 t1 t2 t5
  go_enter Tryz.func107, Tryz.ntmps107
  go_wp2
  go_ret
  exact ⟨rfl, rfl⟩
/-- Has a field what its type has? -/
def ft (ty : Int) (num dl : Nat) : Bool := if ty = 2 then decide (num = 0) else decide (dl = 0 ∧ (ty ≠ 5 ∨ num ≤ 4294967295))
set_option maxRecDepth 100000 in
theorem fits (no ty : Int) (num : Nat) (A : Option Addr) (dl c : Nat) (hd : dl ≤ 100000000) (w : World) :
    Calls Tryz.prog 108 #[.agg #[.int .i64 no, .int .i64 ty, .int .u64 (num : Int), .slice A dl c]] w fun e w' => e = .returned (.bool (ft ty num dl)) ∧ Below w.heap.size w w' := by
  have BB := Lib.hid (vb w (.cells #[.int .i64 no, .int .i64 ty, .int .u64 (num : Int), .slice A dl c] 140))
  obtain ⟨R, hR⟩ : ∃ R, R = ft ty num dl := ⟨_, rfl⟩
  rw [← hR]
  unfold ft at hR
  by_cases t2 : ty = 2
  · subst t2
    rw [if_pos rfl] at hR
    by_cases n0 : num = 0
    · have hr : R = true := by rw [hR]; exact decide_eq_true n0
      have nz : ((num : Int) == 0) = true := by simp; omega
      subst hr; clear hR n0
      go_enter Tryz.func108, Tryz.ntmps108
      go_wp2_with fail
      go_ret
      exact ⟨rfl, BB.out⟩
    · have hr : R = false := by rw [hR]; exact decide_eq_false n0
      have nz : ((num : Int) == 0) = false := by simp; omega
      subst hr; clear hR n0
      go_enter Tryz.func108, Tryz.ntmps108
      go_wp2_with fail
      go_ret
      exact ⟨rfl, BB.out⟩
  rw [if_neg t2] at hR
  have t2z : (ty == 2) = false := by simpa using t2
  by_cases d0 : dl = 0
  · subst d0
    by_cases t5 : ty = 5
    · subst t5
      by_cases n5 : num ≤ 4294967295
      · have hr : R = true := by rw [hR]; exact decide_eq_true ⟨rfl, .inr n5⟩
        have nz : (num : Int) ≤ 4294967295 := by omega
        subst hr; clear hR n5 t2 t2z
        go_enter Tryz.func108, Tryz.ntmps108
        go_wp2_with fail
        go_ret
        exact ⟨rfl, BB.out⟩
      · have hr : R = false := by rw [hR]; exact decide_eq_false (by omega)
        have nz : ¬ (num : Int) ≤ 4294967295 := by omega
        subst hr; clear hR n5 t2 t2z
        go_enter Tryz.func108, Tryz.ntmps108
        go_wp2_with fail
        go_ret
        exact ⟨rfl, BB.out⟩
    · have hr : R = true := by rw [hR]; exact decide_eq_true ⟨rfl, .inl t5⟩
      have t5z : (ty != 5) = true := by simpa using t5
      subst hr; clear hR t2 t5
      go_enter Tryz.func108, Tryz.ntmps108
      go_wp2_with fail
      go_ret
      exact ⟨rfl, BB.out⟩
  · have hr : R = false := by rw [hR]; exact decide_eq_false (by omega)
    have dz : ((dl : Int) == 0) = false := by simp; omega
    subst hr; clear hR t2 d0
    go_enter Tryz.func108, Tryz.ntmps108
    go_wp2_with fail
    go_ret
    exact ⟨rfl, BB.out⟩
/-- How both go together. -/
theorem wrong_ref (f : Ep.Fd) (last : Int) (h : ¬ (f.no < 1 ∨ 536870911 < f.no ∨ f.no ≤ last)) : Ep.wrong f last = if kn f.ty = false then 72 else if ft f.ty f.num f.data.length = false then 1 else 0 := by
  unfold Ep.wrong kn ft
  rw [if_neg h]
  by_cases t2 : f.ty = 2
  · by_cases n0 : f.num = 0 <;> simp [t2, n0]
  · by_cases t0 : f.ty = 0 ∨ f.ty = 1 ∨ f.ty = 5
    · have hk : f.ty = 0 ∨ f.ty = 1 ∨ f.ty = 2 ∨ f.ty = 5 := by omega
      rw [if_neg t2, if_pos t0, decide_eq_true hk]
      show (if f.data.length ≠ 0 ∨ f.ty = 5 ∧ 4294967296 ≤ f.num then (1 : Int) else 0) = (if (if f.ty = 2 then decide (f.num = 0) else decide (f.data.length = 0 ∧ (f.ty ≠ 5 ∨ f.num ≤ 4294967295))) = false then 1 else 0)
      rw [if_neg t2]
      by_cases hP : f.data.length = 0 ∧ (f.ty ≠ 5 ∨ f.num ≤ 4294967295)
      · rw [decide_eq_true hP, if_neg (by omega)]; rfl
      · rw [decide_eq_false hP, if_pos (by omega)]; rfl
    · have hk : ¬ (f.ty = 0 ∨ f.ty = 1 ∨ f.ty = 2 ∨ f.ty = 5) := by omega
      rw [if_neg t2, if_neg t0, decide_eq_false hk, if_pos rfl]
end Go.Proofs.YtinngljphjdpoaaGreatDoor.Er
