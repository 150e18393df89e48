/- The lengths of envelopes, and the law EnvelopeBuckets' walk. -/
import Derived.Test.YthiibkcaodaekaaBr
import Derived.Test.YthiibkcaodaekaaNm
namespace Go.Proofs.Ythiibkcaodaekaa.Bl
open Go Go.RowKit Go.Proofs.Ythiibkcaodaekaa.Pa Go.Proofs.Ythiibkcaodaekaa.Pb Go.Proofs.Ythiibkcaodaekaa.Bk Go.Proofs.Ythiibkcaodaekaa.Br Go.Proofs.Ythiibkcaodaekaa.Nm
set_option linter.unusedVariables false
set_option linter.unusedSimpArgs false

theorem framed (x : Int) (h0 : 0 ≤ x) (h1 : x ≤ 4194304) (w : World) : Calls Try.prog 22 #[.int .i64 x] w fun e w' => e = .returned (.int .i64 (1 + sz x.toNat + x)) ∧ w = w' := by
  obtain ⟨n, rfl⟩ := Int.eq_ofNat_of_zero_le h0
  have hs := sz_u64 n (by omega)
  go_enter Try.func22, Try.ntmps22
  go_wp2_with (go_at_call 23; refine (size n (by omega) _).mono ?_; rintro e w1 ⟨rfl, rfl⟩)
  go_ret
  exact ⟨ret_int (by simp), rfl⟩

/-- How long an envelope is. -/
def length (v n : Int) : Int × Int := if (bucket v n).2 = 0 then (99 + sz ((bucket v n).1.toNat + 16) + (bucket v n).1, 0) else (0, (bucket v n).2)
theorem bucket_bd (v n : Int) (h : (bucket v n).2 = 0) : 64 ≤ (bucket v n).1 ∧ (bucket v n).1 ≤ 2097160 := by
  unfold bucket at h ⊢
  split at h <;> rename_i h1
  · simp at h
  · rw [if_neg h1]
    split at h <;> rename_i h2
    · simp at h
    · rw [if_neg h2]
      split at h <;> rename_i h3
      · simp at h
      · rw [if_neg h3]
        have := up_bd v.toNat (n.toNat + 4) _ 64 rfl (by omega)
        simp only
        omega

theorem len_any (v n : Int) (w : World) :
    Calls Try.prog 15 #[.int .i64 v, .int .i64 n] w fun e w' => e = .returned (.tuple #[.int .i64 (length v n).1, .int .i64 (length v n).2]) ∧ Below w.heap.size w w' := by
  by_cases h : (bucket v n).2 = 0
  · obtain ⟨h1, h2⟩ := bucket_bd v n h
    obtain ⟨b, hb⟩ := Int.eq_ofNat_of_zero_le (show 0 ≤ (bucket v n).1 by omega)
    have hl : length v n = (99 + (sz (b + 16) : Int) + (b : Int), 0) := by unfold length; rw [if_pos h, hb]; rfl
    have HL := Lib.hid hl; clear hl
    have hs := sz_u64 (b + 16) (by omega)
    rw [hb] at h1 h2
    have e1 : sz 16 = 1 := by decide +kernel
    have e2 : sz 60 = 1 := by decide +kernel
    go_enter Try.func15, Try.ntmps15
    go_wp2_with (first | (go_at_call 13; refine (bucket_any _ _ _).mono ?_; rintro e w1 ⟨rfl, hb1⟩) | (go_at_call 22; refine (framed _ (by omega) (by omega) _).mono ?_; rintro e w2 ⟨rfl, rfl⟩))
    go_ret2
    rw [HL.out]
    exact ⟨ret_pair (by simp; omega) rfl, hb1⟩
  · have hl : length v n = (0, (bucket v n).2) := by unfold length; rw [if_neg h]
    have HL := Lib.hid hl; clear hl
    have hn : ((bucket v n).2 != 0) = true := by simpa using h
    go_enter Try.func15, Try.ntmps15
    go_wp2_with (go_at_call 13; refine (bucket_any _ _ _).mono ?_; rintro e w1 ⟨rfl, hb1⟩)
    go_ret2
    rw [HL.out]
    exact ⟨rfl, hb1⟩

theorem rlen (v n : Int) (w : World) :
    Calls Try.prog 16 #[.int .i64 v, .int .i64 n] w fun e w' => e = .returned (.tuple #[.int .i64 (length v n).1, .int .i64 (length v n).2]) ∧ Below w.heap.size w w' := by
  by_cases h : (bucket v n).2 = 0
  · obtain ⟨h1, h2⟩ := bucket_bd v n h
    obtain ⟨b, hb⟩ := Int.eq_ofNat_of_zero_le (show 0 ≤ (bucket v n).1 by omega)
    have hl : length v n = (99 + (sz (b + 16) : Int) + (b : Int), 0) := by unfold length; rw [if_pos h, hb]; rfl
    have HL := Lib.hid hl; clear hl
    have hs := sz_u64 (b + 16) (by omega)
    rw [hb] at h1 h2
    have hc : IntKind.u64.wrap ((b : Int) + 16) = ((b + 16 : Nat) : Int) := by rw [wu64 (by omega) (by omega)]; rfl
    go_enter Try.func16, Try.ntmps16
    go_wp2_with (first | (go_at_call 14; refine (rbucket _ _ _).mono ?_; rintro e w1 ⟨rfl, rfl⟩) | (go_at_call 24; refine (rsize (b + 16) (by omega) _).mono ?_; rintro e w2 ⟨rfl, hb2⟩))
    go_ret2
    rw [HL.out]
    exact ⟨ret_pair (by simp; omega) rfl, hb2⟩
  · have hl : length v n = (0, (bucket v n).2) := by unfold length; rw [if_neg h]
    have HL := Lib.hid hl; clear hl
    have hn : ((bucket v n).2 != 0) = true := by simpa using h
    go_enter Try.func16, Try.ntmps16
    go_wp2_with (go_at_call 14; refine (rbucket _ _ _).mono ?_; rintro e w1 ⟨rfl, rfl⟩)
    go_ret2
    rw [HL.out]
    exact ⟨rfl, Below.refl _ _⟩

theorem walk (v : Int) (hv : (Lit.int .i64 v).wf = true) (n : Int) (hn : (Lit.int .i64 n).wf = true) (w : World) :
    Calls Try.prog 4 #[.int .i64 v, .int .i64 n] w fun e w' => e = .returned (.bool true) ∧ Below w.heap.size w w' := by
  go_enter Try.func4, Try.ntmps4
  go_wp2_with (first | (go_at_call 13; refine (bucket_any _ _ _).mono ?_; rintro e w1 ⟨rfl, hb1⟩) | (go_at_call 14; refine (rbucket _ _ _).mono ?_; rintro e w2 ⟨rfl, rfl⟩) | (go_at_call 15; refine (len_any _ _ _).mono ?_; rintro e w3 ⟨rfl, hb3⟩) | (go_at_call 16; refine (rlen _ _ _).mono ?_; rintro e w4 ⟨rfl, hb4⟩))
  go_ret
  exact ⟨rfl, hb1.trans ((hb3.mono hb1.size).trans (hb4.mono (Nat.le_trans hb1.size hb3.size)))⟩
end Go.Proofs.Ythiibkcaodaekaa.Bl
