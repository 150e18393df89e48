/- The reference: whole, Float. -/
import Derived.Test.YtpfckpaokoifhaaGreatDoorFl
namespace Go.Proofs.YtpfckpaokoifhaaGreatDoor.Rf
open Go Go.RowKit Go.Proofs.YtpfckpaokoifhaaGreatDoor.Pa Go.Proofs.YtpfckpaokoifhaaGreatDoor.Pb Go.Proofs.YtpfckpaokoifhaaGreatDoor.Vh Go.Proofs.YtpfckpaokoifhaaGreatDoor.Fl
set_option linter.unusedVariables false
set_option linter.unusedSimpArgs false
theorem log2_of {n p : Nat} (h0 : n ≠ 0) (h1 : 2 ^ p ≤ n) (h2 : n < 2 ^ (p + 1)) : n.log2 = p := by
  have a := Nat.log2_self_le h0
  have b : n < 2 ^ (n.log2 + 1) := Nat.lt_log2_self
  have c : p < n.log2 + 1 := (Nat.pow_lt_pow_iff_right (by decide : 1 < 2)).1 (Nat.lt_of_le_of_lt h1 b)
  have d : n.log2 < p + 1 := (Nat.pow_lt_pow_iff_right (by decide : 1 < 2)).1 (Nat.lt_of_le_of_lt a h2)
  omega
theorem shr_nat (n p : Nat) : ((n : Int) / 2 ^ p) = ((n / 2 ^ p : Nat) : Int) := by push_cast; rfl
set_option maxHeartbeats 1000000 in
set_option maxRecDepth 100000 in
theorem rwhole (n : Nat) (hn : n ≤ 9007199254740992) (w : World) : Calls Tryz.prog 99 #[.int .u64 (n : Int)] w fun e w' => e = .returned (.int .u64 (whole n : Int)) ∧ w' = w := by
  obtain ⟨R, hR⟩ : ∃ R, R = whole n := ⟨_, rfl⟩
  rw [← hR]
  unfold whole at hR
  have HR := Lib.hid hR; clear hR
  by_cases h0 : n = 0
  · subst h0
    have hr : R = 0 := HR.out
    subst hr
    go_enter Tryz.func99, Tryz.ntmps99
    go_wp2
    go_ret
    exact ⟨rfl, rfl⟩
  · have h0z : ¬ (n : Int) = 0 := by omega
    have h0b : ((n : Int) == 0) = false := by simp; omega
    have hr := HR.out
    rw [if_neg h0] at hr
    have HR2 := Lib.hid hr
    clear HR hr
    go_enter Tryz.func99, Tryz.ntmps99
    go_wp2_with fail
    go_loopw [3] (fun s wr => ∃ p : Nat, p ≤ 53 ∧ 2 ^ p ≤ n ∧ s = .int .u64 p ∧ wr = w) (fun s _ => 100 - (intOf s).toNat)
    case atStart => exact ⟨0, by omega, by rw [Nat.pow_zero]; omega, rfl, rfl⟩
    case round =>
      obtain ⟨p, hp, hpn, rfl, rfl⟩ := hrel
      have hpp : 0 < 2 ^ p := Nat.two_pow_pos _
      have hdv : (n : Int) / 2 ^ p = ((n / 2 ^ p : Nat) : Int) := by push_cast; rfl
      by_cases hc : 1 < n / 2 ^ p
      · have hcz : (1 : Int) < (n : Int) / 2 ^ p := by rw [hdv]; exact_mod_cast hc
        have h2 : 2 ^ (p + 1) ≤ n := by
          have := (Nat.le_div_iff_mul_le hpp).1 hc
          rw [Nat.pow_succ]; omega
        have h3 : p + 1 ≤ 53 := by
          have : ¬ 53 < p + 1 := fun hx => by
            have := Nat.pow_le_pow_right (n := 2) (by decide) (show 54 ≤ p + 1 by omega)
            have e : (2 : Nat) ^ 54 = 18014398509481984 := by decide
            omega
          omega
        have H2 := Lib.hid h2
        clear hdv hc h2 hpn hpp
        go_wp2_with fail
        go_roundw
        case rel => exact ⟨p + 1, h3, H2.out, by go_num, by first | rfl | trivial⟩
        case measure => simp [intOf]; omega
      · have hcz : ¬ (1 : Int) < (n : Int) / 2 ^ p := by rw [hdv]; exact_mod_cast hc
        have hlg : n.log2 = p := log2_of h0 hpn (by
          have h3 : ¬ 2 ≤ n / 2 ^ p := by omega
          rw [Nat.le_div_iff_mul_le hpp] at h3
          rw [Nat.pow_succ]; omega)
        have hr2 := HR2.out
        rw [hlg] at hr2
        have HR3 := Lib.hid hr2
        have hsmall : p ≤ 52 → n * 2 ^ (52 - p) < 9007199254740992 := fun h => by
          have hl2 : n < 2 ^ (p + 1) := by rw [← hlg]; exact Nat.lt_log2_self
          have : n * 2 ^ (52 - p) < 2 ^ (p + 1) * 2 ^ (52 - p) := Nat.mul_lt_mul_of_pos_right hl2 (Nat.two_pow_pos _)
          rw [← Nat.pow_add, show p + 1 + (52 - p) = 53 by omega] at this
          have e : (2 : Nat) ^ 53 = 9007199254740992 := by decide
          omega
        have hbig : p ≤ 52 → 4503599627370496 ≤ n * 2 ^ (52 - p) := fun h => by
          have : 2 ^ p * 2 ^ (52 - p) ≤ n * 2 ^ (52 - p) := Nat.mul_le_mul_right _ hpn
          rw [← Nat.pow_add, show p + (52 - p) = 52 by omega] at this
          have e : (2 : Nat) ^ 52 = 4503599627370496 := by decide
          omega
        have HS := Lib.hid hsmall; have HBG := Lib.hid hbig
        clear hlg hr2 hsmall hbig hpn hpp hdv hc
        by_cases h52 : 52 < p
        · obtain rfl : p = 53 := by omega
          have hr53 : R = 4845873199050653696 := by rw [HR3.out, if_pos (by decide)]
          subst hr53
          clear HR3 HS HBG h52
          go_wp2_with fail
          go_ret
          exact ⟨rfl, rfl⟩
        · have h52z : ¬ (52 : Int) < (p : Int) := by omega
          have em : (n : Int) * 2 ^ (52 - p) = ((n * 2 ^ (52 - p) : Nat) : Int) := by push_cast; rfl
          have HEM := Lib.hid em; clear em
          go_wp2_with fail
          go_ret
          refine ⟨?_, rfl⟩
          rw [HR3.out, if_neg h52]
          have hs := HS.out (by omega)
          have hb := HBG.out (by omega)
          generalize n * 2 ^ (52 - p) = y at *
          have e1 : (n : Int) * 2 ^ (52 - p) = (y : Int) := HEM.out
          show Ending.returned (Value.int .u64 _) = _
          congr 2
          simp only [IntKind.wrap_u64] at *
          rw [e1]
          omega
set_option maxHeartbeats 1000000 in
set_option maxRecDepth 100000 in
theorem rFloat (n most : Nat) (hn : n < 18446744073709551616) (hm : most ≤ 9007199254740992) (w : World) : Calls Tryz.prog 83 #[.int .u64 (n : Int), .int .u64 (most : Int)] w fun e w' => e = .returned (.int .i64 (rF n most)) ∧ w' = w := by
  obtain ⟨R, hR⟩ : ∃ R, R = rF n most := ⟨_, rfl⟩
  rw [← hR]
  unfold rF at hR
  have hmod : (n : Int) % 9223372036854775808 = ((n % 9223372036854775808 : Nat) : Int) := by omega
  generalize n % 9223372036854775808 = r at *
  have HR := Lib.hid hR; clear hR
  by_cases h1 : 9218868437227405312 ≤ r
  · have h1z : (9218868437227405312 : Int) ≤ (r : Int) := by omega
    have hr := HR.out
    rw [if_pos (show _ ∨ n = _ from .inl h1)] at hr
    subst hr
    clear HR h1
    go_enter Tryz.func83, Tryz.ntmps83
    go_wp2
    go_ret
    exact ⟨rfl, rfl⟩
  · have h1z : ¬ (9218868437227405312 : Int) ≤ (r : Int) := by omega
    by_cases h2 : n = 9223372036854775808
    · have hr := HR.out
      rw [if_pos (show _ ∨ n = _ from .inr h2)] at hr
      have h2z : (n : Int) = 9223372036854775808 := by omega
      have h2b : ((n : Int) == 9223372036854775808) = true := by simp [h2z]
      subst hr
      clear HR h1 h2
      go_enter Tryz.func83, Tryz.ntmps83
      go_wp2
      go_ret
      exact ⟨rfl, rfl⟩
    · have hr := HR.out
      rw [if_neg (show ¬ (_ ∨ n = _) by omega)] at hr
      have h2z : ¬ (n : Int) = 9223372036854775808 := by omega
      have h2b : ((n : Int) == 9223372036854775808) = false := by simp; omega
      have hw := fun w => rwhole most hm w
      generalize whole most = Wm at hw hr
      have HW := Lib.hid hw
      have HR2 := Lib.hid hr
      clear HR h1 h2 hr hw
      by_cases h3 : Wm < r
      · have h3z : (Wm : Int) < (r : Int) := by omega
        have hr := HR2.out
        rw [if_pos h3] at hr
        subst hr
        clear HR2 h3
        go_enter Tryz.func83, Tryz.ntmps83
        go_wp2_with (go_at_call 99; refine (HW.out _).mono ?_; rintro _ w1 ⟨rfl, rfl⟩)
        go_ret
        exact ⟨rfl, rfl⟩
      · have h3z : ¬ (Wm : Int) < (r : Int) := by omega
        skip
        have hr := HR2.out
        rw [if_neg h3] at hr
        subst hr
        clear HR2 h3
        go_enter Tryz.func83, Tryz.ntmps83
        go_wp2_with (go_at_call 9999)
        go_at_call 99
        refine (HW.out _).mono ?_
        rintro _ w1 ⟨rfl, rfl⟩
        clear hn hm HW hmod h2z h2b h1z
        have h3b : decide ((Wm : Int) < (r : Int)) = false := decide_eq_false (by omega)
        go_wp2
        go_ret
        exact ⟨rfl, rfl⟩
end Go.Proofs.YtpfckpaokoifhaaGreatDoor.Rf
