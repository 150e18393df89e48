/- The reference: Text. -/
import Derived.Test.YtinngljphjdpoaaGreatDoorJRf
import Derived.Lib.ValidLaws
namespace Go.Proofs.YtinngljphjdpoaaGreatDoor.Tx
open Go Go.RowKit Go.Proofs.YtinngljphjdpoaaGreatDoor.Pa Go.Proofs.YtinngljphjdpoaaGreatDoor.Pb Go.Proofs.YtinngljphjdpoaaGreatDoor.Vh
set_option linter.unusedVariables false
set_option linter.unusedSimpArgs false
set_option maxRecDepth 100000
/-- The number so far. -/
def ac (t : List UInt8) (v : Nat) : Nat → Nat
  | 0 => v
  | j + 1 => ac t v j * 64 + ((t.getD (j + 1) 0).toNat - 128)
def cont (t : List UInt8) (j : Nat) : Prop := 128 ≤ (t.getD j 0).toNat ∧ (t.getD j 0).toNat < 192
theorem firstT_val (b : Nat) (h : 128 ≤ b) (h2 : b < 256) : Lib.firstT b = if b < 194 then 241 else if b < 224 then 2 else if b = 224 then 19 else if b < 237 then 3 else if b = 237 then 35 else if b < 240 then 3 else if b = 240 then 52 else if b < 244 then 4 else if b = 244 then 68 else 241 := by
  unfold Lib.firstT
  rw [if_neg (by omega)]
section
variable (t : List UInt8) (hne : t ≠ [])
include hne
theorem valid0 (h : (128 ≤ (t.getD 0 0).toNat ∧ (t.getD 0 0).toNat < 192) ∨ 248 ≤ (t.getD 0 0).toNat) : Lib.validD t = false := by
  have h8 := (t.getD 0 0).toNat_lt
  rw [Lib.validD_lead t hne (by omega)]
  have hf := firstT_val (t.getD 0 0).toNat (by omega) h8
  have : Lib.firstT (t.getD 0 0).toNat = 241 := by
    rw [hf]
    generalize (t.getD 0 0).toNat = b at *
    by_cases h1 : b < 194
    · rw [if_pos h1]
    · rw [if_neg h1, if_neg (by omega), if_neg (by omega), if_neg (by omega), if_neg (by omega), if_neg (by omega), if_neg (by omega), if_neg (by omega), if_neg (by omega)]
  rw [this]
  rfl
theorem valid2 (h : 192 ≤ (t.getD 0 0).toNat) (h2 : (t.getD 0 0).toNat < 224) : (((t.length < 2 ∨ ¬ cont t 1 ∨ ac t ((t.getD 0 0).toNat - 192) 1 < 128) → Lib.validD t = false) ∧ (¬ (t.length < 2 ∨ ¬ cont t 1 ∨ ac t ((t.getD 0 0).toNat - 192) 1 < 128) → Lib.validD t = Lib.validD (t.drop 2))) := by
  rw [Lib.validD_lead t hne (by omega)]
  have hf := firstT_val (t.getD 0 0).toNat (by omega) (by omega)
  unfold cont
  simp only [ac]
  generalize (t.getD 0 0).toNat = b0 at *
  generalize (t.getD 1 0).toNat = b1 at *
  generalize (t.getD 2 0).toNat = b2 at *
  generalize (t.getD 3 0).toNat = b3 at *
  by_cases h4 : b0 < 194
  · rw [if_pos h4] at hf
    rw [hf]
    exact ⟨fun _ => rfl, fun h => absurd (show _ from by omega) h⟩
  · rw [if_neg h4, if_pos h2] at hf
    rw [hf]
    have hk : Lib.checkN t.length b1 b2 b3 (2 % 8) (Lib.accLo (2 / 16)) (Lib.accHi (2 / 16)) = if t.length < 2 ∨ b1 < 128 ∨ 191 < b1 then none else some 2 := rfl
    rw [hk]
    by_cases hc : t.length < 2 ∨ b1 < 128 ∨ 191 < b1
    · rw [if_pos hc]; exact ⟨fun _ => rfl, fun h => absurd (show _ from by omega) h⟩
    · rw [if_neg hc]; exact ⟨fun h => absurd h (by omega), fun _ => rfl⟩
theorem valid3 (h : 224 ≤ (t.getD 0 0).toNat) (h2 : (t.getD 0 0).toNat < 240) : (((t.length < 3 ∨ ¬ cont t 1 ∨ ¬ cont t 2 ∨ ac t ((t.getD 0 0).toNat - 224) 2 < 2048 ∨ (55296 ≤ ac t ((t.getD 0 0).toNat - 224) 2 ∧ ac t ((t.getD 0 0).toNat - 224) 2 ≤ 57343)) → Lib.validD t = false) ∧ (¬ (t.length < 3 ∨ ¬ cont t 1 ∨ ¬ cont t 2 ∨ ac t ((t.getD 0 0).toNat - 224) 2 < 2048 ∨ (55296 ≤ ac t ((t.getD 0 0).toNat - 224) 2 ∧ ac t ((t.getD 0 0).toNat - 224) 2 ≤ 57343)) → Lib.validD t = Lib.validD (t.drop 3))) := by
  rw [Lib.validD_lead t hne (by omega)]
  have hf := firstT_val (t.getD 0 0).toNat (by omega) (by omega)
  unfold cont
  simp only [ac]
  generalize (t.getD 0 0).toNat = b0 at *
  generalize (t.getD 1 0).toNat = b1 at *
  generalize (t.getD 2 0).toNat = b2 at *
  generalize (t.getD 3 0).toNat = b3 at *
  rw [if_neg (by omega), if_neg (by omega)] at hf
  by_cases e1 : b0 = 224
  · rw [if_pos e1] at hf
    rw [hf]
    have hk : Lib.checkN t.length b1 b2 b3 (19 % 8) (Lib.accLo (19 / 16)) (Lib.accHi (19 / 16)) = if t.length < 3 ∨ b1 < 160 ∨ 191 < b1 ∨ b2 < 128 ∨ 191 < b2 then none else some 3 := rfl
    rw [hk]
    by_cases hc : t.length < 3 ∨ b1 < 160 ∨ 191 < b1 ∨ b2 < 128 ∨ 191 < b2
    · rw [if_pos hc]; exact ⟨fun _ => rfl, fun h => absurd (show _ from by omega) h⟩
    · rw [if_neg hc]; exact ⟨fun h => absurd h (by omega), fun _ => rfl⟩
  · rw [if_neg e1] at hf
    by_cases e2 : b0 = 237
    · rw [if_neg (by omega), if_pos e2] at hf
      rw [hf]
      have hk : Lib.checkN t.length b1 b2 b3 (35 % 8) (Lib.accLo (35 / 16)) (Lib.accHi (35 / 16)) = if t.length < 3 ∨ b1 < 128 ∨ 159 < b1 ∨ b2 < 128 ∨ 191 < b2 then none else some 3 := rfl
      rw [hk]
      by_cases hc : t.length < 3 ∨ b1 < 128 ∨ 159 < b1 ∨ b2 < 128 ∨ 191 < b2
      · rw [if_pos hc]; exact ⟨fun _ => rfl, fun h => absurd (show _ from by omega) h⟩
      · rw [if_neg hc]; exact ⟨fun h => absurd h (by omega), fun _ => rfl⟩
    · have hf3 : Lib.firstT b0 = 3 := by
        rw [hf]
        by_cases h1 : b0 < 237
        · rw [if_pos h1]
        · rw [if_neg h1, if_neg e2, if_pos h2]
      rw [hf3]
      have hk : Lib.checkN t.length b1 b2 b3 (3 % 8) (Lib.accLo (3 / 16)) (Lib.accHi (3 / 16)) = if t.length < 3 ∨ b1 < 128 ∨ 191 < b1 ∨ b2 < 128 ∨ 191 < b2 then none else some 3 := rfl
      rw [hk]
      by_cases hc : t.length < 3 ∨ b1 < 128 ∨ 191 < b1 ∨ b2 < 128 ∨ 191 < b2
      · rw [if_pos hc]; exact ⟨fun _ => rfl, fun h => absurd (show _ from by omega) h⟩
      · rw [if_neg hc]; exact ⟨fun h => absurd h (by omega), fun _ => rfl⟩
theorem valid4 (h : 240 ≤ (t.getD 0 0).toNat) (h2 : (t.getD 0 0).toNat < 248) : (((t.length < 4 ∨ ¬ cont t 1 ∨ ¬ cont t 2 ∨ ¬ cont t 3 ∨ ac t ((t.getD 0 0).toNat - 240) 3 < 65536 ∨ 1114111 < ac t ((t.getD 0 0).toNat - 240) 3) → Lib.validD t = false) ∧ (¬ (t.length < 4 ∨ ¬ cont t 1 ∨ ¬ cont t 2 ∨ ¬ cont t 3 ∨ ac t ((t.getD 0 0).toNat - 240) 3 < 65536 ∨ 1114111 < ac t ((t.getD 0 0).toNat - 240) 3) → Lib.validD t = Lib.validD (t.drop 4))) := by
  rw [Lib.validD_lead t hne (by omega)]
  have hf := firstT_val (t.getD 0 0).toNat (by omega) (by omega)
  unfold cont
  simp only [ac]
  generalize (t.getD 0 0).toNat = b0 at *
  generalize (t.getD 1 0).toNat = b1 at *
  generalize (t.getD 2 0).toNat = b2 at *
  generalize (t.getD 3 0).toNat = b3 at *
  rw [if_neg (by omega), if_neg (by omega), if_neg (by omega), if_neg (by omega), if_neg (by omega), if_neg (by omega)] at hf
  by_cases e1 : b0 = 240
  · rw [if_pos e1] at hf
    rw [hf]
    have hk : Lib.checkN t.length b1 b2 b3 (52 % 8) (Lib.accLo (52 / 16)) (Lib.accHi (52 / 16)) = if t.length < 4 ∨ b1 < 144 ∨ 191 < b1 ∨ b2 < 128 ∨ 191 < b2 ∨ b3 < 128 ∨ 191 < b3 then none else some 4 := rfl
    rw [hk]
    by_cases hc : t.length < 4 ∨ b1 < 144 ∨ 191 < b1 ∨ b2 < 128 ∨ 191 < b2 ∨ b3 < 128 ∨ 191 < b3
    · rw [if_pos hc]; exact ⟨fun _ => rfl, fun h => absurd (show _ from by omega) h⟩
    · rw [if_neg hc]; exact ⟨fun h => absurd h (by omega), fun _ => rfl⟩
  · rw [if_neg e1] at hf
    by_cases e2 : b0 < 244
    · rw [if_pos e2] at hf
      rw [hf]
      have hk : Lib.checkN t.length b1 b2 b3 (4 % 8) (Lib.accLo (4 / 16)) (Lib.accHi (4 / 16)) = if t.length < 4 ∨ b1 < 128 ∨ 191 < b1 ∨ b2 < 128 ∨ 191 < b2 ∨ b3 < 128 ∨ 191 < b3 then none else some 4 := rfl
      rw [hk]
      by_cases hc : t.length < 4 ∨ b1 < 128 ∨ 191 < b1 ∨ b2 < 128 ∨ 191 < b2 ∨ b3 < 128 ∨ 191 < b3
      · rw [if_pos hc]; exact ⟨fun _ => rfl, fun h => absurd (show _ from by omega) h⟩
      · rw [if_neg hc]; exact ⟨fun h => absurd h (by omega), fun _ => rfl⟩
    · rw [if_neg e2] at hf
      by_cases e3 : b0 = 244
      · rw [if_pos e3] at hf
        rw [hf]
        have hk : Lib.checkN t.length b1 b2 b3 (68 % 8) (Lib.accLo (68 / 16)) (Lib.accHi (68 / 16)) = if t.length < 4 ∨ b1 < 128 ∨ 143 < b1 ∨ b2 < 128 ∨ 191 < b2 ∨ b3 < 128 ∨ 191 < b3 then none else some 4 := rfl
        rw [hk]
        by_cases hc : t.length < 4 ∨ b1 < 128 ∨ 143 < b1 ∨ b2 < 128 ∨ 191 < b2 ∨ b3 < 128 ∨ 191 < b3
        · rw [if_pos hc]; exact ⟨fun _ => rfl, fun h => absurd (show _ from by omega) h⟩
        · rw [if_neg hc]; exact ⟨fun h => absurd h (by omega), fun _ => rfl⟩
      · rw [if_neg e3] at hf
        rw [hf]
        exact ⟨fun _ => rfl, fun h => absurd (show _ from by omega) h⟩
end
theorem ac_lt (t : List UInt8) (v : Nat) (hv : v < 64) : ∀ j, (∀ i, 1 ≤ i → i ≤ j → cont t i) → ac t v j < 64 ^ (j + 1)
  | 0, _ => by simpa [ac] using hv
  | j + 1, h => by
    have ih := ac_lt t v hv j (fun i h1 h2 => h i h1 (by omega))
    have hc := h (j + 1) (by omega) (Nat.le_refl _)
    unfold cont at hc
    rw [ac, Nat.pow_succ]
    have : ac t v j + 1 ≤ 64 ^ (j + 1) := ih
    omega
theorem drop_getD (l : List UInt8) (i j : Nat) : (l.drop i).getD j 0 = l.getD (i + j) 0 := by simp [List.getD, List.getElem?_drop]
theorem cell_at {w : World} {A : Option Addr} {n c : Nat} {l : List UInt8} (h : Rd w (.slice A n c) l) (j : Nat) (hj : j < n) : ∃ ad, A = some ad ∧ w.cell? (ad.add j) = some (.int .u8 ((l.getD j 0).toNat : Int)) := by
  have hl := h.len.1
  obtain ⟨ad, e, hc⟩ := h.at_ j (by omega)
  refine ⟨ad, e, hc.trans ?_⟩
  have : l.getD j 0 = l[j]'(by omega) := by rw [List.getD, List.getElem?_eq_getElem (by omega)]; rfl
  rw [this]
-- @GEN
set_option maxHeartbeats 8000000 in
theorem rText (v : Value) (l : List UInt8) (w : World) (h : Rd w v l) (hl62 : l.length ≤ 4611686018427387904) : Calls Tryz.prog 134 #[v] w fun e w' => e = .returned (.bool (Lib.validD l)) ∧ w' = w := by
  obtain ⟨A, c, rfl, hlc, hcm, -⟩ := id h
  obtain ⟨ANS, hANS⟩ : ∃ ANS, Lib.validD l = ANS := ⟨_, rfl⟩
  rw [hANS]
  have hlm : l.length ≤ 4611686018427387904 := hl62
  clear hl62
  have HR := Lib.hid h; have HA := Lib.hid hANS
  obtain ⟨N, hN⟩ : ∃ N, l.length = N := ⟨_, rfl⟩
  rw [hN] at HR hlc hlm ⊢
  have HN := Lib.hid hN
  clear h hANS hcm hN
  go_enter Tryz.func134, Tryz.ntmps134
  go_wp2_with fail
  go_loopw [3] (fun s wr => ∃ i : Nat, i ≤ N ∧ s = .int .i64 i ∧ wr = w ∧ Lib.validD (l.drop i) = ANS) (fun s _ => N - (intOf s).toNat)
  case atStart => exact ⟨0, by omega, rfl, rfl, by rw [List.drop_zero]; exact HA.out⟩
  case round =>
    obtain ⟨i, hi, rfl, hww, hv⟩ := hrel
    obtain rfl := hww.symm
    by_cases hin : i < N
    · obtain ⟨ad, rfl, c0⟩ := cell_at HR.out i hin
      have hiz : (i : Int) < (N : Int) := by omega
      obtain ⟨t, ht⟩ : ∃ t, l.drop i = t := ⟨_, rfl⟩
      have htl : t.length = N - i := by rw [← ht, List.length_drop, HN.out]
      have htne : t ≠ [] := fun h => by rw [h] at htl; simp at htl; omega
      obtain ⟨b0, hb0⟩ : ∃ b, (t.getD 0 0).toNat = b := ⟨_, rfl⟩
      have hb0' : (l.getD i 0).toNat = b0 := by rw [← hb0, ← ht, drop_getD]; rfl
      rw [hb0'] at c0
      rw [ht] at hv
      have hb8 : b0 < 256 := hb0 ▸ (t.getD 0 0).toNat_lt
      have HT := Lib.hid ht; have HTL := Lib.hid htl; have HB0 := Lib.hid hb0; have HV := Lib.hid hv; have HTD := Lib.hid ht
      clear ht htl hb0 hb0' hv
      by_cases k1 : b0 < 128
      · have k1z : (b0 : Int) < 128 := by omega
        have hv1 : Lib.validD (l.drop (i + 1)) = ANS := by
          rw [← List.drop_drop, HT.out, ← Lib.validD_ascii 1 t (fun b hb => ?_)]
          · exact HV.out
          · have hb0 := HB0.out
            cases t with
            | nil => exact absurd rfl htne
            | cons y s => simp at hb hb0; subst hb; omega
        have HV1 := Lib.hid hv1; clear hv1 htne
        go_wp2_with fail
        go_loopw [5, 7] (fun s5 s wr => s5 = .int .i64 (b0 : Int) ∧ s = .int .i64 1 ∧ wr = w) (fun _ _ _ => 0)
        case atStart => exact ⟨rfl, rfl, rfl⟩
        case round =>
          obtain ⟨rfl, rfl, hww⟩ := hrel
          obtain rfl := hww.symm
          go_wp2_with fail
          refine ⟨⟨i + 1, by omega, by go_num, by first | rfl | trivial, HV1.out⟩, by simp [intOf]; omega⟩
      · have k1z : ¬ (b0 : Int) < 128 := by omega
        by_cases k2 : 192 ≤ b0
        · have k2z : (192 : Int) ≤ (b0 : Int) := by omega
          by_cases k3 : b0 < 224
          · have k3z : (b0 : Int) < 224 := by omega
            have hval := valid2 t htne (by rw [HB0.out]; omega) (by rw [HB0.out]; omega)
            rw [HV.out, HTL.out, HB0.out] at hval
            have HVAL := Lib.hid hval; clear hval
            by_cases hlen : N - i < 2
            · have hlenz : (N : Int) < (i : Int) + 2 := by omega
              have HAN := Lib.hid (HVAL.out.1 (.inl hlen))
              clear HVAL
              go_wp2_with fail
              go_ret
              exact ⟨by rw [HAN.out]; rfl, rfl⟩
            · have hlenz : ¬ (N : Int) < (i : Int) + 2 := by omega
              go_wp2_with fail
              go_loopw [5, 7] (fun s5 s7 wr => ∃ j : Nat, j ≤ 1 ∧ s7 = .int .i64 ((j : Int) + 1) ∧ s5 = .int .i64 ((ac t (b0 - 192) j : Nat) : Int) ∧ (∀ q, 1 ≤ q → q ≤ j → cont t q) ∧ wr = w) (fun _ s7 _ => 10 - (intOf s7).toNat)
              case atStart => exact ⟨0, by omega, rfl, by simp only [ac]; congr 1; omega, fun q h1 h2 => absurd h1 (by omega), rfl⟩
              case round =>
                obtain ⟨j, hj, rfl, rfl, hcs, hww⟩ := hrel
                obtain rfl := hww.symm
                have hal := ac_lt t (b0 - 192) (by omega) j hcs
                have hal2 : ac t (b0 - 192) j < 16777216 := by
                  have h1 : (64 : Nat) ^ (j + 1) ≤ 64 ^ 4 := Nat.pow_le_pow_right (by decide) (by omega)
                  have e : (64 : Nat) ^ 4 = 16777216 := by decide
                  omega
                have HCS := Lib.hid hcs; clear hcs hal
                by_cases hjn : j = 1
                · subst hjn
                  have hval := HVAL.out
                  have hnc : ∀ q, 1 ≤ q → q ≤ 1 → ¬ ¬ cont t q := fun q h1 h2 h3 => h3 (HCS.out q h1 h2)
                  have hn1 := hnc 1 (by omega) (by omega)
                  have hal3 : ac t (b0 - 192) 1 < 4096 := ac_lt t (b0 - 192) (by omega) 1 HCS.out
                  obtain ⟨Z, hZ⟩ : ∃ Z, ac t (b0 - 192) 1 = Z := ⟨_, rfl⟩
                  rw [hZ] at hal2 hal3 hval ⊢
                  clear hZ hnc
                  have hbadT : (Z < 128) → ANS = false := fun h => hval.1 (.inr (.inr (h)))
                  have hbadF : ¬ (Z < 128) → ANS = Lib.validD (t.drop 2) := fun h => hval.2 (by
                    rintro (h1 | h1)
                    · exact hlen h1
                    rcases h1 with h1 | h1
                    · exact hn1 h1
                    exact h h1)
                  have HBT := Lib.hid hbadT; have HBF := Lib.hid hbadF
                  clear hval hbadT hbadF hn1
                  by_cases q1 : Z < 128
                  · have q1z : (Z : Int) < 128 := by omega
                    have HAN := Lib.hid (HBT.out (by omega))
                    clear HBT HBF
                    go_wp2_with fail
                    go_ret
                    exact ⟨by rw [HAN.out]; rfl, rfl⟩
                  · have q1z : ¬ (Z : Int) < 128 := by omega
                    by_cases q2 : 1114111 < Z
                    · have q2z : (1114111 : Int) < (Z : Int) := by omega
                      exfalso; omega
                    · have q2z : ¬ (1114111 : Int) < (Z : Int) := by omega
                      by_cases q3 : 55296 ≤ Z
                      · have q3z : (55296 : Int) ≤ (Z : Int) := by omega
                        by_cases q4 : Z ≤ 57343
                        · have q4z : (Z : Int) ≤ 57343 := by omega
                          exfalso; omega
                        · have q4z : ¬ (Z : Int) ≤ 57343 := by omega
                          have HAN := Lib.hid (HBF.out (by omega))
                          clear HBT HBF
                          go_wp2_with fail
                          refine ⟨⟨i + 2, by omega, by go_num, by first | rfl | trivial, ?_⟩, by simp [intOf]; omega⟩
                          rw [← List.drop_drop, HTD.out]; exact HAN.out.symm
                      · have q3z : ¬ (55296 : Int) ≤ (Z : Int) := by omega
                        have HAN := Lib.hid (HBF.out (by omega))
                        clear HBT HBF
                        go_wp2_with fail
                        refine ⟨⟨i + 2, by omega, by go_num, by first | rfl | trivial, ?_⟩, by simp [intOf]; omega⟩
                        rw [← List.drop_drop, HTD.out]; exact HAN.out.symm
                · have hbadc : ∀ q, 1 ≤ q → q ≤ 1 → ¬ cont t q → ANS = false := fun q h1 h2 h3 => by
                    have hval := HVAL.out
                    rcases (show q = 1 from by omega) with rfl
                    · exact hval.1 (.inr (.inl h3))
                  obtain ⟨ad2, e2, cj⟩ := cell_at HR.out (i + (j + 1)) (by omega)
                  cases e2
                  obtain ⟨b, hb⟩ : ∃ b, (t.getD (j + 1) 0).toNat = b := ⟨_, rfl⟩
                  have hb2 : (l.getD (i + (j + 1)) 0).toNat = b := by rw [← hb, ← HT.out, drop_getD]
                  rw [hb2] at cj
                  have hbl : b < 256 := hb ▸ (t.getD (j + 1) 0).toNat_lt
                  have HBC := Lib.hid hbadc; have HB := Lib.hid hb
                  have hjz : (j : Int) + 1 < 2 := by omega
                  have hix : (i : Int) + ((j : Int) + 1) < (N : Int) := by omega
                  clear hbadc hb hb2
                  by_cases q1 : b < 128
                  · have q1z : (b : Int) < 128 := by omega
                    have HAN := Lib.hid (HBC.out (j + 1) (by omega) (by omega) (fun h => by unfold cont at h; rw [HB.out] at h; omega))
                    clear HVAL HBC
                    go_wp2_with fail
                    go_ret
                    exact ⟨by rw [HAN.out]; rfl, rfl⟩
                  · have q1z : ¬ (b : Int) < 128 := by omega
                    by_cases q2 : 192 ≤ b
                    · have q2z : (192 : Int) ≤ (b : Int) := by omega
                      have HAN := Lib.hid (HBC.out (j + 1) (by omega) (by omega) (fun h => by unfold cont at h; rw [HB.out] at h; omega))
                      clear HVAL HBC
                      go_wp2_with fail
                      go_ret
                      exact ⟨by rw [HAN.out]; rfl, rfl⟩
                    · have q2z : ¬ (192 : Int) ≤ (b : Int) := by omega
                      have hac : ac t (b0 - 192) (j + 1) = ac t (b0 - 192) j * 64 + (b - 128) := by rw [ac, HB.out]
                      have hcs2 : ∀ q, 1 ≤ q → q ≤ j + 1 → cont t q := fun q h1 h2 => by
                        by_cases e : q = j + 1
                        · subst e; unfold cont; rw [HB.out]; omega
                        · exact HCS.out q h1 (by omega)
                      have HC2 := Lib.hid hcs2; have HAC := Lib.hid hac
                      clear hcs2 hac
                      go_wp2_with fail
                      refine ⟨⟨j + 1, by omega, by go_num, ?_, HC2.out, by first | rfl | trivial⟩, by simp [intOf]; omega⟩
                      rw [HAC.out]
                      congr 1
                      push_cast
                      omega
          · have k3z : ¬ (b0 : Int) < 224 := by omega
            have k3w : (224 : Int) ≤ (b0 : Int) := by omega
            by_cases k4 : b0 < 240
            · have k4z : (b0 : Int) < 240 := by omega
              have hval := valid3 t htne (by rw [HB0.out]; omega) (by rw [HB0.out]; omega)
              rw [HV.out, HTL.out, HB0.out] at hval
              have HVAL := Lib.hid hval; clear hval
              by_cases hlen : N - i < 3
              · have hlenz : (N : Int) < (i : Int) + 3 := by omega
                have HAN := Lib.hid (HVAL.out.1 (.inl hlen))
                clear HVAL
                go_wp2_with fail
                go_ret
                exact ⟨by rw [HAN.out]; rfl, rfl⟩
              · have hlenz : ¬ (N : Int) < (i : Int) + 3 := by omega
                go_wp2_with fail
                go_loopw [5, 7] (fun s5 s7 wr => ∃ j : Nat, j ≤ 2 ∧ s7 = .int .i64 ((j : Int) + 1) ∧ s5 = .int .i64 ((ac t (b0 - 224) j : Nat) : Int) ∧ (∀ q, 1 ≤ q → q ≤ j → cont t q) ∧ wr = w) (fun _ s7 _ => 10 - (intOf s7).toNat)
                case atStart => exact ⟨0, by omega, rfl, by simp only [ac]; congr 1; omega, fun q h1 h2 => absurd h1 (by omega), rfl⟩
                case round =>
                  obtain ⟨j, hj, rfl, rfl, hcs, hww⟩ := hrel
                  obtain rfl := hww.symm
                  have hal := ac_lt t (b0 - 224) (by omega) j hcs
                  have hal2 : ac t (b0 - 224) j < 16777216 := by
                    have h1 : (64 : Nat) ^ (j + 1) ≤ 64 ^ 4 := Nat.pow_le_pow_right (by decide) (by omega)
                    have e : (64 : Nat) ^ 4 = 16777216 := by decide
                    omega
                  have HCS := Lib.hid hcs; clear hcs hal
                  by_cases hjn : j = 2
                  · subst hjn
                    have hval := HVAL.out
                    have hnc : ∀ q, 1 ≤ q → q ≤ 2 → ¬ ¬ cont t q := fun q h1 h2 h3 => h3 (HCS.out q h1 h2)
                    have hn1 := hnc 1 (by omega) (by omega)
                    have hn2 := hnc 2 (by omega) (by omega)
                    have hal3 : ac t (b0 - 224) 2 < 262144 := ac_lt t (b0 - 224) (by omega) 2 HCS.out
                    obtain ⟨Z, hZ⟩ : ∃ Z, ac t (b0 - 224) 2 = Z := ⟨_, rfl⟩
                    rw [hZ] at hal2 hal3 hval ⊢
                    clear hZ hnc
                    have hbadT : (Z < 2048 ∨ (55296 ≤ Z ∧ Z ≤ 57343)) → ANS = false := fun h => hval.1 (.inr (.inr (.inr (h))))
                    have hbadF : ¬ (Z < 2048 ∨ (55296 ≤ Z ∧ Z ≤ 57343)) → ANS = Lib.validD (t.drop 3) := fun h => hval.2 (by
                      rintro (h1 | h1)
                      · exact hlen h1
                      rcases h1 with h1 | h1
                      · exact hn1 h1
                      rcases h1 with h1 | h1
                      · exact hn2 h1
                      exact h h1)
                    have HBT := Lib.hid hbadT; have HBF := Lib.hid hbadF
                    clear hval hbadT hbadF hn1 hn2
                    by_cases q1 : Z < 2048
                    · have q1z : (Z : Int) < 2048 := by omega
                      have HAN := Lib.hid (HBT.out (by omega))
                      clear HBT HBF
                      go_wp2_with fail
                      go_ret
                      exact ⟨by rw [HAN.out]; rfl, rfl⟩
                    · have q1z : ¬ (Z : Int) < 2048 := by omega
                      by_cases q2 : 1114111 < Z
                      · have q2z : (1114111 : Int) < (Z : Int) := by omega
                        exfalso; omega
                      · have q2z : ¬ (1114111 : Int) < (Z : Int) := by omega
                        by_cases q3 : 55296 ≤ Z
                        · have q3z : (55296 : Int) ≤ (Z : Int) := by omega
                          by_cases q4 : Z ≤ 57343
                          · have q4z : (Z : Int) ≤ 57343 := by omega
                            have HAN := Lib.hid (HBT.out (by omega))
                            clear HBT HBF
                            go_wp2_with fail
                            go_ret
                            exact ⟨by rw [HAN.out]; rfl, rfl⟩
                          · have q4z : ¬ (Z : Int) ≤ 57343 := by omega
                            have HAN := Lib.hid (HBF.out (by omega))
                            clear HBT HBF
                            go_wp2_with fail
                            refine ⟨⟨i + 3, by omega, by go_num, by first | rfl | trivial, ?_⟩, by simp [intOf]; omega⟩
                            rw [← List.drop_drop, HTD.out]; exact HAN.out.symm
                        · have q3z : ¬ (55296 : Int) ≤ (Z : Int) := by omega
                          have HAN := Lib.hid (HBF.out (by omega))
                          clear HBT HBF
                          go_wp2_with fail
                          refine ⟨⟨i + 3, by omega, by go_num, by first | rfl | trivial, ?_⟩, by simp [intOf]; omega⟩
                          rw [← List.drop_drop, HTD.out]; exact HAN.out.symm
                  · have hbadc : ∀ q, 1 ≤ q → q ≤ 2 → ¬ cont t q → ANS = false := fun q h1 h2 h3 => by
                      have hval := HVAL.out
                      rcases (show q = 1 ∨ q = 2 from by omega) with rfl | rfl
                      · exact hval.1 (.inr (.inl h3))
                      · exact hval.1 (.inr (.inr (.inl h3)))
                    obtain ⟨ad2, e2, cj⟩ := cell_at HR.out (i + (j + 1)) (by omega)
                    cases e2
                    obtain ⟨b, hb⟩ : ∃ b, (t.getD (j + 1) 0).toNat = b := ⟨_, rfl⟩
                    have hb2 : (l.getD (i + (j + 1)) 0).toNat = b := by rw [← hb, ← HT.out, drop_getD]
                    rw [hb2] at cj
                    have hbl : b < 256 := hb ▸ (t.getD (j + 1) 0).toNat_lt
                    have HBC := Lib.hid hbadc; have HB := Lib.hid hb
                    have hjz : (j : Int) + 1 < 3 := by omega
                    have hix : (i : Int) + ((j : Int) + 1) < (N : Int) := by omega
                    clear hbadc hb hb2
                    by_cases q1 : b < 128
                    · have q1z : (b : Int) < 128 := by omega
                      have HAN := Lib.hid (HBC.out (j + 1) (by omega) (by omega) (fun h => by unfold cont at h; rw [HB.out] at h; omega))
                      clear HVAL HBC
                      go_wp2_with fail
                      go_ret
                      exact ⟨by rw [HAN.out]; rfl, rfl⟩
                    · have q1z : ¬ (b : Int) < 128 := by omega
                      by_cases q2 : 192 ≤ b
                      · have q2z : (192 : Int) ≤ (b : Int) := by omega
                        have HAN := Lib.hid (HBC.out (j + 1) (by omega) (by omega) (fun h => by unfold cont at h; rw [HB.out] at h; omega))
                        clear HVAL HBC
                        go_wp2_with fail
                        go_ret
                        exact ⟨by rw [HAN.out]; rfl, rfl⟩
                      · have q2z : ¬ (192 : Int) ≤ (b : Int) := by omega
                        have hac : ac t (b0 - 224) (j + 1) = ac t (b0 - 224) j * 64 + (b - 128) := by rw [ac, HB.out]
                        have hcs2 : ∀ q, 1 ≤ q → q ≤ j + 1 → cont t q := fun q h1 h2 => by
                          by_cases e : q = j + 1
                          · subst e; unfold cont; rw [HB.out]; omega
                          · exact HCS.out q h1 (by omega)
                        have HC2 := Lib.hid hcs2; have HAC := Lib.hid hac
                        clear hcs2 hac
                        go_wp2_with fail
                        refine ⟨⟨j + 1, by omega, by go_num, ?_, HC2.out, by first | rfl | trivial⟩, by simp [intOf]; omega⟩
                        rw [HAC.out]
                        congr 1
                        push_cast
                        omega
            · have k4z : ¬ (b0 : Int) < 240 := by omega
              have k4w : (240 : Int) ≤ (b0 : Int) := by omega
              by_cases k5 : b0 < 248
              · have k5z : (b0 : Int) < 248 := by omega
                have hval := valid4 t htne (by rw [HB0.out]; omega) (by rw [HB0.out]; omega)
                rw [HV.out, HTL.out, HB0.out] at hval
                have HVAL := Lib.hid hval; clear hval
                by_cases hlen : N - i < 4
                · have hlenz : (N : Int) < (i : Int) + 4 := by omega
                  have HAN := Lib.hid (HVAL.out.1 (.inl hlen))
                  clear HVAL
                  go_wp2_with fail
                  go_ret
                  exact ⟨by rw [HAN.out]; rfl, rfl⟩
                · have hlenz : ¬ (N : Int) < (i : Int) + 4 := by omega
                  go_wp2_with fail
                  go_loopw [5, 7] (fun s5 s7 wr => ∃ j : Nat, j ≤ 3 ∧ s7 = .int .i64 ((j : Int) + 1) ∧ s5 = .int .i64 ((ac t (b0 - 240) j : Nat) : Int) ∧ (∀ q, 1 ≤ q → q ≤ j → cont t q) ∧ wr = w) (fun _ s7 _ => 10 - (intOf s7).toNat)
                  case atStart => exact ⟨0, by omega, rfl, by simp only [ac]; congr 1; omega, fun q h1 h2 => absurd h1 (by omega), rfl⟩
                  case round =>
                    obtain ⟨j, hj, rfl, rfl, hcs, hww⟩ := hrel
                    obtain rfl := hww.symm
                    have hal := ac_lt t (b0 - 240) (by omega) j hcs
                    have hal2 : ac t (b0 - 240) j < 16777216 := by
                      have h1 : (64 : Nat) ^ (j + 1) ≤ 64 ^ 4 := Nat.pow_le_pow_right (by decide) (by omega)
                      have e : (64 : Nat) ^ 4 = 16777216 := by decide
                      omega
                    have HCS := Lib.hid hcs; clear hcs hal
                    by_cases hjn : j = 3
                    · subst hjn
                      have hval := HVAL.out
                      have hnc : ∀ q, 1 ≤ q → q ≤ 3 → ¬ ¬ cont t q := fun q h1 h2 h3 => h3 (HCS.out q h1 h2)
                      have hn1 := hnc 1 (by omega) (by omega)
                      have hn2 := hnc 2 (by omega) (by omega)
                      have hn3 := hnc 3 (by omega) (by omega)
                      have hal3 : ac t (b0 - 240) 3 < 16777216 := ac_lt t (b0 - 240) (by omega) 3 HCS.out
                      obtain ⟨Z, hZ⟩ : ∃ Z, ac t (b0 - 240) 3 = Z := ⟨_, rfl⟩
                      rw [hZ] at hal2 hal3 hval ⊢
                      clear hZ hnc
                      have hbadT : (Z < 65536 ∨ 1114111 < Z) → ANS = false := fun h => hval.1 (.inr (.inr (.inr (.inr (h)))))
                      have hbadF : ¬ (Z < 65536 ∨ 1114111 < Z) → ANS = Lib.validD (t.drop 4) := fun h => hval.2 (by
                        rintro (h1 | h1)
                        · exact hlen h1
                        rcases h1 with h1 | h1
                        · exact hn1 h1
                        rcases h1 with h1 | h1
                        · exact hn2 h1
                        rcases h1 with h1 | h1
                        · exact hn3 h1
                        exact h h1)
                      have HBT := Lib.hid hbadT; have HBF := Lib.hid hbadF
                      clear hval hbadT hbadF hn1 hn2 hn3
                      by_cases q1 : Z < 65536
                      · have q1z : (Z : Int) < 65536 := by omega
                        have HAN := Lib.hid (HBT.out (by omega))
                        clear HBT HBF
                        go_wp2_with fail
                        go_ret
                        exact ⟨by rw [HAN.out]; rfl, rfl⟩
                      · have q1z : ¬ (Z : Int) < 65536 := by omega
                        by_cases q2 : 1114111 < Z
                        · have q2z : (1114111 : Int) < (Z : Int) := by omega
                          have HAN := Lib.hid (HBT.out (by omega))
                          clear HBT HBF
                          go_wp2_with fail
                          go_ret
                          exact ⟨by rw [HAN.out]; rfl, rfl⟩
                        · have q2z : ¬ (1114111 : Int) < (Z : Int) := by omega
                          by_cases q3 : 55296 ≤ Z
                          · have q3z : (55296 : Int) ≤ (Z : Int) := by omega
                            by_cases q4 : Z ≤ 57343
                            · have q4z : (Z : Int) ≤ 57343 := by omega
                              exfalso; omega
                            · have q4z : ¬ (Z : Int) ≤ 57343 := by omega
                              have HAN := Lib.hid (HBF.out (by omega))
                              clear HBT HBF
                              go_wp2_with fail
                              refine ⟨⟨i + 4, by omega, by go_num, by first | rfl | trivial, ?_⟩, by simp [intOf]; omega⟩
                              rw [← List.drop_drop, HTD.out]; exact HAN.out.symm
                          · have q3z : ¬ (55296 : Int) ≤ (Z : Int) := by omega
                            have HAN := Lib.hid (HBF.out (by omega))
                            clear HBT HBF
                            go_wp2_with fail
                            refine ⟨⟨i + 4, by omega, by go_num, by first | rfl | trivial, ?_⟩, by simp [intOf]; omega⟩
                            rw [← List.drop_drop, HTD.out]; exact HAN.out.symm
                    · have hbadc : ∀ q, 1 ≤ q → q ≤ 3 → ¬ cont t q → ANS = false := fun q h1 h2 h3 => by
                        have hval := HVAL.out
                        rcases (show q = 1 ∨ q = 2 ∨ q = 3 from by omega) with rfl | rfl | rfl
                        · exact hval.1 (.inr (.inl h3))
                        · exact hval.1 (.inr (.inr (.inl h3)))
                        · exact hval.1 (.inr (.inr (.inr (.inl h3))))
                      obtain ⟨ad2, e2, cj⟩ := cell_at HR.out (i + (j + 1)) (by omega)
                      cases e2
                      obtain ⟨b, hb⟩ : ∃ b, (t.getD (j + 1) 0).toNat = b := ⟨_, rfl⟩
                      have hb2 : (l.getD (i + (j + 1)) 0).toNat = b := by rw [← hb, ← HT.out, drop_getD]
                      rw [hb2] at cj
                      have hbl : b < 256 := hb ▸ (t.getD (j + 1) 0).toNat_lt
                      have HBC := Lib.hid hbadc; have HB := Lib.hid hb
                      have hjz : (j : Int) + 1 < 4 := by omega
                      have hix : (i : Int) + ((j : Int) + 1) < (N : Int) := by omega
                      clear hbadc hb hb2
                      by_cases q1 : b < 128
                      · have q1z : (b : Int) < 128 := by omega
                        have HAN := Lib.hid (HBC.out (j + 1) (by omega) (by omega) (fun h => by unfold cont at h; rw [HB.out] at h; omega))
                        clear HVAL HBC
                        go_wp2_with fail
                        go_ret
                        exact ⟨by rw [HAN.out]; rfl, rfl⟩
                      · have q1z : ¬ (b : Int) < 128 := by omega
                        by_cases q2 : 192 ≤ b
                        · have q2z : (192 : Int) ≤ (b : Int) := by omega
                          have HAN := Lib.hid (HBC.out (j + 1) (by omega) (by omega) (fun h => by unfold cont at h; rw [HB.out] at h; omega))
                          clear HVAL HBC
                          go_wp2_with fail
                          go_ret
                          exact ⟨by rw [HAN.out]; rfl, rfl⟩
                        · have q2z : ¬ (192 : Int) ≤ (b : Int) := by omega
                          have hac : ac t (b0 - 240) (j + 1) = ac t (b0 - 240) j * 64 + (b - 128) := by rw [ac, HB.out]
                          have hcs2 : ∀ q, 1 ≤ q → q ≤ j + 1 → cont t q := fun q h1 h2 => by
                            by_cases e : q = j + 1
                            · subst e; unfold cont; rw [HB.out]; omega
                            · exact HCS.out q h1 (by omega)
                          have HC2 := Lib.hid hcs2; have HAC := Lib.hid hac
                          clear hcs2 hac
                          go_wp2_with fail
                          refine ⟨⟨j + 1, by omega, by go_num, ?_, HC2.out, by first | rfl | trivial⟩, by simp [intOf]; omega⟩
                          rw [HAC.out]
                          congr 1
                          push_cast
                          omega
              · have k5z : ¬ (b0 : Int) < 248 := by omega
                have hval := valid0 t htne (.inr (by rw [HB0.out]; omega))
                rw [HV.out] at hval
                have HAN := Lib.hid hval; clear hval htne
                go_wp2_with fail
                go_ret
                exact ⟨by rw [HAN.out]; rfl, rfl⟩
        · have k2z : ¬ (192 : Int) ≤ (b0 : Int) := by omega
          have k3z : ¬ (224 : Int) ≤ (b0 : Int) := by omega
          have k4z : ¬ (240 : Int) ≤ (b0 : Int) := by omega
          have hval := valid0 t htne (.inl (by rw [HB0.out]; omega))
          rw [HV.out] at hval
          have HAN := Lib.hid hval; clear hval htne
          go_wp2_with fail
          go_ret
          exact ⟨by rw [HAN.out]; rfl, rfl⟩
    · obtain rfl : i = N := by omega
      have hnil : l.drop i = [] := List.drop_eq_nil_of_le (by rw [HN.out]; exact Nat.le_refl _)
      rw [hnil, Lib.validD_nil] at hv
      subst hv
      clear HR HA
      go_wp2_with fail
      go_ret
      exact ⟨rfl, rfl⟩
-- @END
end Go.Proofs.YtinngljphjdpoaaGreatDoor.Tx
