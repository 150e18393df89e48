/- utf8.Valid. -/
import Derived.Test.YtinngljphjdpoaaGreatDoorJUw
import Derived.Lib.ValidLaws
import Derived.Deep.LoopGhost
import Derived.Deep.DeepMust
import Derived.Deep.DeepBigQuietO
import Derived.Deep.CutBlock
import Derived.Deep.DeepCutAuto
namespace Go.Proofs.YtinngljphjdpoaaGreatDoor.Uv
open Go Go.RowKit Go.Proofs.YtinngljphjdpoaaGreatDoor.Pa Go.Proofs.YtinngljphjdpoaaGreatDoor.Pb Go.Proofs.YtinngljphjdpoaaGreatDoor.Pf Go.Proofs.YtinngljphjdpoaaGreatDoor.Pq Go.Proofs.YtinngljphjdpoaaGreatDoor.Vh Go.Proofs.YtinngljphjdpoaaGreatDoor.Uw
set_option linter.unusedVariables false
set_option linter.unusedSimpArgs false
/-- Bytes from a place on. -/
theorem rd_from {w : World} {ad : Addr} {n c k : Nat} {l : List UInt8} (h : Rd w (.slice (some ad) (n + k) (c + k)) l) : Rd w (.slice (some (ad.add k)) n c) (l.drop k) := by
  obtain ⟨h3, h4, h5⟩ := h.len
  refine ⟨_, _, by rw [List.length_drop, ← h3, Nat.add_sub_cancel], by rw [List.length_drop]; omega, by omega, fun _ => ⟨_, rfl, fun j u hu => ?_⟩⟩
  have hj := (List.getElem?_eq_some_iff.1 hu).1
  simp [cb] at hj
  obtain ⟨ad', e, hc⟩ := h.at_ (k + j) (by omega)
  cases e
  have hadd : (ad.add k).add j = ad.add (k + j) := by
    unfold Addr.add
    split <;> split <;> simp_all <;> omega
  rw [hadd, hc, ← hu]
  simp [cb, hj]
theorem byteD {w : World} {ad : Addr} {n c : Nat} {l : List UInt8} (h : Rd w (.slice (some ad) n c) l) (j : Nat) (hj : j < n) (h0 : 0 < j) (x : Nat) (hx : (l.getD j 0).toNat = x) : w.cell? ⟨ad.block, ad.off + j, none⟩ = some (.int .u8 (x : Int)) :=
  rd_byte h j (by have := h.len.1; omega) h0 x (by rw [← hx]; congr 1; have hl : j < l.length := (by have := h.len.1; omega); simp [hl])
theorem byteD0 {w : World} {ad : Addr} {n c : Nat} {l : List UInt8} (h : Rd w (.slice (some ad) n c) l) (hj : 0 < n) (x : Nat) (hx : (l.getD 0 0).toNat = x) : w.cell? ad = some (.int .u8 (x : Int)) :=
  rd_byte0 h (by have := h.len.1; omega) x (by rw [← hx]; congr 1; have hl : 0 < l.length := (by have := h.len.1; omega); simp [hl])
theorem rd_none (w : World) (A : Option Addr) : Rd w (.slice A 0 0) [] := ⟨A, 0, rfl, by simp, by simp [maxLen], fun h => absurd h (by simp)⟩
theorem add_some (ad : Addr) (k : Nat) (h : 0 < k) : ad.add k = ⟨ad.block, ad.off + k, none⟩ := by unfold Addr.add; rw [if_neg (by omega)]
theorem below_q {w wr : World} (h : Below w.heap.size w wr) (n : Nat) : Below w.heap.size w (wr.drewN n) := h.trans ((Uw.below_drewN wr n).mono h.size)
set_option maxRecDepth 100000 in
theorem and7 : ∀ X : Fin 256, bits .and .u8 ((X.val : Nat) : Int) 7 = ((X.val % 8 : Nat) : Int) := by decide
/-- The first eight bytes as a number, and what its mask tells. -/
theorem w8_mask (t : List UInt8) (h : 8 ≤ t.length) : (Lib.leNat (t.take 8) &&& 9259542123273814144 = 0) ↔ ∀ b ∈ t.take 8, b.toNat < 128 := by
  have h8 : (t.take 8).length = 8 := by rw [List.length_take]; omega
  have := Lib.leNat_mask (t.take 8)
  rw [h8, Lib.maskN8] at this
  exact this
theorem w8_lt (t : List UInt8) : Lib.leNat (t.take 8) < 18446744073709551616 := by
  have h := Lib.leNat_lt (t.take 8)
  have h2 : (t.take 8).length ≤ 8 := by rw [List.length_take]; omega
  have h3 : (256 : Nat) ^ (t.take 8).length ≤ 256 ^ 8 := Nat.pow_le_pow_right (by decide) h2
  have h4 : (256 : Nat) ^ 8 = 18446744073709551616 := by decide
  omega
theorem asc_more (t : List UInt8) (a b : Nat) (ha : ∀ x ∈ t.take a, x.toNat < 128) (hb : ∀ x ∈ (t.drop a).take b, x.toNat < 128) : ∀ x ∈ t.take (a + b), x.toNat < 128 := by
  rw [List.take_add]
  intro x hx
  rcases List.mem_append.1 hx with h | h
  · exact ha x h
  · exact hb x h
/-- The word's contract, wherever one stands in the walk. -/
theorem hw8 {w wr : World} (hb : Below w.heap.size w wr) {B : Option Addr} {n c : Nat} {t : List UInt8} (h : Rd w (.slice B n c) t) (h8 : 8 ≤ n) (A : Nat) (hA : Lib.leNat (t.take 8) = A) (q : Nat) :
    Calls Tryz.prog 154 #[.slice B n c] (wr.drewN q) fun e w' => e = .returned (.int .u64 (A : Int)) ∧ ∃ m, w' = (wr.drewN q).drewN m := by
  rw [← hA]
  exact word8 _ t _ (h.below (below_q hb q)) (by rw [← h.len.1]; exact h8)
set_option maxHeartbeats 16000000 in
set_option maxRecDepth 1000000 in
theorem valid (v : Value) (l : List UInt8) (w : World) (h : Rd w v l) (hT : TabU w) :
    Calls Tryz.prog 147 #[v] w fun e w' => e = .returned (.bool (Lib.validD l)) ∧ Below w.heap.size w w' := by
  obtain ⟨A, c, rfl, hlc, hcm, -⟩ := id h
  obtain ⟨ANS, hANS⟩ : ∃ ANS, Lib.validD l = ANS := ⟨_, rfl⟩
  rw [hANS]
  have hp : Rd w (.slice A l.length l.length) l := by
    obtain ⟨A', c', e, k1, k2, k3⟩ := h
    simp only [Value.slice.injEq] at e
    obtain ⟨rfl, -, rfl⟩ := e
    exact ⟨A, l.length, rfl, Nat.le_refl _, by omega, k3⟩
  have HP := Lib.hid hp; have HT := Lib.hid hT; have HA := Lib.hid hANS
  have hlm : l.length ≤ 9223372036854775807 := by unfold maxLen at hcm; omega
  obtain ⟨N, hN⟩ : ∃ N, l.length = N := ⟨_, rfl⟩
  rw [hN] at HP hlc hlm ⊢
  clear h hp hT hANS hcm
  have HN := Lib.hid hN; clear hN
  go_enter Tryz.func147, Tryz.ntmps147
  go_wp2
  go_loopg [0] (N + 1) (fun gk s0 wx => Below w.heap.size w wx ∧ ∃ (n : Nat) (B : Option Addr) (t : List UInt8), s0 = .slice B n n ∧ Rd w (.slice B n n) t ∧ Lib.validD t = ANS ∧ n < gk ∧ n ≤ 9223372036854775807)
  case atStart => exact ⟨Below.refl _ _, N, A, l, rfl, HP.out, HA.out, by omega, by omega⟩
  case round =>
    obtain ⟨hbw, n, B, t, rfl, hr, hv, hg, hnm⟩ := hrel
    have hln := hr.len.1
    by_cases h0 : 0 < n
    · obtain ⟨g', rfl⟩ : ∃ g', gk = g' + 1 := ⟨gk - 1, by omega⟩
      have h0z : (0 : Int) < (n : Int) := by omega
      obtain ⟨ad, rfl, -⟩ := hr.at_ 0 (by omega)
      have HR := Lib.hid hr; have HBW := Lib.hid hbw; have HV := Lib.hid hv; have HLN := Lib.hid hln
      have hrw := hr.below hbw
      obtain ⟨x0, hx0⟩ : ∃ x, (t.getD 0 0).toNat = x := ⟨_, rfl⟩
      have r0 := byteD0 hrw h0 x0 hx0
      have hx0lt : x0 < 256 := hx0 ▸ (t.getD 0 0).toNat_lt
      have HX0 := Lib.hid hx0
      clear hr hbw hv hln hx0
      by_cases hasc : x0 < 128
      · as_aux_lemma =>
          have hascz : (x0 : Int) < 128 := by omega
          have v1 : Lib.validD (t.drop 1) = ANS := by
            rw [← Lib.validD_ascii 1 t (fun b hb => ?_)]; exact HV.out
            have hx0 := HX0.out
            have hln := HLN.out
            obtain ⟨y, s, rfl⟩ : ∃ y s, t = y :: s := by
              cases t with
              | nil => simp at hln; omega
              | cons y s => exact ⟨y, s, rfl⟩
            simp at hb hx0; subst hb; omega
          have V1 := Lib.hid v1; clear v1
          by_cases c1 : n = 1
          · subst c1
            have ht1 : t.drop 1 = [] := List.drop_eq_nil_of_le (by have := HLN.out; omega)
            have HT1 := Lib.hid ht1; clear ht1 hrw
            go_wp2
            go_roundg g'
            case measure => omega
            case rel => exact ⟨HBW.out, 0, some ad, [], rfl, rd_none _ _, by rw [← HT1.out]; exact V1.out, by omega, by omega⟩
          · obtain ⟨m, rfl⟩ : ∃ m, n = m + 1 := ⟨n - 1, by omega⟩
            have hm0 : ¬ m = 0 := by omega
            have hr1 : Rd w (.slice (some ⟨ad.block, ad.off + 1, none⟩) m m) (t.drop 1) := by have := rd_from (k := 1) (n := m) (c := m) HR.out; rwa [add_some ad 1 (by omega)] at this
            have HR1 := Lib.hid hr1; clear hr1 hrw
            by_cases c8 : 8 < m
            · have c8z : (8 : Int) < (m : Int) := by omega
              obtain ⟨m8, rfl⟩ : ∃ k, m = k + 8 := ⟨m - 8, by omega⟩
              obtain ⟨A1, hA1⟩ : ∃ A1, Lib.leNat ((t.drop 1).take 8) = A1 := ⟨_, rfl⟩
              have lA1 : A1 < 18446744073709551616 := hA1 ▸ w8_lt _
              have kA1 := w8_mask (t.drop 1) (by rw [← HR1.out.len.1]; omega)
              rw [hA1] at kA1
              have hand1 : bits .and .u64 (A1 : Int) 9259542123273814144 = ((A1 &&& 9259542123273814144 : Nat) : Int) := u64_and_nat A1 9259542123273814144 lA1 (by omega)
              have CW1 := Lib.hid (hw8 HBW.out HR1.out (by omega) A1 hA1 0)
              obtain ⟨Z1, hZ1⟩ : ∃ Z1, A1 &&& 9259542123273814144 = Z1 := ⟨_, rfl⟩
              rw [hZ1] at hand1 kA1
              have KA1 := Lib.hid kA1
              clear kA1 hA1 hZ1
              by_cases hz1 : Z1 = 0
              · have hz1b : ((Z1 : Int) == 0) = true := by simp [hz1]
                have v2 : Lib.validD ((t.drop 1).drop 8) = ANS := by rw [← Lib.validD_ascii 8 _ (KA1.out.1 hz1)]; exact V1.out
                have V2 := Lib.hid v2; clear v2
                have hr2 : Rd w (.slice (some ⟨ad.block, ad.off + 1 + 8, none⟩) m8 m8) ((t.drop 1).drop 8) := by have := rd_from (k := 8) (n := m8) (c := m8) HR1.out; rwa [add_some _ 8 (by omega)] at this
                have HR2 := Lib.hid hr2; clear hr2
                have hm8 : ¬ m8 = 0 := by omega
                generalize had2 : (⟨ad.block, ad.off + 1 + 8, none⟩ : Addr) = ad2 at HR2
                have HAD2 := Lib.hid had2; clear had2
                generalize hT2 : (t.drop 1).drop 8 = t2 at HR2 V2
                have HT2 := Lib.hid hT2; clear hT2
                go_wp2_with (go_at_call 154; refine CW1.out.mono ?_; rintro _ W1 ⟨rfl, q1, rfl⟩)
                rw [HAD2.out]
                have hb1 : Below w.heap.size w (wr.drewN q1) := below_q HBW.out q1
                generalize wr.drewN q1 = wq at hb1 ⊢
                have HB1 := Lib.hid hb1
                clear hb1 CW1 hand1 r0
                by_cases c16 : 16 < m8
                · have c16z : (16 : Int) < (m8 : Int) := by omega
                  have s8z : (8 : Int) ≤ (m8 : Int) := by omega
                  obtain ⟨m16, rfl⟩ : ∃ k, m8 = k + 16 := ⟨m8 - 16, by omega⟩
                  have hr2b : Rd w (.slice (some ⟨ad2.block, ad2.off + 8, none⟩) (m16 + 8) (m16 + 8)) (t2.drop 8) := by have := rd_from (k := 8) (n := m16 + 8) (c := m16 + 8) HR2.out; rwa [add_some _ 8 (by omega)] at this
                  have hr3 : Rd w (.slice (some ⟨ad2.block, ad2.off + 16, none⟩) m16 m16) (t2.drop 16) := by have := rd_from (k := 16) (n := m16) (c := m16) HR2.out; rwa [add_some _ 16 (by omega)] at this
                  obtain ⟨A2, hA2⟩ : ∃ A, Lib.leNat (t2.take 8) = A := ⟨_, rfl⟩
                  obtain ⟨A3, hA3⟩ : ∃ A, Lib.leNat ((t2.drop 8).take 8) = A := ⟨_, rfl⟩
                  have l2 := HR2.out.len.1
                  have hm16 : ¬ m16 = 0 := by omega
                  have c16b : decide ((16 : Int) < (m16 : Int) + 16) = true := decide_eq_true (by omega)
                  have c16d : (16 : Int) < (m16 : Int) + 16 := by omega
                  have s8d : (8 : Int) ≤ (m16 : Int) + 16 := by omega
                  have lA2 : A2 < 18446744073709551616 := hA2 ▸ w8_lt _
                  have lA3 : A3 < 18446744073709551616 := hA3 ▸ w8_lt _
                  have kA2 := w8_mask t2 (by omega)
                  have kA3 := w8_mask (t2.drop 8) (by rw [List.length_drop]; omega)
                  rw [hA2] at kA2
                  rw [hA3] at kA3
                  have CW2 := Lib.hid (fun q => hw8 HB1.out HR2.out (by omega) A2 hA2 q)
                  have CW3 := Lib.hid (fun q => hw8 HB1.out hr2b (by omega) A3 hA3 q)
                  have hor2 : bits .or .u64 (A2 : Int) (A3 : Int) = ((A2 ||| A3 : Nat) : Int) := u64_or_nat A2 A3 lA2 lA3
                  have lor2 : A2 ||| A3 < 18446744073709551616 := Nat.or_lt_two_pow (n := 64) lA2 lA3
                  have hand2 : bits .and .u64 ((A2 ||| A3 : Nat) : Int) 9259542123273814144 = (((A2 ||| A3) &&& 9259542123273814144 : Nat) : Int) := u64_and_nat _ 9259542123273814144 lor2 (by omega)
                  have k2 : (A2 ||| A3) &&& 9259542123273814144 = 0 → Lib.validD (t2.drop 16) = ANS := fun h0' => by
                    obtain ⟨e1, e2⟩ := (Lib.or_mask A2 A3 _).1 h0'
                    rw [← Lib.validD_ascii 16 t2 (asc_more t2 8 8 (kA2.1 e1) (kA3.1 e2))]; exact V2.out
                  obtain ⟨O2, hO2⟩ : ∃ O2, A2 ||| A3 = O2 := ⟨_, rfl⟩
                  rw [hO2] at hor2 hand2 k2
                  obtain ⟨Z2, hZ2⟩ : ∃ Z2, O2 &&& 9259542123273814144 = Z2 := ⟨_, rfl⟩
                  rw [hZ2] at hand2 k2
                  have HR3 := Lib.hid hr3; have K2 := Lib.hid k2
                  clear kA2 kA3 lor2 hO2 hZ2 hA2 hA3 hr2b hr3 k2 l2
                  by_cases hz2 : Z2 = 0
                  · have hz2b : ((Z2 : Int) == 0) = true := by simp [hz2]
                    have V3 := Lib.hid (K2.out hz2)
                    go_big_quiet (first | (go_at_call 154; with_reducible refine Calls.quiet_of (CW2.out _)) | (go_at_call 154; with_reducible refine Calls.quiet_of (CW3.out _)))
                    have hb2 : Below w.heap.size w (wq.drewN nq) := below_q HB1.out nq
                    generalize wq.drewN nq = wq2 at hb2 ⊢
                    have HB2 := Lib.hid hb2
                    clear CW2 CW3 hb2
                    go_wp2
                    go_loopg [0] (m16 + 1) (fun gk s0 wx => Below w.heap.size w wx ∧ ∃ (n : Nat) (B : Option Addr) (t : List UInt8), s0 = .slice B n n ∧ Rd w (.slice B n n) t ∧ Lib.validD t = ANS ∧ n < gk ∧ n ≤ m16)
                    case atStart => exact ⟨HB2.out, m16, _, _, rfl, HR3.out, V3.out, by omega, by omega⟩
                    case round =>
                      obtain ⟨hbu, n, B, u, rfl, ru, vu, hgu, hum⟩ := hrel
                      have HBU := Lib.hid hbu; have RU := Lib.hid ru; have VU := Lib.hid vu
                      clear hbu ru vu
                      by_cases c32 : 32 < n
                      · obtain ⟨g3, rfl⟩ : ∃ g3, gk = g3 + 1 := ⟨gk - 1, by omega⟩
                        obtain ⟨k, rfl⟩ : ∃ k, n = k + 32 := ⟨n - 32, by omega⟩
                        obtain ⟨au, rfl, -⟩ := RU.out.at_ 0 (by have := RU.out.len.1; omega)
                        have hk0 : ¬ k = 0 := by omega
                        have c32b : decide ((32 : Int) < (k : Int) + 32) = true := decide_eq_true (by omega)
                        have c32d : (32 : Int) < (k : Int) + 32 := by omega
                        have s8u : (8 : Int) ≤ (k : Int) + 32 := by omega
                        have s16u : (16 : Int) ≤ (k : Int) + 32 := by omega
                        have s24u : (24 : Int) ≤ (k : Int) + 32 := by omega
                        have rb : Rd w (.slice (some ⟨au.block, au.off + 8, none⟩) (k + 24) (k + 24)) (u.drop 8) := by have := rd_from (k := 8) (n := k + 24) (c := k + 24) RU.out; rwa [add_some _ 8 (by omega)] at this
                        have rc : Rd w (.slice (some ⟨au.block, au.off + 16, none⟩) (k + 16) (k + 16)) (u.drop 16) := by have := rd_from (k := 16) (n := k + 16) (c := k + 16) RU.out; rwa [add_some _ 16 (by omega)] at this
                        have rd : Rd w (.slice (some ⟨au.block, au.off + 24, none⟩) (k + 8) (k + 8)) (u.drop 24) := by have := rd_from (k := 24) (n := k + 8) (c := k + 8) RU.out; rwa [add_some _ 24 (by omega)] at this
                        have re : Rd w (.slice (some ⟨au.block, au.off + 32, none⟩) k k) (u.drop 32) := by have := rd_from (k := 32) (n := k) (c := k) RU.out; rwa [add_some _ 32 (by omega)] at this
                        have lu := RU.out.len.1
                        obtain ⟨B0, hB0⟩ : ∃ A, Lib.leNat (u.take 8) = A := ⟨_, rfl⟩
                        obtain ⟨B1, hB1⟩ : ∃ A, Lib.leNat ((u.drop 8).take 8) = A := ⟨_, rfl⟩
                        obtain ⟨B2, hB2⟩ : ∃ A, Lib.leNat ((u.drop 16).take 8) = A := ⟨_, rfl⟩
                        obtain ⟨B3, hB3⟩ : ∃ A, Lib.leNat ((u.drop 24).take 8) = A := ⟨_, rfl⟩
                        have lB0 : B0 < 18446744073709551616 := hB0 ▸ w8_lt _
                        have lB1 : B1 < 18446744073709551616 := hB1 ▸ w8_lt _
                        have lB2 : B2 < 18446744073709551616 := hB2 ▸ w8_lt _
                        have lB3 : B3 < 18446744073709551616 := hB3 ▸ w8_lt _
                        have kB0 := w8_mask u (by omega)
                        have kB1 := w8_mask (u.drop 8) (by rw [List.length_drop]; omega)
                        have kB2 := w8_mask (u.drop 16) (by rw [List.length_drop]; omega)
                        have kB3 := w8_mask (u.drop 24) (by rw [List.length_drop]; omega)
                        rw [hB0] at kB0
                        rw [hB1] at kB1
                        rw [hB2] at kB2
                        rw [hB3] at kB3
                        have C0 := Lib.hid (fun q => hw8 HBU.out RU.out (by omega) B0 hB0 q)
                        have C1 := Lib.hid (fun q => hw8 HBU.out rb (by omega) B1 hB1 q)
                        have C2 := Lib.hid (fun q => hw8 HBU.out rc (by omega) B2 hB2 q)
                        have C3 := Lib.hid (fun q => hw8 HBU.out rd (by omega) B3 hB3 q)
                        have ho1 : bits .or .u64 (B0 : Int) (B1 : Int) = ((B0 ||| B1 : Nat) : Int) := u64_or_nat B0 B1 lB0 lB1
                        have ho2 : bits .or .u64 (B2 : Int) (B3 : Int) = ((B2 ||| B3 : Nat) : Int) := u64_or_nat B2 B3 lB2 lB3
                        have lo1 : B0 ||| B1 < 18446744073709551616 := Nat.or_lt_two_pow (n := 64) lB0 lB1
                        have lo2 : B2 ||| B3 < 18446744073709551616 := Nat.or_lt_two_pow (n := 64) lB2 lB3
                        have ho3 : bits .or .u64 ((B0 ||| B1 : Nat) : Int) ((B2 ||| B3 : Nat) : Int) = (((B0 ||| B1) ||| (B2 ||| B3) : Nat) : Int) := u64_or_nat _ _ lo1 lo2
                        have lo3 : (B0 ||| B1) ||| (B2 ||| B3) < 18446744073709551616 := Nat.or_lt_two_pow (n := 64) lo1 lo2
                        have hand3 : bits .and .u64 (((B0 ||| B1) ||| (B2 ||| B3) : Nat) : Int) 9259542123273814144 = ((((B0 ||| B1) ||| (B2 ||| B3)) &&& 9259542123273814144 : Nat) : Int) := u64_and_nat _ 9259542123273814144 lo3 (by omega)
                        have k3 : ((B0 ||| B1) ||| (B2 ||| B3)) &&& 9259542123273814144 = 0 → Lib.validD (u.drop 32) = ANS := fun h0' => by
                          obtain ⟨e01, e23⟩ := (Lib.or_mask _ _ _).1 h0'
                          obtain ⟨e0, e1⟩ := (Lib.or_mask _ _ _).1 e01
                          obtain ⟨e2, e3⟩ := (Lib.or_mask _ _ _).1 e23
                          rw [← Lib.validD_ascii 32 u (asc_more u 24 8 (asc_more u 16 8 (asc_more u 8 8 (kB0.1 e0) (kB1.1 e1)) (kB2.1 e2)) (kB3.1 e3))]; exact VU.out
                        obtain ⟨P1, hP1⟩ : ∃ P1, B0 ||| B1 = P1 := ⟨_, rfl⟩
                        obtain ⟨P2, hP2⟩ : ∃ P2, B2 ||| B3 = P2 := ⟨_, rfl⟩
                        rw [hP1, hP2] at ho3 hand3 k3
                        rw [hP1] at ho1
                        rw [hP2] at ho2
                        obtain ⟨P3, hP3⟩ : ∃ P3, P1 ||| P2 = P3 := ⟨_, rfl⟩
                        rw [hP3] at ho3 hand3 k3
                        obtain ⟨Z3, hZ3⟩ : ∃ Z3, P3 &&& 9259542123273814144 = Z3 := ⟨_, rfl⟩
                        rw [hZ3] at hand3 k3
                        have RE := Lib.hid re; have K3 := Lib.hid k3
                        clear kB0 kB1 kB2 kB3 lo1 lo2 lo3 hP1 hP2 hP3 hZ3 hB0 hB1 hB2 hB3 rb rc rd re k3 lu
                        by_cases hz3 : Z3 = 0
                        · have hz3b : ((Z3 : Int) == 0) = true := by simp [hz3]
                          have VE := Lib.hid (K3.out hz3)
                          go_wp2_with fail
                          go_big_quiet (first | (go_at_call 154; with_reducible refine Calls.quiet_of (C0.out _)) | (go_at_call 154; with_reducible refine Calls.quiet_of (C1.out _)) | (go_at_call 154; with_reducible refine Calls.quiet_of (C2.out _)) | (go_at_call 154; with_reducible refine Calls.quiet_of (C3.out _)))
                          go_wp2
                          go_roundg g3
                          case measure => omega
                          case rel => exact ⟨below_q HBU.out nq, k, _, _, rfl, RE.out, VE.out, by omega, by omega⟩
                        · have hz3b : ((Z3 : Int) == 0) = false := by simp; omega
                          go_wp2_with fail
                          go_big_quiet (first | (go_at_call 154; with_reducible refine Calls.quiet_of (C0.out _)) | (go_at_call 154; with_reducible refine Calls.quiet_of (C1.out _)) | (go_at_call 154; with_reducible refine Calls.quiet_of (C2.out _)) | (go_at_call 154; with_reducible refine Calls.quiet_of (C3.out _)))
                          go_wp2
                          go_roundg g'
                          case measure => omega
                          case rel => exact ⟨below_q HBU.out nq, k + 32, _, _, rfl, RU.out, VU.out, by omega, by omega⟩
                      · have c32z : ¬ ((32 : Int) < (n : Int)) := by omega
                        have c32b : decide ((32 : Int) < (n : Int)) = false := decide_eq_false c32z
                        go_wp2_with fail
                        go_big_quiet (fail)
                        go_wp2
                        go_roundg g'
                        case measure => omega
                        case rel => exact ⟨below_q HBU.out nq, n, _, _, rfl, RU.out, VU.out, by omega, by omega⟩
                  · have hz2b : ((Z2 : Int) == 0) = false := by simp; omega
                    go_big_quiet (first | (go_at_call 154; with_reducible refine Calls.quiet_of (CW2.out _)) | (go_at_call 154; with_reducible refine Calls.quiet_of (CW3.out _)))
                    go_wp2
                    go_roundg g'
                    case measure => omega
                    case rel => exact ⟨below_q HB1.out nq, m16 + 16, _, _, rfl, HR2.out, V2.out, by omega, by omega⟩
                · have c16z : ¬ ((16 : Int) < (m8 : Int)) := by omega
                  have c16b : decide ((16 : Int) < (m8 : Int)) = false := decide_eq_false c16z
                  go_big_quiet (fail)
                  go_wp2
                  go_roundg g'
                  case measure => omega
                  case rel => exact ⟨below_q HB1.out nq, m8, _, _, rfl, HR2.out, V2.out, by omega, by omega⟩
              · have hz1b : ((Z1 : Int) == 0) = false := by simp; omega
                go_wp2_with (go_at_call 154; refine CW1.out.mono ?_; rintro _ W1 ⟨rfl, q1, rfl⟩)
                go_roundg g'
                case measure => omega
                case rel => exact ⟨below_q HBW.out _, m8 + 8, _, _, rfl, HR1.out, V1.out, by omega, by omega⟩
            · have c8z : ¬ (8 : Int) < (m : Int) := by omega
              go_wp2
              go_roundg g'
              case measure => omega
              case rel => exact ⟨HBW.out, m, _, _, rfl, HR1.out, V1.out, by omega, by omega⟩
      · have hge : 128 ≤ x0 := by omega
        have hascz : ¬ ((x0 : Int) < 128) := by omega
        obtain ⟨x1, hx1⟩ : ∃ x, (t.getD 1 0).toNat = x := ⟨_, rfl⟩
        obtain ⟨x2, hx2⟩ : ∃ x, (t.getD 2 0).toNat = x := ⟨_, rfl⟩
        obtain ⟨x3, hx3⟩ : ∃ x, (t.getD 3 0).toNat = x := ⟨_, rfl⟩
        have l1 : x1 < 256 := hx1 ▸ (t.getD 1 0).toNat_lt
        have l2 : x2 < 256 := hx2 ▸ (t.getD 2 0).toNat_lt
        have l3 : x3 < 256 := hx3 ▸ (t.getD 3 0).toNat_lt
        have hne : t ≠ [] := fun h => by have := HLN.out; rw [h] at this; simp at this; omega
        have hlead := Lib.validD_lead t hne (by rw [HX0.out]; exact hge)
        rw [HV.out, HX0.out, hx1, hx2, hx3, ← HLN.out] at hlead
        have HX1 := Lib.hid hx1; have HX2 := Lib.hid hx2; have HX3 := Lib.hid hx3
        have hTr := HT.out.below HBW.out
        have hc0 := hTr.1 x0 hx0lt
        have hXlt : Lib.firstT x0 < 256 := by rcases Lib.firstT_cases x0 with h | h | h | h | h | h | h | h | h <;> omega
        obtain ⟨X, hX⟩ : ∃ X, Lib.firstT x0 = X := ⟨_, rfl⟩
        rw [hX] at hc0 hXlt hlead
        have h7 := and7 ⟨X, hXlt⟩
        simp only at h7
        have ha0 : wr.cell? ⟨3, X / 16 * 2, none⟩ = some (.int .u8 (Lib.accLo (X / 16))) := by rw [Nat.mul_comm]; exact (hTr.2 (X / 16) (by omega)).1
        have ha1 : wr.cell? ⟨3, X / 16 * 2 + 1, none⟩ = some (.int .u8 (Lib.accHi (X / 16))) := by rw [Nat.mul_comm]; exact (hTr.2 (X / 16) (by omega)).2
        obtain ⟨LO, hLO⟩ : ∃ LO, Lib.accLo (X / 16) = LO := ⟨_, rfl⟩
        obtain ⟨HI, hHI⟩ : ∃ HI, Lib.accHi (X / 16) = HI := ⟨_, rfl⟩
        rw [hLO] at ha0 hlead
        rw [hHI] at ha1 hlead
        obtain ⟨SZ, hSZ⟩ : ∃ SZ, X % 8 = SZ := ⟨_, rfl⟩
        rw [hSZ] at hlead
        have hab : ad.block < wr.heap.size := World.block_lt_of_cell? wr _ r0
        have hab1 : ¬ ad.block = wr.heap.size := by omega
        have hab2 : ¬ wr.heap.size = ad.block := by omega
        clear hTr hX hLO hHI hne hx1 hx2 hx3 HA HP
        -- @GEN
        by_cases s2 : SZ = 2
        · subst s2
          have hSZz : (X : Int) % 8 = 2 := by omega
          simp only [Lib.checkN, Nat.reduceEqDiff, if_true, if_false] at hlead
          have HLD := Lib.hid hlead; clear hlead
          go_upto_region 18 with fail
          go_cut [103] from 85 to 103 (fun c wx => c = .bool (decide (n < 2 ∨ x1 < LO ∨ HI < x1)) ∧ Below w.heap.size w wx)
          case first =>
            by_cases q0 : n < 2
            · have q0z : (n : Int) < 2 := by omega
              go_big_quiet (fail)
              go_wp2
              go_meet
              exact ⟨congrArg Value.bool (decide_eq_true (p := n < 2 ∨ x1 < LO ∨ HI < x1) (by omega)).symm, below_q (HBW.out.trans ((Vh.b1 _ _).mono HBW.out.size)) _⟩
            · have q0z : ¬ ((n : Int) < 2) := by omega
              have hz1 : (1 : Int) < (n : Int) := by omega
              have hp1 : 1 < n := by omega
              have r1 := byteD hrw 1 hp1 (by omega) x1 HX1.out
              clear hrw
              by_cases q1 : x1 < LO
              · have q1z : (x1 : Int) < (LO : Int) := by omega
                go_big_quiet (fail)
                go_wp2
                go_meet
                exact ⟨congrArg Value.bool (decide_eq_true (p := n < 2 ∨ x1 < LO ∨ HI < x1) (by omega)).symm, below_q (HBW.out.trans ((Vh.b1 _ _).mono HBW.out.size)) _⟩
              · have q1z : ¬ ((x1 : Int) < (LO : Int)) := by omega
                by_cases q2 : HI < x1
                · have q2z : (HI : Int) < (x1 : Int) := by omega
                  go_big_quiet (fail)
                  go_wp2
                  go_meet
                  exact ⟨congrArg Value.bool (decide_eq_true (p := n < 2 ∨ x1 < LO ∨ HI < x1) (by omega)).symm, below_q (HBW.out.trans ((Vh.b1 _ _).mono HBW.out.size)) _⟩
                · have q2z : ¬ ((HI : Int) < (x1 : Int)) := by omega
                  go_big_quiet (fail)
                  go_wp2
                  go_meet
                  exact ⟨congrArg Value.bool (decide_eq_false (p := n < 2 ∨ x1 < LO ∨ HI < x1) (by omega)).symm, below_q (HBW.out.trans ((Vh.b1 _ _).mono HBW.out.size)) _⟩
          case rest =>
            obtain ⟨rfl, hbc⟩ := hcut
            have HBC := Lib.hid hbc; clear hbc hrw
            by_cases hb : n < 2 ∨ x1 < LO ∨ HI < x1
            · have hbd : decide (n < 2 ∨ x1 < LO ∨ HI < x1) = true := decide_eq_true hb
              have hld := HLD.out
              rw [if_pos hb] at hld
              simp only at hld
              have HLF := Lib.hid hld; clear hld
              go_wp2
              all_goals (go_ret; exact ⟨by rw [HLF.out]; rfl, HBC.out⟩)
            · have hbd : decide (n < 2 ∨ x1 < LO ∨ HI < x1) = false := decide_eq_false hb
              have hld := HLD.out
              rw [if_neg hb] at hld
              simp only at hld
              have HLF := Lib.hid hld
              have hn2 : 2 ≤ n := by omega
              clear hld
              by_cases c2 : n = 2
              · have htd : t.drop 2 = [] := List.drop_eq_nil_of_le (by have := HLN.out; omega)
                have HTD := Lib.hid htd; clear htd
                subst c2
                go_wp2
                go_roundg g'
                case measure => omega
                case rel => exact ⟨HBC.out, 0, _, [], rfl, rd_none _ _, by rw [← HTD.out]; exact HLF.out.symm, by omega, by omega⟩
              · obtain ⟨k, rfl⟩ : ∃ k, n = k + 2 := ⟨n - 2, by omega⟩
                have hk0 : ¬ k = 0 := by omega
                have s2k : (2 : Int) ≤ (k : Int) + 2 := by omega
                have re : Rd w (.slice (some ⟨ad.block, ad.off + 2, none⟩) k k) (t.drop 2) := by have := rd_from (k := 2) (n := k) (c := k) HR.out; rwa [add_some _ 2 (by omega)] at this
                have RE := Lib.hid re; clear re
                go_wp2
                go_roundg g'
                case measure => omega
                case rel => exact ⟨HBC.out, k, _, _, rfl, RE.out, HLF.out.symm, by omega, by omega⟩
        by_cases s3 : SZ = 3
        · subst s3
          have hSZz : (X : Int) % 8 = 3 := by omega
          simp only [Lib.checkN, Nat.reduceEqDiff, if_true, if_false] at hlead
          have HLD := Lib.hid hlead; clear hlead
          go_upto_region 22 with fail
          go_cut [138] from 108 to 138 (fun c wx => c = .bool (decide (n < 3 ∨ x1 < LO ∨ HI < x1 ∨ x2 < 128 ∨ 191 < x2)) ∧ Below w.heap.size w wx)
          case first =>
            by_cases q0 : n < 3
            · have q0z : (n : Int) < 3 := by omega
              go_big_quiet (fail)
              go_wp2
              go_meet
              exact ⟨congrArg Value.bool (decide_eq_true (p := n < 3 ∨ x1 < LO ∨ HI < x1 ∨ x2 < 128 ∨ 191 < x2) (by omega)).symm, below_q (HBW.out.trans ((Vh.b1 _ _).mono HBW.out.size)) _⟩
            · have q0z : ¬ ((n : Int) < 3) := by omega
              have hz1 : (1 : Int) < (n : Int) := by omega
              have hp1 : 1 < n := by omega
              have r1 := byteD hrw 1 hp1 (by omega) x1 HX1.out
              have hz2 : (2 : Int) < (n : Int) := by omega
              have hp2 : 2 < n := by omega
              have r2 := byteD hrw 2 hp2 (by omega) x2 HX2.out
              clear hrw
              by_cases q1 : x1 < LO
              · have q1z : (x1 : Int) < (LO : Int) := by omega
                go_big_quiet (fail)
                go_wp2
                go_meet
                exact ⟨congrArg Value.bool (decide_eq_true (p := n < 3 ∨ x1 < LO ∨ HI < x1 ∨ x2 < 128 ∨ 191 < x2) (by omega)).symm, below_q (HBW.out.trans ((Vh.b1 _ _).mono HBW.out.size)) _⟩
              · have q1z : ¬ ((x1 : Int) < (LO : Int)) := by omega
                by_cases q2 : HI < x1
                · have q2z : (HI : Int) < (x1 : Int) := by omega
                  go_big_quiet (fail)
                  go_wp2
                  go_meet
                  exact ⟨congrArg Value.bool (decide_eq_true (p := n < 3 ∨ x1 < LO ∨ HI < x1 ∨ x2 < 128 ∨ 191 < x2) (by omega)).symm, below_q (HBW.out.trans ((Vh.b1 _ _).mono HBW.out.size)) _⟩
                · have q2z : ¬ ((HI : Int) < (x1 : Int)) := by omega
                  by_cases q3 : x2 < 128
                  · have q3z : (x2 : Int) < 128 := by omega
                    go_big_quiet (fail)
                    go_wp2
                    go_meet
                    exact ⟨congrArg Value.bool (decide_eq_true (p := n < 3 ∨ x1 < LO ∨ HI < x1 ∨ x2 < 128 ∨ 191 < x2) (by omega)).symm, below_q (HBW.out.trans ((Vh.b1 _ _).mono HBW.out.size)) _⟩
                  · have q3z : ¬ ((x2 : Int) < 128) := by omega
                    by_cases q4 : 191 < x2
                    · have q4z : (191 : Int) < (x2 : Int) := by omega
                      go_big_quiet (fail)
                      go_wp2
                      go_meet
                      exact ⟨congrArg Value.bool (decide_eq_true (p := n < 3 ∨ x1 < LO ∨ HI < x1 ∨ x2 < 128 ∨ 191 < x2) (by omega)).symm, below_q (HBW.out.trans ((Vh.b1 _ _).mono HBW.out.size)) _⟩
                    · have q4z : ¬ ((191 : Int) < (x2 : Int)) := by omega
                      go_big_quiet (fail)
                      go_wp2
                      go_meet
                      exact ⟨congrArg Value.bool (decide_eq_false (p := n < 3 ∨ x1 < LO ∨ HI < x1 ∨ x2 < 128 ∨ 191 < x2) (by omega)).symm, below_q (HBW.out.trans ((Vh.b1 _ _).mono HBW.out.size)) _⟩
          case rest =>
            obtain ⟨rfl, hbc⟩ := hcut
            have HBC := Lib.hid hbc; clear hbc hrw
            by_cases hb : n < 3 ∨ x1 < LO ∨ HI < x1 ∨ x2 < 128 ∨ 191 < x2
            · have hbd : decide (n < 3 ∨ x1 < LO ∨ HI < x1 ∨ x2 < 128 ∨ 191 < x2) = true := decide_eq_true hb
              have hld := HLD.out
              rw [if_pos hb] at hld
              simp only at hld
              have HLF := Lib.hid hld; clear hld
              go_wp2
              all_goals (go_ret; exact ⟨by rw [HLF.out]; rfl, HBC.out⟩)
            · have hbd : decide (n < 3 ∨ x1 < LO ∨ HI < x1 ∨ x2 < 128 ∨ 191 < x2) = false := decide_eq_false hb
              have hld := HLD.out
              rw [if_neg hb] at hld
              simp only at hld
              have HLF := Lib.hid hld
              have hn3 : 3 ≤ n := by omega
              clear hld
              by_cases c3 : n = 3
              · have htd : t.drop 3 = [] := List.drop_eq_nil_of_le (by have := HLN.out; omega)
                have HTD := Lib.hid htd; clear htd
                subst c3
                go_wp2
                go_roundg g'
                case measure => omega
                case rel => exact ⟨HBC.out, 0, _, [], rfl, rd_none _ _, by rw [← HTD.out]; exact HLF.out.symm, by omega, by omega⟩
              · obtain ⟨k, rfl⟩ : ∃ k, n = k + 3 := ⟨n - 3, by omega⟩
                have hk0 : ¬ k = 0 := by omega
                have s3k : (3 : Int) ≤ (k : Int) + 3 := by omega
                have re : Rd w (.slice (some ⟨ad.block, ad.off + 3, none⟩) k k) (t.drop 3) := by have := rd_from (k := 3) (n := k) (c := k) HR.out; rwa [add_some _ 3 (by omega)] at this
                have RE := Lib.hid re; clear re
                go_wp2
                go_roundg g'
                case measure => omega
                case rel => exact ⟨HBC.out, k, _, _, rfl, RE.out, HLF.out.symm, by omega, by omega⟩
        by_cases s4 : SZ = 4
        · subst s4
          have hSZz : (X : Int) % 8 = 4 := by omega
          simp only [Lib.checkN, Nat.reduceEqDiff, if_true, if_false] at hlead
          have HLD := Lib.hid hlead; clear hlead
          go_upto_region 26 with fail
          go_cut [185] from 143 to 185 (fun c wx => c = .bool (decide (n < 4 ∨ x1 < LO ∨ HI < x1 ∨ x2 < 128 ∨ 191 < x2 ∨ x3 < 128 ∨ 191 < x3)) ∧ Below w.heap.size w wx)
          case first =>
            by_cases q0 : n < 4
            · have q0z : (n : Int) < 4 := by omega
              go_big_quiet (fail)
              go_wp2
              go_meet
              exact ⟨congrArg Value.bool (decide_eq_true (p := n < 4 ∨ x1 < LO ∨ HI < x1 ∨ x2 < 128 ∨ 191 < x2 ∨ x3 < 128 ∨ 191 < x3) (by omega)).symm, below_q (HBW.out.trans ((Vh.b1 _ _).mono HBW.out.size)) _⟩
            · have q0z : ¬ ((n : Int) < 4) := by omega
              have hz1 : (1 : Int) < (n : Int) := by omega
              have hp1 : 1 < n := by omega
              have r1 := byteD hrw 1 hp1 (by omega) x1 HX1.out
              have hz2 : (2 : Int) < (n : Int) := by omega
              have hp2 : 2 < n := by omega
              have r2 := byteD hrw 2 hp2 (by omega) x2 HX2.out
              have hz3 : (3 : Int) < (n : Int) := by omega
              have hp3 : 3 < n := by omega
              have r3 := byteD hrw 3 hp3 (by omega) x3 HX3.out
              clear hrw
              by_cases q1 : x1 < LO
              · have q1z : (x1 : Int) < (LO : Int) := by omega
                go_big_quiet (fail)
                go_wp2
                go_meet
                exact ⟨congrArg Value.bool (decide_eq_true (p := n < 4 ∨ x1 < LO ∨ HI < x1 ∨ x2 < 128 ∨ 191 < x2 ∨ x3 < 128 ∨ 191 < x3) (by omega)).symm, below_q (HBW.out.trans ((Vh.b1 _ _).mono HBW.out.size)) _⟩
              · have q1z : ¬ ((x1 : Int) < (LO : Int)) := by omega
                by_cases q2 : HI < x1
                · have q2z : (HI : Int) < (x1 : Int) := by omega
                  go_big_quiet (fail)
                  go_wp2
                  go_meet
                  exact ⟨congrArg Value.bool (decide_eq_true (p := n < 4 ∨ x1 < LO ∨ HI < x1 ∨ x2 < 128 ∨ 191 < x2 ∨ x3 < 128 ∨ 191 < x3) (by omega)).symm, below_q (HBW.out.trans ((Vh.b1 _ _).mono HBW.out.size)) _⟩
                · have q2z : ¬ ((HI : Int) < (x1 : Int)) := by omega
                  by_cases q3 : x2 < 128
                  · have q3z : (x2 : Int) < 128 := by omega
                    go_big_quiet (fail)
                    go_wp2
                    go_meet
                    exact ⟨congrArg Value.bool (decide_eq_true (p := n < 4 ∨ x1 < LO ∨ HI < x1 ∨ x2 < 128 ∨ 191 < x2 ∨ x3 < 128 ∨ 191 < x3) (by omega)).symm, below_q (HBW.out.trans ((Vh.b1 _ _).mono HBW.out.size)) _⟩
                  · have q3z : ¬ ((x2 : Int) < 128) := by omega
                    by_cases q4 : 191 < x2
                    · have q4z : (191 : Int) < (x2 : Int) := by omega
                      go_big_quiet (fail)
                      go_wp2
                      go_meet
                      exact ⟨congrArg Value.bool (decide_eq_true (p := n < 4 ∨ x1 < LO ∨ HI < x1 ∨ x2 < 128 ∨ 191 < x2 ∨ x3 < 128 ∨ 191 < x3) (by omega)).symm, below_q (HBW.out.trans ((Vh.b1 _ _).mono HBW.out.size)) _⟩
                    · have q4z : ¬ ((191 : Int) < (x2 : Int)) := by omega
                      by_cases q5 : x3 < 128
                      · have q5z : (x3 : Int) < 128 := by omega
                        go_big_quiet (fail)
                        go_wp2
                        go_meet
                        exact ⟨congrArg Value.bool (decide_eq_true (p := n < 4 ∨ x1 < LO ∨ HI < x1 ∨ x2 < 128 ∨ 191 < x2 ∨ x3 < 128 ∨ 191 < x3) (by omega)).symm, below_q (HBW.out.trans ((Vh.b1 _ _).mono HBW.out.size)) _⟩
                      · have q5z : ¬ ((x3 : Int) < 128) := by omega
                        by_cases q6 : 191 < x3
                        · have q6z : (191 : Int) < (x3 : Int) := by omega
                          go_big_quiet (fail)
                          go_wp2
                          go_meet
                          exact ⟨congrArg Value.bool (decide_eq_true (p := n < 4 ∨ x1 < LO ∨ HI < x1 ∨ x2 < 128 ∨ 191 < x2 ∨ x3 < 128 ∨ 191 < x3) (by omega)).symm, below_q (HBW.out.trans ((Vh.b1 _ _).mono HBW.out.size)) _⟩
                        · have q6z : ¬ ((191 : Int) < (x3 : Int)) := by omega
                          go_big_quiet (fail)
                          go_wp2
                          go_meet
                          exact ⟨congrArg Value.bool (decide_eq_false (p := n < 4 ∨ x1 < LO ∨ HI < x1 ∨ x2 < 128 ∨ 191 < x2 ∨ x3 < 128 ∨ 191 < x3) (by omega)).symm, below_q (HBW.out.trans ((Vh.b1 _ _).mono HBW.out.size)) _⟩
          case rest =>
            obtain ⟨rfl, hbc⟩ := hcut
            have HBC := Lib.hid hbc; clear hbc hrw
            by_cases hb : n < 4 ∨ x1 < LO ∨ HI < x1 ∨ x2 < 128 ∨ 191 < x2 ∨ x3 < 128 ∨ 191 < x3
            · have hbd : decide (n < 4 ∨ x1 < LO ∨ HI < x1 ∨ x2 < 128 ∨ 191 < x2 ∨ x3 < 128 ∨ 191 < x3) = true := decide_eq_true hb
              have hld := HLD.out
              rw [if_pos hb] at hld
              simp only at hld
              have HLF := Lib.hid hld; clear hld
              go_wp2
              all_goals (go_ret; exact ⟨by rw [HLF.out]; rfl, HBC.out⟩)
            · have hbd : decide (n < 4 ∨ x1 < LO ∨ HI < x1 ∨ x2 < 128 ∨ 191 < x2 ∨ x3 < 128 ∨ 191 < x3) = false := decide_eq_false hb
              have hld := HLD.out
              rw [if_neg hb] at hld
              simp only at hld
              have HLF := Lib.hid hld
              have hn4 : 4 ≤ n := by omega
              clear hld
              by_cases c4 : n = 4
              · have htd : t.drop 4 = [] := List.drop_eq_nil_of_le (by have := HLN.out; omega)
                have HTD := Lib.hid htd; clear htd
                subst c4
                go_wp2
                go_roundg g'
                case measure => omega
                case rel => exact ⟨HBC.out, 0, _, [], rfl, rd_none _ _, by rw [← HTD.out]; exact HLF.out.symm, by omega, by omega⟩
              · obtain ⟨k, rfl⟩ : ∃ k, n = k + 4 := ⟨n - 4, by omega⟩
                have hk0 : ¬ k = 0 := by omega
                have s4k : (4 : Int) ≤ (k : Int) + 4 := by omega
                have re : Rd w (.slice (some ⟨ad.block, ad.off + 4, none⟩) k k) (t.drop 4) := by have := rd_from (k := 4) (n := k) (c := k) HR.out; rwa [add_some _ 4 (by omega)] at this
                have RE := Lib.hid re; clear re
                go_wp2
                go_roundg g'
                case measure => omega
                case rel => exact ⟨HBC.out, k, _, _, rfl, RE.out, HLF.out.symm, by omega, by omega⟩
        -- @END
        have e2 : ¬ ((X : Int) % 8 = 2) := by omega
        have e3 : ¬ ((X : Int) % 8 = 3) := by omega
        have e4 : ¬ ((X : Int) % 8 = 4) := by omega
        have e2b : (((X : Int) % 8) == 2) = false := by simp; omega
        have e3b : (((X : Int) % 8) == 3) = false := by simp; omega
        have e4b : (((X : Int) % 8) == 4) = false := by simp; omega
        simp only [Lib.checkN, s2, s3, s4, if_false] at hlead
        have HLD := Lib.hid hlead
        clear hlead hrw
        go_wp2
        all_goals (go_ret; exact ⟨by rw [HLD.out]; rfl, HBW.out.trans ((Vh.b1 _ _).mono HBW.out.size)⟩)
    · have h0z : ¬ ((0 : Int) < (n : Int)) := by omega
      have ht : t = [] := List.eq_nil_of_length_eq_zero (by omega)
      rw [ht, Lib.validD_nil] at hv
      subst hv
      have HBW := Lib.hid hbw
      clear hbw hr HP HA
      go_wp2
      go_ret
      exact ⟨rfl, HBW.out⟩
theorem utf : UtfSaid Lib.validD := fun v l w h hT => valid v l w h hT
end Go.Proofs.YtinngljphjdpoaaGreatDoor.Uv
