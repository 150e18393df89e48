/- Unpad, the reference's. -/
import Derived.Test.YthiibkcaodaekaaUnp
namespace Go.Proofs.Ythiibkcaodaekaa.Unr
open Go Go.RowKit Go.Proofs.Ythiibkcaodaekaa.Pa Go.Proofs.Ythiibkcaodaekaa.Pb Go.Proofs.Ythiibkcaodaekaa.Pc Go.Proofs.Ythiibkcaodaekaa.Pf Go.Proofs.Ythiibkcaodaekaa.Ap Go.Proofs.Ythiibkcaodaekaa.Hd Go.Proofs.Ythiibkcaodaekaa.Bk Go.Proofs.Ythiibkcaodaekaa.Br Go.Proofs.Ythiibkcaodaekaa.Bl Go.Proofs.Ythiibkcaodaekaa.Pad Go.Proofs.Ythiibkcaodaekaa.Unp
set_option linter.unusedVariables false
set_option linter.unusedSimpArgs false

theorem numk4 (l : List UInt8) (h : 4 ≤ l.length) : numk l 4 = l[0].toNat + l[1].toNat * 256 + l[2].toNat * 65536 + l[3].toNat * 16777216 := by
  rw [numk_succc l 3 16777216 (by decide) (by omega), numk_succc l 2 65536 (by decide) (by omega), numk_succc l 1 256 (by decide) (by omega), numk_succc l 0 1 (by decide) (by omega)]
  simp [numk]
theorem of_nat_lt {n : Nat} {b : UInt8} (h : n = b.toNat) : UInt8.ofNat n = b := by subst h; simp
theorem le4_numk (l : List UInt8) (h : 4 ≤ l.length) : le4 (numk l 4) = l.take 4 := by
  have h0 := l[0].toNat_lt
  have h1 := l[1].toNat_lt
  have h2 := l[2].toNat_lt
  have h3 := l[3].toNat_lt
  have hn := numk4 l h
  have e0 : UInt8.ofNat (numk l 4 % 256) = l[0] := of_nat_lt (by omega)
  have e1 : UInt8.ofNat (numk l 4 / 256 % 256) = l[1] := of_nat_lt (by omega)
  have e2 : UInt8.ofNat (numk l 4 / 65536 % 256) = l[2] := of_nat_lt (by omega)
  have e3 : UInt8.ofNat (numk l 4 / 16777216 % 256) = l[3] := of_nat_lt (by omega)
  unfold le4
  rw [e0, e1, e2, e3]
  apply List.ext_getElem
  · simp; omega
  · intro i h4 h5
    rcases i with _ | _ | _ | _ | i
    · simp
    · simp
    · simp
    · simp
    · simp at h4; omega
theorem zeros_eq (l : List UInt8) (k : Nat) : List.replicate k (0 : UInt8) = l ↔ k = l.length ∧ ∀ x ∈ l, x = 0 := by
  constructor
  · rintro rfl
    exact ⟨by simp, fun x hx => (List.mem_replicate.1 hx).2⟩
  · rintro ⟨rfl, h⟩
    exact (List.eq_replicate_iff.2 ⟨rfl, h⟩).symm
/-- What is padded anew is the list just where the list is good. -/
theorem good_iff (ver : Int) (l : List UInt8) (h4 : 4 ≤ l.length) (hN : numk l 4 ≤ l.length - 4) (hb : (bucket ver (numk l 4 : Int)).2 = 0) :
    pad ver ((l.drop 4).take (numk l 4)) = l ↔ good ver l := by
  have hpl : ((l.drop 4).take (numk l 4)).length = numk l 4 := by simp; omega
  have hge := bucket_ge _ _ hb
  obtain ⟨hb1, hb2⟩ := bucket_bd _ _ hb
  have hle := le4_numk l h4
  unfold pad good
  rw [hpl, if_pos hb]
  generalize hs : (bucket ver (numk l 4 : Int)).1 = s at *
  obtain ⟨n, rfl⟩ := Int.eq_ofNat_of_zero_le (show 0 ≤ s by omega)
  generalize numk l 4 = N at *
  have h1 : ((l.drop 4).take N).take (((n : Nat) : Int).toNat - 4) = (l.drop 4).take N := List.take_of_length_le (by rw [hpl]; simp; omega)
  have h2 : over (le4 N ++ List.replicate (((n : Nat) : Int).toNat - 4) 0) 4 ((l.drop 4).take N) = l.take 4 ++ ((l.drop 4).take N ++ List.replicate (n - (4 + N)) 0) := by
    unfold over
    rw [hpl, List.take_append_of_le_length (by simp [le4]), List.take_of_length_le (by simp [le4]), List.drop_append]
    rw [hle]
    have hmn : min N (l.length - 4) = N := by omega
    simp [le4, hmn, List.append_assoc]
    rw [show List.drop (4 + N) (List.take 4 l) = [] from List.drop_of_length_le (by simp; omega), Nat.min_eq_left h4, List.nil_append]
    congr 1
    omega
  have h3 : l = l.take 4 ++ ((l.drop 4).take N ++ l.drop (4 + N)) := by
    rw [← List.drop_drop, List.take_append_drop, List.take_append_drop]
  rw [h1, h2]
  conv => lhs; rhs; rw [h3]
  rw [List.append_cancel_left_eq, List.append_cancel_left_eq, zeros_eq]
  simp only [List.length_drop]
  constructor
  · rintro ⟨g1, g2⟩; exact ⟨by omega, hb, by omega, g2⟩
  · rintro ⟨g1, _, g2, g3⟩; exact ⟨by omega, g3⟩

@[go_sem ↓] theorem app_y (a : Array TypeId) (ty : TypeId) (args : Array Value) : Builtin.append_ a ty args = appX a ty args := app_x a ty args
set_option maxRecDepth 100000 in
theorem runpad (ver : Int) {v : Value} {l : List UInt8} (w : World) (hv : Rd w v l) (hl : l.length ≤ 140737488351232) :
    Calls Try.prog 18 #[.int .i64 ver, v] w fun e w' => ∃ v', e = .returned (.tuple #[v', .int .i64 (unpad ver l).2]) ∧ Own w' w.heap.size 5 v' (unpad ver l).1 ∧ Below w.heap.size w w' := by
  obtain ⟨A, c, rfl, -⟩ := id hv
  by_cases hver : ver = 1 ∨ ver = 2
  · have hk : known ver = true := by rcases hver with rfl | rfl <;> rfl
    have HV := Lib.hid hv; clear hv
    have HVER := Lib.hid hver; clear hver
    by_cases h4 : l.length < 4
    · have hu : unpad ver l = ([], 101) := by
        unfold unpad
        rw [if_neg (by have := HVER.out; omega), if_neg (by unfold good; omega)]
      have HU := Lib.hid hu; clear hu
      go_enter Try.func18, Try.ntmps18
      go_wp2_with (go_at_call 20; refine (rknown _ _).mono ?_; rintro e w1 ⟨rfl, rfl⟩)
      go_ret2
      rw [HU.out]
      exact ⟨_, rfl, Own.nil _ _ _, Below.refl _ _⟩
    · obtain ⟨ad, rfl, c0⟩ := HV.out.at_ 0 (by omega)
      obtain ⟨_, e1, c1⟩ := HV.out.at_ 1 (by omega)
      cases e1
      obtain ⟨_, e1, c2⟩ := HV.out.at_ 2 (by omega)
      cases e1
      obtain ⟨_, e1, c3⟩ := HV.out.at_ 3 (by omega)
      cases e1
      have hn4 := numk4 l (by omega)
      have x0 := l[0].toNat_lt
      have x1 := l[1].toNat_lt
      have x2 := l[2].toNat_lt
      have x3 := l[3].toNat_lt
      rw [Go.Addr.add_zero'] at c0
      simp [Addr.add] at c1 c2 c3
      generalize l[0].toNat = b0 at *
      generalize l[1].toNat = b1 at *
      generalize l[2].toNat = b2 at *
      generalize l[3].toNat = b3 at *
      have hadd4 : ad.add 4 = ⟨ad.block, ad.off + 4, none⟩ := by simp [Addr.add]
      have hcl := HV.out.len.2.1
      obtain ⟨N, hNN⟩ : ∃ N, N = numk l 4 := ⟨_, rfl⟩
      rw [← hNN] at hn4
      have HNN := Lib.hid hNN; have HN4 := Lib.hid hn4; clear hNN hn4
      have hNlt : N < 4294967296 := by have := HN4.out; omega
      go_enter Try.func18, Try.ntmps18
      go_wp2_with (go_at_call 20; refine (rknown _ _).mono ?_; rintro e w1 ⟨rfl, rfl⟩)
      go_loop [6, 7] (fun s t => (t = .int .i64 3 ∧ s = .int .i64 0) ∨ (t = .int .i64 2 ∧ s = .int .i64 b3) ∨ (t = .int .i64 1 ∧ s = .int .i64 ((b3 : Int) * 256 + b2)) ∨ (t = .int .i64 0 ∧ s = .int .i64 (((b3 : Int) * 256 + b2) * 256 + b1)) ∨ (t = .int .i64 (-1) ∧ s = .int .i64 N)) (fun _ t => (intOf t + 1).toNat)
      case atStart => exact .inl ⟨rfl, rfl⟩
      case round =>
        rcases hrel with ⟨rfl, rfl⟩ | ⟨rfl, rfl⟩ | ⟨rfl, rfl⟩ | ⟨rfl, rfl⟩ | ⟨rfl, rfl⟩
        · go_wp2
          go_round
          case rel => exact .inr (.inl ⟨by go_num, by go_num⟩)
          case measure => simp [intOf]
        · go_wp2
          go_round
          case rel => exact .inr (.inr (.inl ⟨by go_num, by go_num⟩))
          case measure => simp [intOf]
        · go_wp2
          go_round
          case rel => exact .inr (.inr (.inr (.inl ⟨by go_num, by go_num⟩)))
          case measure => simp [intOf]
        · go_wp2
          go_round
          case rel => exact .inr (.inr (.inr (.inr ⟨by go_num, by have := HN4.out; go_num⟩)))
          case measure => simp [intOf]
        · by_cases hN : N ≤ l.length - 4
          · by_cases hc4 : c = 4
            · subst hc4
              have hl4 : l.length = 4 := by omega
              obtain rfl : N = 0 := by omega
              have al : Below w.heap.size w (w.alloc (.cells #[] 5)) := (Below.refl _ _).alloc (Nat.le_refl _) _
              have rd2 : Rd w (.slice (some ad) 0 0) [] := ⟨some ad, 0, rfl, by simp, by simp [maxLen], fun h => absurd h (by simp)⟩
              obtain ⟨v2, w2, hap, ho2, hg2, _⟩ := run_appX u8 22 (Own.empty w w.heap.size 5 (Nat.le_refl _)) (rd2.below al) (by simp) (by simp)
              have b2' : Below w.heap.size w w2 := below_grown al (Own.empty w w.heap.size 5 (Nat.le_refl _)) (Nat.le_refl _) (by simp) hg2
              rw [List.nil_append] at ho2
              have HO2 := Lib.hid ho2; clear ho2
              rw [hl4]
              go_wp2_with (go_at_call 9999)
              go_at_call 8
              refine (rpad ver w2 HO2.out.rd (by simp)).mono ?_
              rintro e w3 ⟨v3, rfl, ho3, b3'⟩
              have b3w : Below w.heap.size w w3 := b2'.trans (b3'.mono b2'.size)
              have s1 := run_str u8 Try.underlying5 Try.underlying9 ho3.rd
              have s2 := run_str u8 Try.underlying5 Try.underlying9 (HV.out.below b3w)
              rw [hl4] at s2
              have HO3 := Lib.hid ho3; clear ho3
              have hu : unpad ver l = ([], 101) := by
                unfold unpad
                rw [if_neg (by have := HVER.out; omega), if_neg (by unfold good; omega)]
              have HU := Lib.hid hu; clear hu
              have hne : ¬ pad ver [] = l := by
                intro h
                have h2 := congrArg List.length h
                have h3 : (bucket ver (0 : Int)).2 = 0 := by
                  unfold bucket
                  rw [if_neg (by have := HVER.out; omega), if_neg (by omega), if_neg (by omega)]
                have h4 := bucket_bd _ _ h3
                unfold pad at h2
                simp only [List.length_nil, Int.natCast_zero] at h2
                rw [if_pos h3, over_length _ _ _ (by simp [le4])] at h2
                simp [le4] at h2
                omega
              have hbe : (pad ver [] == l) = false := by simpa using hne
              have hbn : (pad ver [] != l) = true := by simpa using hne
              have HNE := Lib.hid hne; clear hne
              go_wp2
              all_goals
                go_ret2
                rw [HU.out]
                exact ⟨_, rfl, Own.nil _ _ _, b3w⟩
            · skip
              obtain ⟨pl, hpl⟩ : ∃ pl, pl = (l.drop 4).take N := ⟨_, rfl⟩
              have hplen : pl.length = N := by rw [hpl]; simp; omega
              have rd2 := Rd_sub HV.out 4 (4 + N) (by omega) (by omega)
              rw [Nat.add_sub_cancel_left, hadd4, ← hpl] at rd2
              have HPL := Lib.hid hpl; clear hpl
              have al : Below w.heap.size w (w.alloc (.cells #[] 5)) := (Below.refl _ _).alloc (Nat.le_refl _) _
              obtain ⟨v2, w2, hap, ho2, hg2, _⟩ := run_appX u8 22 (Own.empty w w.heap.size 5 (Nat.le_refl _)) (rd2.below al) (by simp) (by simp; omega)
              have b2' : Below w.heap.size w w2 := below_grown al (Own.empty w w.heap.size 5 (Nat.le_refl _)) (Nat.le_refl _) (by simp) hg2
              rw [List.nil_append] at ho2
              have HO2 := Lib.hid ho2; clear ho2
              go_wp2_with (go_at_call 9999)
              go_at_call 8
              refine (rpad ver w2 HO2.out.rd (by omega)).mono ?_
              rintro e w3 ⟨v3, rfl, ho3, b3'⟩
              have b3w : Below w.heap.size w w3 := b2'.trans (b3'.mono b2'.size)
              have s1 := run_str u8 Try.underlying5 Try.underlying9 ho3.rd
              have s2 := run_str u8 Try.underlying5 Try.underlying9 (HV.out.below b3w)
              have HO3 := Lib.hid ho3; clear ho3
              rw [hplen] 
              by_cases hb : (bucket ver (N : Int)).2 = 0
              · have hgi := good_iff ver l (by omega) (by rw [← HNN.out]; exact hN) (by rw [← HNN.out]; exact hb)
                rw [← HNN.out, ← HPL.out] at hgi
                by_cases heq : pad ver pl = l
                · have hbe : (pad ver pl == l) = true := by simpa using heq
                  have hbn : (pad ver pl != l) = false := by simp [heq]
                  have hu : unpad ver l = (pl, 0) := by
                    unfold unpad
                    rw [if_neg (by have := HVER.out; omega), if_pos (hgi.1 heq), ← HNN.out, ← HPL.out]
                  have HU := Lib.hid hu; have HGI := Lib.hid hgi; have HEQ := Lib.hid heq; clear hu hgi heq
                  go_wp2
                  go_ret2
                  rw [HU.out]
                  exact ⟨_, rfl, HO2.out.below b3', b3w⟩
                · have hbe : (pad ver pl == l) = false := by simpa using heq
                  have hbn : (pad ver pl != l) = true := by simp [heq]
                  have hu : unpad ver l = ([], 101) := by
                    unfold unpad
                    rw [if_neg (by have := HVER.out; omega), if_neg ?_]
                    exact fun h => heq (hgi.2 h)
                  have HU := Lib.hid hu; clear hu
                  have HGI := Lib.hid hgi; have HEQ := Lib.hid heq; clear hgi heq
                  go_wp2
                  go_ret2
                  rw [HU.out]
                  exact ⟨_, rfl, Own.nil _ _ _, b3w⟩
              · have hn1 : ((bucket ver (N : Int)).2 != 0) = true := by simpa using hb
                have hu : unpad ver l = ([], 101) := by
                  unfold unpad
                  rw [if_neg (by have := HVER.out; omega), if_neg ?_]
                  exact fun h => hb (by rw [HNN.out]; exact h.2.1)
                have HU := Lib.hid hu; clear hu
                go_wp2
                go_ret2
                rw [HU.out]
                exact ⟨_, rfl, Own.nil _ _ _, b3w⟩
          · have hu : unpad ver l = ([], 101) := by
              unfold unpad
              rw [if_neg (by have := HVER.out; omega), if_neg ?_]
              exact fun h => by have h1 := h.2.1; have h2 := h.2.2.1; rw [← HNN.out] at h1 h2; have := bucket_ge _ _ h1; omega
            have HU := Lib.hid hu; clear hu
            go_wp2
            go_ret2
            rw [HU.out]
            exact ⟨_, rfl, Own.nil _ _ _, Below.refl _ _⟩
  · have hu : unpad ver l = ([], 100) := by unfold unpad; rw [if_pos hver]
    have hk : known ver = false := by unfold known; simp; omega
    have HU := Lib.hid hu; clear hu
    go_enter Try.func18, Try.ntmps18
    go_wp2_with (go_at_call 20; refine (rknown _ _).mono ?_; rintro e w1 ⟨rfl, rfl⟩)
    go_ret2
    rw [HU.out]
    exact ⟨_, rfl, Own.nil _ _ _, Below.refl _ _⟩
end Go.Proofs.Ythiibkcaodaekaa.Unr
