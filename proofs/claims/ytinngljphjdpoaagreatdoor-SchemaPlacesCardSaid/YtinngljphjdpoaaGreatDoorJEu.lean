/- The reference's one, Encode, Join. -/
import Derived.Test.YtinngljphjdpoaaGreatDoorJEr
namespace Go.Proofs.YtinngljphjdpoaaGreatDoor.Eu
open Go Go.RowKit Go.Proofs.YtinngljphjdpoaaGreatDoor.Pa Go.Proofs.YtinngljphjdpoaaGreatDoor.Pb Go.Proofs.YtinngljphjdpoaaGreatDoor.Pf Go.Proofs.YtinngljphjdpoaaGreatDoor.Nz Go.Proofs.YtinngljphjdpoaaGreatDoor.Ea Go.Proofs.YtinngljphjdpoaaGreatDoor.Eb Go.Proofs.YtinngljphjdpoaaGreatDoor.Er Go.Proofs.YtinngljphjdpoaaGreatDoor.Hx
set_option linter.unusedVariables false
set_option linter.unusedSimpArgs false
set_option maxHeartbeats 1000000 in
set_option maxRecDepth 100000 in
theorem one (no ty : Int) (num : Nat) (A : Option Addr) (c : Nat) (data : List UInt8) (w : World)
    (h1 : 1 ≤ no) (h2 : no ≤ 536870911) (h3 : ty = 0 ∨ ty = 1 ∨ ty = 5 ∨ ty = 2) (hn : num < 18446744073709551616) (hd : data.length ≤ 5000000) (hrd : ∀ w', Below w.heap.size w w' → Rd w' (.slice A data.length c) data) :
    Calls Tryz.prog 109 #[.agg #[.int .i64 no, .int .i64 ty, .int .u64 (num : Int), .slice A data.length c]] w fun e w' => ∃ v', e = .returned v' ∧ Own w' w.heap.size 5 v' (Ep.one ⟨no, ty, num, data⟩) ∧ Below w.heap.size w w' := by
  obtain ⟨w1, hw1⟩ : ∃ y, y = w.alloc (.cells #[.int .i64 no, .int .i64 ty, .int .u64 (num : Int), .slice A data.length c] 140) := ⟨_, rfl⟩
  have hb1 : Below w.heap.size w w1 := by rw [hw1]; exact vb _ _
  have hg1 : hp w1 w.heap.size = some (.cells #[.int .i64 no, .int .i64 ty, .int .u64 (num : Int), .slice A data.length c] 140 (0, 0)) := by rw [hw1]; exact hp_alloc_at _ _ rfl
  have hc1 := fun i => hp_cell hg1 i
  have hk : 8 * no.toNat + ty.toNat < 18446744073709551616 := by omega
  have hone : Ep.one ⟨no, ty, num, data⟩ = Nz.num (8 * no.toNat + ty.toNat) ++ (if ty = 0 then Nz.num num else if ty = 1 then Ep.low num 8 else if ty = 5 then Ep.low num 4 else Nz.num data.length ++ data) := rfl
  obtain ⟨R, hR⟩ : ∃ R, R = Ep.one ⟨no, ty, num, data⟩ := ⟨_, rfl⟩
  rw [← hR]
  rw [hone] at hR
  clear hone
  have hKi : 8 * no + ty = ((8 * no.toNat + ty.toNat : Nat) : Int) := by omega
  have hq1 : IntKind.u64.wrap no = no := wu64 (by omega) (by omega)
  have hq2 : IntKind.u64.wrap (8 * no) = 8 * no := wu64 (by omega) (by omega)
  have hq3 : IntKind.u64.wrap ty = ty := wu64 (by omega) (by omega)
  have hq4 : IntKind.u64.wrap (8 * no + ty) = 8 * no + ty := wu64 (by omega) (by omega)
  generalize 8 * no.toNat + ty.toNat = K at *
  have hls := sz_u64 K hk
  unfold sz at hls
  have hs1 := hb1.size
  have PUT := Lib.hid (fun w => Nm.put (.slice none 0 0) [] K hk w (Rd.nil _) (by simp))
  have HB1 := Lib.hid hb1; have HG1 := Lib.hid hg1; have HRD := Lib.hid hrd; have HKI := Lib.hid hKi; have HN := Lib.hid hn
  clear hb1 hg1 hrd hKi hk hn
  go_enter Tryz.func109, Tryz.ntmps109
  go_wp2_with (go_at_call 9999)
  rw [← hw1]
  clear hw1
  go_at_call 106
  rw [HKI.out]
  refine (PUT.out w1).mono ?_
  rintro _ w2 ⟨v2, rfl, ho2, b2⟩
  rw [List.nil_append] at ho2
  have hg2 := below_hp HG1.out b2
  have hc2 := fun i => hp_cell hg2 i
  have hs2 := b2.size
  have hs0 : w.heap.size < w1.heap.size := (Array.getElem?_eq_some_iff.1 HG1.out).1
  have HO2 := Lib.hid ho2; have HG2 := Lib.hid hg2; have HB2 := Lib.hid (HB1.out.trans (b2.mono hs1))
  obtain ⟨A2, c2, rfl⟩ := ho2.slice
  clear ho2 hg2 b2 hc1 hq1 hq2 hq3 hq4
  generalize Nz.num K = l3 at *
  have HR := Lib.hid hR; clear hR
  have bs : ∀ {w3 w4 : World}, Below w.heap.size w w3 → Below w3.heap.size w3 w4 → Below w.heap.size w w4 := fun h k => h.trans (k.mono h.size)
  rcases h3 with rfl | rfl | rfl | rfl
  · have hr := HR.out
    rw [if_pos rfl] at hr
    subst hr; clear HR
    have NXT := Lib.hid (Nm.put _ l3 num HN.out w2 HO2.out.rd (by omega))
    go_wp2_with (go_at_call 9999)
    go_at_call 106
    refine NXT.out.mono ?_
    rintro _ w4 ⟨v4, rfl, ho4, b4⟩
    have HO4 := Lib.hid (ho4.mono (base' := w.heap.size) (by omega)); have HB4 := Lib.hid (bs HB2.out b4); clear ho4 b4
    go_wp2_with fail
    go_ret
    exact ⟨_, rfl, HO4.out, HB4.out⟩
  · have hr := HR.out
    rw [if_neg (by decide), if_pos rfl] at hr
    subst hr; clear HR
    have NXT := Lib.hid (Er.low num 8 HN.out (by omega) w2)
    go_wp2_with (go_at_call 9999)
    go_at_call 140
    refine NXT.out.mono ?_
    rintro _ w4 ⟨v4, rfl, ho4, b4⟩
    have ho24 := (HO2.out.below b4).mono (base' := w.heap.size) (by omega)
    have hb4 := bs HB2.out b4
    have hs4 := b4.size
    have hll := Ep.low_length num 8
    have HO24 := Lib.hid ho24; have HB4 := Lib.hid hb4; have HR4 := Lib.hid ho4.rd; clear ho4 b4 ho24 hb4
    go_wp2_with (at_builtin; refine wp_app (.tmp 23) (.tmp 26) Nm.u8 rfl rfl rfl rfl HO24.out HR4.out (by omega) (by omega) ?_; intro v5 w5 ho5 hg5 hc5)
    have HB5 := Lib.hid (HB4.out.trans (below_grown (Below.refl _ _) HO24.out (Nat.le_refl _) (by omega) hg5)); have HO5 := Lib.hid ho5
    clear hg5 hc5 ho5
    go_wp2_with fail
    go_ret
    exact ⟨_, rfl, HO5.out, HB5.out⟩
  · have hr := HR.out
    rw [if_neg (by decide), if_neg (by decide), if_pos rfl] at hr
    subst hr; clear HR
    have NXT := Lib.hid (Er.low num 4 HN.out (by omega) w2)
    go_wp2_with (go_at_call 9999)
    go_at_call 140
    refine NXT.out.mono ?_
    rintro _ w4 ⟨v4, rfl, ho4, b4⟩
    have ho24 := (HO2.out.below b4).mono (base' := w.heap.size) (by omega)
    have hb4 := bs HB2.out b4
    have hs4 := b4.size
    have hll := Ep.low_length num 4
    have HO24 := Lib.hid ho24; have HB4 := Lib.hid hb4; have HR4 := Lib.hid ho4.rd; clear ho4 b4 ho24 hb4
    go_wp2_with (at_builtin; refine wp_app (.tmp 30) (.tmp 33) Nm.u8 rfl rfl rfl rfl HO24.out HR4.out (by omega) (by omega) ?_; intro v5 w5 ho5 hg5 hc5)
    have HB5 := Lib.hid (HB4.out.trans (below_grown (Below.refl _ _) HO24.out (Nat.le_refl _) (by omega) hg5)); have HO5 := Lib.hid ho5
    clear hg5 hc5 ho5
    go_wp2_with fail
    go_ret
    exact ⟨_, rfl, HO5.out, HB5.out⟩
  · have hr := HR.out
    rw [if_neg (by decide), if_neg (by decide), if_neg (by decide), ← List.append_assoc] at hr
    subst hr; clear HR
    have hw : IntKind.u64.wrap (data.length : Int) = (data.length : Int) := by rw [IntKind.wrap_u64]; omega
    have NXT := Lib.hid (Nm.put _ l3 data.length (by omega) w2 HO2.out.rd (by omega))
    have hsd := sz_u64 data.length (by omega)
    unfold sz at hsd
    go_wp2_with (go_at_call 9999)
    go_at_call 106
    refine NXT.out.mono ?_
    rintro _ w4 ⟨v4, rfl, ho4, b4⟩
    have ho24 := ho4.mono (base' := w.heap.size) (by omega)
    have hb4 := bs HB2.out b4
    have hs4 := b4.size
    have hc4 := fun i => hp_cell (below_hp HG2.out b4) i
    have HO24 := Lib.hid ho24; have HB4 := Lib.hid hb4; have HR4 := Lib.hid (HRD.out w4 hb4); clear ho4 b4 ho24 hb4
    go_wp2_with (at_builtin; refine wp_app (.tmp 41) (.tmp 43) Nm.u8 rfl rfl rfl rfl HO24.out HR4.out (by omega) (by simp; omega) ?_; intro v5 w5 ho5 hg5 hc5)
    have HB5 := Lib.hid (HB4.out.trans (below_grown (Below.refl _ _) HO24.out (Nat.le_refl _) (by omega) hg5)); have HO5 := Lib.hid ho5
    clear hg5 hc5 ho5
    go_wp2_with fail
    go_ret
    exact ⟨_, rfl, HO5.out, HB5.out⟩
theorem sum_le (l : List Ep.Fd) (h : ∀ f ∈ l, f.data.length ≤ 5000000) : Ep.sumL l ≤ l.length * 5000000 := by
  induction l with
  | nil => simp [Ep.sumL]
  | cons f r ih =>
    have h1 := ih (fun g hg => h g (by simp [hg]))
    have h2 := h f (by simp)
    simp [Ep.sumL]; omega
set_option maxHeartbeats 2000000 in
set_option maxRecDepth 100000 in
theorem encode (v : Value) (l : List Ep.Fd) (W w : World) (h : RdF W v l) (hB : Below W.heap.size W w) (hl : l.length ≤ 100000) :
    Calls Tryz.prog 85 #[v] w fun e w' => ∃ v', e = .returned (.tuple #[v', .int .i64 (Ep.encE l)]) ∧ Own w' w.heap.size 5 v' (Ep.enc l) ∧ Below w.heap.size w w' := by
  obtain ⟨A, c, rfl, hbd, -⟩ := id h
  obtain ⟨E, hE⟩ : ∃ E, E = Ep.encE l := ⟨_, rfl⟩
  have hen : E ≠ 0 → Ep.enc l = [] := fun h0 => by unfold Ep.enc; rw [if_neg (by rw [← hE]; exact h0)]
  have hey : E = 0 → Ep.enc l = Ep.bytes l := fun h0 => by unfold Ep.enc; rw [if_pos (by rw [← hE]; exact h0)]
  rw [← hE]
  unfold Ep.encE at hE
  obtain ⟨R, hR⟩ : ∃ R, R = Ep.enc l := ⟨_, rfl⟩
  rw [← hR] at hen hey ⊢
  clear hR
  have H := Lib.hid h; have HB := Lib.hid hB; have HBD := Lib.hid hbd; have HEN := Lib.hid hen; have HEY := Lib.hid hey
  clear h hB hbd hen hey
  have hWw := HB.out.size
  go_enter Tryz.func85, Tryz.ntmps85
  by_cases h64 : 64 < l.length
  · have h64z : (64 : Int) < (l.length : Int) := by omega
    rw [if_pos h64] at hE
    subst hE
    have hr := HEN.out (by decide)
    subst hr
    clear h64 HEN HEY
    go_wp2_with fail
    go_ret2
    exact ⟨_, rfl, Own.nil _ _ _, Below.refl _ _⟩
  · have h64z : ¬ (64 : Int) < (l.length : Int) := by omega
    rw [if_neg h64] at hE
    have hsum := sum_le l (fun f hf => (HBD.out f hf).2)
    have HE := Lib.hid hE; clear hE
    go_wp2_with fail
    go_loopw [4, 5] (fun s u wr => ∃ (i : Nat) (x : Int), i ≤ l.length ∧ u = .int .i64 i ∧ s = .int .i64 x ∧ Ep.errGo x (l.drop i) = Ep.errGo 0 l ∧ Below w.heap.size w wr) (fun _ u _ => l.length - (intOf u).toNat)
    case atStart => exact ⟨0, 0, by omega, rfl, rfl, rfl, Below.refl _ _⟩
    case round =>
      obtain ⟨i, x, hi, rfl, rfl, her, hbw⟩ := hrel
      have HER := Lib.hid her; have HBW := Lib.hid hbw
      by_cases hin : i < l.length
      · have hbr : Below W.heap.size W wr := HB.out.trans (hbw.mono hWw)
        obtain ⟨ad, rfl, A', c', g1, g2, g3, g4, g5⟩ := H.out.at_ i hin
        have K : ∀ a u, W.cell? a = some u → wr.cell? a = some u := fun a u hu => (World.cell?_of_block (hbr.block _ (World.block_lt_of_cell? W _ hu))).trans hu
        replace g1 := K _ _ g1; replace g2 := K _ _ g2; replace g3 := K _ _ g3; replace g4 := K _ _ g4
        have hst := Ep.errGo_drop x l i hin
        have hbf := HBD.out l[i] (List.getElem_mem hin)
        generalize l[i] = f at *
        obtain ⟨no, ty, num, data⟩ := f
        simp only at g1 g2 g3 g4 g5 hst hbf
        rw [HER.out] at hst
        obtain ⟨p, hpp⟩ : ∃ p, ad.add (i * 4) = p := ⟨_, rfl⟩
        rw [Rs.add_lit _ _ _ (by omega)] at g2 g3 g4
        rw [hpp] at g1 g2 g3 g4
        obtain ⟨w2, hw2⟩ : ∃ z, z = wr.alloc (.cells #[.int .i64 no, .int .i64 ty, .int .u64 (num : Int), .slice A' data.length c'] 140) := ⟨_, rfl⟩
        have hb2 : Below wr.heap.size wr w2 := by rw [hw2]; exact vb _ _
        have hx2 : hp w2 wr.heap.size = some (.cells #[.int .i64 no, .int .i64 ty, .int .u64 (num : Int), .slice A' data.length c'] 140 (0, 0)) := by rw [hw2]; exact hp_alloc_at _ _ rfl
        have hxc := fun i => hp_cell hx2 i
        have hwb := HBW.out.trans (hb2.mono HBW.out.size)
        have HX2 := Lib.hid hx2; have HB2 := Lib.hid hwb; have HBF := Lib.hid hbf
        clear hx2 hb2 hbf g5 hbr hbw her K
        by_cases bad : no < 1 ∨ 536870911 < no ∨ no ≤ x
        · have hw71 : Ep.wrong ⟨no, ty, num, data⟩ x = 71 := by unfold Ep.wrong; rw [if_pos bad]
          rw [hw71, if_pos (by decide)] at hst
          have hE2 := HE.out
          rw [if_pos (by rw [hst]; decide), hst] at hE2
          subst hE2
          have hr := HEN.out (by decide)
          subst hr
          clear hst hw71 HE HEN HEY HER
          by_cases c1 : no < 1
          · clear bad
            go_wp2_with fail
            rw [← hw2]
            go_ret2
            exact ⟨_, rfl, Own.nil _ _ _, HB2.out⟩
          · by_cases c2 : 536870911 < no
            · clear bad
              go_wp2_with fail
              rw [← hw2]
              go_ret2
              exact ⟨_, rfl, Own.nil _ _ _, HB2.out⟩
            · have c3 : no ≤ x := by omega
              clear bad
              go_wp2_with fail
              rw [← hw2]
              go_ret2
              exact ⟨_, rfl, Own.nil _ _ _, HB2.out⟩
        · have hwr := wrong_ref ⟨no, ty, num, data⟩ x bad
          simp only at hwr
          have c1 : ¬ no < 1 := by omega
          have c2 : ¬ 536870911 < no := by omega
          have c3 : ¬ no ≤ x := by omega
          clear bad
          have KN := Lib.hid (fun w => known ty w)
          have FT := Lib.hid (fun w => fits no ty num A' data.length c' (by have := HBF.out.2; omega) w)
          obtain ⟨kb, hkb⟩ : ∃ kb, kb = kn ty := ⟨_, rfl⟩
          rw [← hkb] at KN hwr
          obtain ⟨fb, hfb⟩ : ∃ fb, fb = ft ty num data.length := ⟨_, rfl⟩
          rw [← hfb] at FT hwr
          clear hkb hfb
          have HST := Lib.hid hst; have HWR := Lib.hid hwr
          clear hst hwr
          cases kb with
          | false =>
            have hwr := HWR.out
            rw [if_pos rfl] at hwr
            have hst := HST.out
            rw [hwr, if_pos (by decide)] at hst
            have hE2 := HE.out
            rw [if_pos (by rw [hst]; decide), hst] at hE2
            subst hE2
            have hr := HEN.out (by decide)
            subst hr
            clear hst hwr HST HWR HE HEN HEY HER FT
            go_wp2_with (go_at_call 9999)
            rw [← hw2]
            clear hw2
            go_at_call 107
            refine (KN.out _).mono ?_
            rintro _ w3 ⟨rfl, rfl⟩
            go_wp2_with fail
            go_ret2
            exact ⟨_, rfl, Own.nil _ _ _, HB2.out⟩
          | true =>
            go_wp2_with (go_at_call 9999)
            rw [← hw2]
            clear hw2
            go_at_call 107
            refine (KN.out _).mono ?_
            rintro _ w3 ⟨rfl, rfl⟩
            go_wp2_with (go_at_call 9999)
            go_at_call 108
            refine (FT.out _).mono ?_
            rintro _ w3 ⟨rfl, b3⟩
            have hx3c := fun i => hp_cell (below_hp HX2.out b3) i
            have HB3 := Lib.hid (HB2.out.trans (b3.mono HB2.out.size))
            clear hxc g1 g2 g3 g4 b3 KN FT
            have hwr := HWR.out
            rw [if_neg (by decide)] at hwr
            have hst := HST.out
            rw [hwr] at hst
            cases fb with
            | false =>
              rw [if_pos rfl, if_pos (by decide)] at hst
              have hE2 := HE.out
              rw [if_pos (by rw [hst]; decide), hst] at hE2
              subst hE2
              have hr := HEN.out (by decide)
              subst hr
              clear hst hwr HST HWR HE HEN HEY HER
              go_wp2_with fail
              go_ret2
              exact ⟨_, rfl, Own.nil _ _ _, HB3.out⟩
            | true =>
              rw [if_neg (by decide)] at hst
              try rw [if_neg (by decide)] at hst
              have HNX := Lib.hid hst.symm
              clear hst hwr HST HWR
              go_wp2_with fail
              go_roundw
              case rel => exact ⟨i + 1, no, by omega, by go_num, rfl, HNX.out, HB3.out⟩
              case measure => simp [intOf]; omega
      · obtain rfl : i = l.length := by omega
        have her2 := HER.out
        rw [List.drop_length] at her2
        simp only [Ep.errGo] at her2
        have hE2 := HE.out
        rw [if_neg (by rw [← her2]; decide)] at hE2
        have hok := Ep.errGo_ok l 0 her2.symm
        have HE2 := Lib.hid hE2; have HOK := Lib.hid hok
        clear HE HER her hE2 hok her2
        go_wp2_with fail
        obtain ⟨wo, hwo⟩ : ∃ x, x = wr := ⟨_, rfl⟩
        subst hwo
        have HBO := Lib.hid HBW.out
        clear HBW hbw
        go_loopw [7, 8] (fun s u wr => ∃ (i : Nat) (y : Nat), i ≤ l.length ∧ u = .int .i64 i ∧ s = .int .i64 (y : Int) ∧ y + Ep.sumL (l.drop i) = Ep.sumL l ∧ wr = wo) (fun _ u _ => l.length - (intOf u).toNat)
        case atStart => exact ⟨0, 0, by omega, rfl, rfl, by simp, rfl⟩
        case round =>
          obtain ⟨i, y, hi, rfl, rfl, hsm, hww⟩ := hrel
          obtain rfl := hww.symm
          have HSM := Lib.hid hsm
          by_cases hin : i < l.length
          · have hbr : Below W.heap.size W wo := HB.out.trans (HBO.out.mono hWw)
            obtain ⟨ad, rfl, A', c', g1, g2, g3, g4, g5⟩ := H.out.at_ i hin
            have K : ∀ a u, W.cell? a = some u → wo.cell? a = some u := fun a u hu => (World.cell?_of_block (hbr.block _ (World.block_lt_of_cell? W _ hu))).trans hu
            replace g4 := K _ _ g4
            have hsd := Ep.sumL_drop l i hin
            have hbf := HBD.out l[i] (List.getElem_mem hin)
            generalize l[i] = f at *
            obtain ⟨no, ty, num, data⟩ := f
            simp only at g4 hsd hbf
            have hyd : y + data.length + Ep.sumL (l.drop (i + 1)) = Ep.sumL l := by omega
            have hyb : y + data.length ≤ 400000000 := by omega
            obtain ⟨p, hpp⟩ : ∃ p, ad.add (i * 4) = p := ⟨_, rfl⟩
            rw [Rs.add_lit _ _ _ (by omega)] at g4
            rw [hpp] at g4
            have HYD := Lib.hid hyd
            clear hyd hsd hsm g1 g2 g3 g5 K hbr hbf
            go_wp2_with fail
            go_roundw
            case rel => exact ⟨i + 1, y + data.length, by omega, by go_num, by go_num, HYD.out, by first | rfl | trivial⟩
            case measure => simp [intOf]; omega
          · obtain rfl : i = l.length := by omega
            have hsm2 := HSM.out
            rw [List.drop_length] at hsm2
            simp only [Ep.sumL] at hsm2
            have hE2 := HE2.out
            clear HSM hsm
            by_cases hs4 : 4194304 < Ep.sumL l
            · have hs4z : (4194304 : Int) < (y : Int) := by omega
              rw [if_pos hs4] at hE2
              subst hE2
              have hr := HEN.out (by decide)
              subst hr
              clear hs4 HEN HEY HE2 hsm2
              go_wp2_with fail
              go_ret2
              exact ⟨_, rfl, Own.nil _ _ _, HBO.out⟩
            · have hs4z : ¬ (4194304 : Int) < (y : Int) := by omega
              rw [if_neg hs4] at hE2
              have hbl := Ep.bytes_len l HBD.out HOK.out
              have HE3 := Lib.hid hE2; have HBL := Lib.hid (show (Ep.bytes l).length ≤ 5000000 by omega)
              clear hE2 HE2 hs4 hbl hsm2 hsum
              obtain ⟨w5, hw5⟩ : ∃ z, z = wo.alloc (.cells #[] 5) := ⟨_, rfl⟩
              have ho5 : Own w5 w.heap.size 5 (.slice (some ⟨wo.heap.size, 0, none⟩) 0 0) [] := by rw [hw5]; exact Own.empty wo w.heap.size _ HBO.out.size
              have hb5 : Below w.heap.size w w5 := by rw [hw5]; exact HBO.out.alloc HBO.out.size _
              have HO5 := Lib.hid ho5; have HB5 := Lib.hid hb5
              clear ho5 hb5
              go_wp2_with fail
              rw [← hw5]
              clear hw5
              go_loopw [9, 10] (fun s u wr => ∃ (i : Nat) (acc : List UInt8), i ≤ l.length ∧ u = .int .i64 i ∧ Own wr w.heap.size 5 s acc ∧ acc ++ Ep.bytes (l.drop i) = Ep.bytes l ∧ Below w.heap.size w wr) (fun _ u _ => l.length - (intOf u).toNat)
              case atStart => exact ⟨0, [], by omega, rfl, HO5.out, by simp, HB5.out⟩
              case round =>
                obtain ⟨i, acc, hi, rfl, ho, hacc, hbw⟩ := hrel
                have HO := Lib.hid ho; have HACC := Lib.hid hacc; have HBW := Lib.hid hbw
                have hal : acc.length ≤ 5000000 := by have := congrArg List.length hacc; have h2 := HBL.out; simp only [List.length_append] at this; omega
                have hbs := hbw.size
                by_cases hin : i < l.length
                · have hbr : Below W.heap.size W wr := HB.out.trans (hbw.mono hWw)
                  obtain ⟨ad, rfl, A', c', g1, g2, g3, g4, g5⟩ := H.out.at_ i hin
                  have K : ∀ a u, W.cell? a = some u → wr.cell? a = some u := fun a u hu => (World.cell?_of_block (hbr.block _ (World.block_lt_of_cell? W _ hu))).trans hu
                  replace g1 := K _ _ g1; replace g2 := K _ _ g2; replace g3 := K _ _ g3; replace g4 := K _ _ g4
                  have hst := Ep.bytes_drop l i hin
                  have hbf := HBD.out l[i] (List.getElem_mem hin)
                  have hkf := HOK.out l[i] (List.getElem_mem hin)
                  generalize l[i] = f at *
                  obtain ⟨no, ty, num, data⟩ := f
                  simp only at g1 g2 g3 g4 g5 hst hbf hkf
                  obtain ⟨p, hpp⟩ : ∃ p, ad.add (i * 4) = p := ⟨_, rfl⟩
                  rw [Rs.add_lit _ _ _ (by omega)] at g2 g3 g4
                  rw [hpp] at g1 g2 g3 g4
                  have hon := one no ty num A' c' data wr hkf.1 hkf.2.1 hkf.2.2 hbf.1 hbf.2 (fun w' h' => Vu.rd_keep (hbr.trans (h'.mono hbr.size)).block g5)
                  have hnx : acc ++ Ep.one ⟨no, ty, num, data⟩ ++ Ep.bytes (l.drop (i + 1)) = Ep.bytes l := by rw [List.append_assoc, ← hst]; exact hacc
                  have hol := Ep.one_len ⟨no, ty, num, data⟩ hbf.1 hbf.2 hkf.2.1 (by show ty ≤ 7; omega)
                  have ON := Lib.hid hon; have HNX := Lib.hid hnx
                  generalize Ep.one ⟨no, ty, num, data⟩ = ob at *
                  clear hon hnx hst hbf hkf g5 hbr hbw K hacc ho
                  go_wp2_with (go_at_call 9999)
                  go_at_call 109
                  refine ON.out.mono ?_
                  rintro _ w6 ⟨v6, rfl, ho6, b6⟩
                  have hb6 := HBW.out.trans (b6.mono hbs)
                  have hs6 := b6.size
                  have HO6 := Lib.hid (HO.out.below b6); have HR6 := Lib.hid ho6.rd; have HB6 := Lib.hid hb6
                  clear ho6 b6 hb6 g1 g2 g3 g4
                  go_wp2_with (at_builtin; refine wp_app (.tmp 70) (.tmp 75) Nm.u8 rfl rfl rfl rfl HO6.out HR6.out (by omega) (by omega) ?_; intro v7 w7 ho7 hg7 hc7)
                  have HB7 := Lib.hid (HB6.out.trans (below_grown (Below.refl _ _) HO6.out (Nat.le_refl _) (by omega) hg7)); have HO7 := Lib.hid ho7
                  clear hg7 hc7 ho7
                  go_wp2_with fail
                  go_roundw
                  case rel => exact ⟨i + 1, _, by omega, by go_num, HO7.out, HNX.out, HB7.out⟩
                  case measure => simp [intOf]; omega
                · obtain rfl : i = l.length := by omega
                  have hac2 := HACC.out
                  rw [List.drop_length] at hac2
                  simp only [Ep.bytes, List.append_nil] at hac2
                  subst hac2
                  obtain ⟨A5, c5, rfl⟩ := ho.slice
                  have hE2 := HE3.out
                  clear HE3 HACC hacc ho
                  by_cases hb4 : 4194304 < (Ep.bytes l).length
                  · have hb4z : (4194304 : Int) < ((Ep.bytes l).length : Int) := by omega
                    rw [if_pos hb4] at hE2
                    subst hE2
                    have hr := HEN.out (by decide)
                    subst hr
                    clear hb4 HEN HEY
                    go_wp2_with fail
                    go_ret2
                    exact ⟨_, rfl, Own.nil _ _ _, HBW.out⟩
                  · have hb4z : ¬ (4194304 : Int) < ((Ep.bytes l).length : Int) := by omega
                    rw [if_neg hb4] at hE2
                    subst hE2
                    have hr := HEY.out rfl
                    subst hr
                    clear hb4 HEN HEY
                    go_wp2_with fail
                    go_ret2
                    exact ⟨_, rfl, HO.out, HBW.out⟩
/-- Worlds behind one. -/
def Past (w W' : World) : Prop := Below w.heap.size w W'
theorem Past.on {w W W' : World} (h : Past w W) (hb : Below W.heap.size W W') : Past w W' := Below.trans h (hb.mono h.size)
theorem run_mk0 (n : Nat) (hn : n ≤ 281474976710656) (W : World) :
    (Instr.makeSlice 23 (.int .i64 0) (.int .i64 (n : Int))).run Tryz.prog W = .ok (.slice (some ⟨W.heap.size, 0, none⟩) 0 n) (W.alloc (.cells (cb (List.replicate n 0)).toArray 5)) := by
  obtain ⟨i, hi, hzz⟩ := Option.map_eq_some_iff.1 Nm.u8.info
  simp only [Prod.mk.injEq] at hzz
  obtain ⟨hz0, hz1, hz2⟩ := hzz
  have hr := run_make (P := Tryz.prog) W 23 5 i _ Tryz.underlying23 hi hz0 .i64 .i64 0 n (by omega) (by omega) (by rw [hz2]; omega) (by omega)
  simp only [Int.toNat_natCast, hz1] at hr
  have e : (madeCells (Value.int .u8 0).cells (n * 1)) = (cb (List.replicate n 0)).toArray := by
    apply Array.ext'
    simp [madeCells, cb, Value.cells]
    apply List.ext_getElem
    · simp
    · intro i h1 h2
      have : i % 1 = 0 := by omega
      simp [this]
  rw [e] at hr
  simpa using hr
set_option maxHeartbeats 2000000 in
set_option maxRecDepth 100000 in
theorem joinR (v : Value) (l : List (List UInt8)) (W w : World) (h : RdI W v l) (hB : Below W.heap.size W w) (hl : l.length ≤ 100000) :
    Calls Tryz.prog 84 #[v] w fun e w' => ∃ v', e = .returned (.tuple #[v', .int .i64 (Ep.joinE l)]) ∧ Own w' w.heap.size 5 v' (Ep.join l) ∧ Below w.heap.size w w' := by
  obtain ⟨A, c, rfl, hbd, -⟩ := id h
  obtain ⟨E, hE⟩ : ∃ E, E = Ep.joinE l := ⟨_, rfl⟩
  have hen : E ≠ 0 → Ep.join l = [] := fun h0 => by unfold Ep.join; rw [if_neg (by rw [← hE]; exact h0)]
  have hey : E = 0 → Ep.join l = Ep.jbytes l := fun h0 => by unfold Ep.join; rw [if_pos (by rw [← hE]; exact h0)]
  rw [← hE]
  unfold Ep.joinE at hE
  obtain ⟨R, hR⟩ : ∃ R, R = Ep.join l := ⟨_, rfl⟩
  rw [← hR] at hen hey ⊢
  clear hR
  have H := Lib.hid h; have HB := Lib.hid hB; have HBD := Lib.hid hbd; have HEN := Lib.hid hen; have HEY := Lib.hid hey
  clear h hB hbd hen hey
  have hWw := HB.out.size
  go_enter Tryz.func84, Tryz.ntmps84
  by_cases h64 : 4096 < l.length
  · have h64z : (4096 : Int) < (l.length : Int) := by omega
    rw [if_pos h64] at hE
    subst hE
    have hr := HEN.out (by decide)
    subst hr
    clear h64 HEN HEY
    go_wp2_with fail
    go_ret2
    exact ⟨_, rfl, Own.nil _ _ _, Below.refl _ _⟩
  · have h64z : ¬ (4096 : Int) < (l.length : Int) := by omega
    rw [if_neg h64] at hE
    have HE := Lib.hid hE; clear hE
    go_wp2_with fail
    go_loopw [4, 5] (fun s u wr => ∃ (i : Nat) (y : Nat), i ≤ l.length ∧ u = .int .i64 i ∧ s = .int .i64 (y : Int) ∧ y + Ep.jsum (l.drop i) = Ep.jsum l ∧ y ≤ 4194304 ∧ Below w.heap.size w wr) (fun _ u _ => l.length - (intOf u).toNat)
    case atStart => exact ⟨0, 0, by omega, rfl, rfl, by simp, by omega, Below.refl _ _⟩
    case round =>
      obtain ⟨i, y, hi, rfl, rfl, hsm, hy, hbw⟩ := hrel
      have HSM := Lib.hid hsm; have HBW := Lib.hid hbw
      by_cases hin : i < l.length
      · have hbr : Below W.heap.size W wr := HB.out.trans (hbw.mono hWw)
        obtain ⟨ad, rfl, A', c', g1, g5⟩ := H.out.at_ i hin
        have K : ∀ a u, W.cell? a = some u → wr.cell? a = some u := fun a u hu => (World.cell?_of_block (hbr.block _ (World.block_lt_of_cell? W _ hu))).trans hu
        replace g1 := K _ _ g1
        have hsd := Ep.jsum_drop l i hin
        have hbf := HBD.out l[i] (List.getElem_mem hin)
        generalize l[i] = x at *
        have hsx := sz_u64 x.length (by omega)
        have hyd : y + sz x.length + x.length + Ep.jsum (l.drop (i + 1)) = Ep.jsum l := by omega
        have HYD := Lib.hid hyd
        have hwx : IntKind.u64.wrap (x.length : Int) = (x.length : Int) := by rw [IntKind.wrap_u64]; omega
        have SZ := Lib.hid (fun w => Nm.rsize x.length (by omega) w)
        have hC : ∀ u : Held (Past wr), u.w.cell? (ad.add i) = some (.slice A' x.length c') := fun u => (World.cell?_of_block (u.h.block _ (World.block_lt_of_cell? wr _ g1))).trans g1
        have hw1 : IntKind.i64.wrap ((y : Int) + (sz x.length : Int)) = (y : Int) + (sz x.length : Int) := by rw [IntKind.wrap_i64]; omega
        have hw2 : IntKind.i64.wrap ((y : Int) + (sz x.length : Int) + (x.length : Int)) = (y : Int) + (sz x.length : Int) + (x.length : Int) := by rw [IntKind.wrap_i64]; omega
        clear hyd hsm hsd g5 K hbr hbw
        go_upto_region 7 with fail
        clear g1
        refine wp_region_calm (S := Past wr) (by kernel_rfl) (by kernel_rfl) (Below.refl wr.heap.size wr).drew ?_
        intro hN
        repeat (go_big_quiet_step (first | (go_at_call 88; exact calm_call (SZ.out _) (fun w' hs hr => hs.on hr))))
        refine wpQuiet_nil ?_
        intro u
        have hub := HBW.out.trans (Below.mono (show Below wr.heap.size wr u.w from u.h) HBW.out.size)
        have HUB := Lib.hid hub
        generalize sz x.length = z at *
        clear hwx hC hN hw1 hw2 SZ hub
        by_cases hy2 : 4194304 < y + z + x.length
        · have hyz : (4194304 : Int) < (y : Int) + (z : Int) + (x.length : Int) := by omega
          have hE2 := HE.out
          rw [if_pos (by have := HYD.out; omega)] at hE2
          subst hE2
          have hr := HEN.out (by decide)
          subst hr
          clear hy2 HEN HEY HE
          go_wp2_with fail
          go_ret2
          exact ⟨_, rfl, Own.nil _ _ _, HUB.out⟩
        · have hyz : ¬ (4194304 : Int) < (y : Int) + (z : Int) + (x.length : Int) := by omega
          go_wp2_with fail
          go_roundw
          case rel => exact ⟨i + 1, y + z + x.length, by omega, by go_num, by go_num, HYD.out, by omega, HUB.out⟩
          case measure => simp [intOf]; omega
      · obtain rfl : i = l.length := by omega
        have hsm2 := HSM.out
        rw [List.drop_length] at hsm2
        simp only [Ep.jsum] at hsm2
        have hE2 := HE.out
        rw [if_neg (by omega)] at hE2
        subst hE2
        have hr := HEY.out rfl
        have hjl : (Ep.jbytes l).length ≤ 4194304 := by rw [Ep.jbytes_len]; omega
        have HJL := Lib.hid hjl
        subst hr
        have hmk := run_mk0 y (by omega) wr
        obtain ⟨wo, hwo⟩ : ∃ x, x = wr.alloc (.cells (cb (List.replicate y 0)).toArray 5) := ⟨_, rfl⟩
        have ho5 : Own wo w.heap.size 5 (.slice (some ⟨wr.heap.size, 0, none⟩) 0 y) [] := by
          have ha : Pc.Arr wo wr.heap.size 5 (List.replicate y 0) := by rw [hwo]; exact Pc.Arr.new wr _ _
          have := ha.own w.heap.size 0 hbw.size (by simp) (by simp [maxLen]; omega)
          simpa using this
        have hbo : Below w.heap.size w wo := by rw [hwo]; exact hbw.alloc hbw.size _
        have HO5 := Lib.hid ho5; have HBO := Lib.hid hbo
        rw [← hwo] at hmk
        clear hsm2 HEN HEY HE HSM hsm hjl ho5 hbo hwo HBW hbw
        go_wp2_with fail
        clear hmk
        go_loopw [6, 7] (fun s u wr => ∃ (i : Nat) (acc : List UInt8), i ≤ l.length ∧ u = .int .i64 i ∧ Own wr w.heap.size 5 s acc ∧ acc ++ Ep.jbytes (l.drop i) = Ep.jbytes l ∧ Below w.heap.size w wr) (fun _ u _ => l.length - (intOf u).toNat)
        case atStart => exact ⟨0, [], by omega, rfl, HO5.out, by simp, HBO.out⟩
        case round =>
          obtain ⟨i, acc, hi, rfl, ho, hacc, hbw⟩ := hrel
          have HO := Lib.hid ho; have HACC := Lib.hid hacc; have HBW := Lib.hid hbw
          have hal : acc.length ≤ 5000000 := by have := congrArg List.length hacc; have h2 := HJL.out; simp only [List.length_append] at this; omega
          have hbs := hbw.size
          by_cases hin : i < l.length
          · have hbr : Below W.heap.size W wr := HB.out.trans (hbw.mono hWw)
            obtain ⟨ad, rfl, A', c', g1, g5⟩ := H.out.at_ i hin
            have hab : (ad.add i).block < W.heap.size := World.block_lt_of_cell? W _ g1
            have K : ∀ w', Below w.heap.size w w' → w'.cell? (ad.add i) = some (.slice A' l[i].length c') := fun w' h' => (World.cell?_of_block ((HB.out.trans (h'.mono hWw)).block _ hab)).trans g1
            have g1' := K wr hbw
            have hst := Ep.jbytes_drop l i hin
            have hbf := HBD.out l[i] (List.getElem_mem hin)
            generalize l[i] = x at *
            have hwx : IntKind.u64.wrap (x.length : Int) = (x.length : Int) := by rw [IntKind.wrap_u64]; omega
            have hsx := sz_u64 x.length (by omega)
            unfold sz at hsx
            have hnx : acc ++ Nz.num x.length ++ x ++ Ep.jbytes (l.drop (i + 1)) = Ep.jbytes l := by rw [List.append_assoc, List.append_assoc, ← List.append_assoc (Nz.num x.length), ← hst]; exact hacc
            have PU := Lib.hid (Nm.put (.slice none 0 0) [] x.length (by omega) wr (Rd.nil _) (by simp))
            have hrd : ∀ w', Below w.heap.size w w' → Rd w' (.slice A' x.length c') x := fun w' h' => Vu.rd_keep (HB.out.trans (h'.mono hWw)).block g5
            have HRD := Lib.hid hrd; have HNX := Lib.hid hnx; have HK := Lib.hid K
            clear hrd hnx hst g5 hbr hbw K hacc ho g1
            go_wp2_with (go_at_call 9999)
            go_at_call 106
            refine PU.out.mono ?_
            rintro _ w3 ⟨v3, rfl, ho3, b3⟩
            rw [List.nil_append] at ho3
            have hb3 := HBW.out.trans (b3.mono hbs)
            have hs3 := b3.size
            have HO3 := Lib.hid (HO.out.below b3); have HR3 := Lib.hid ho3.rd; have HB3 := Lib.hid hb3
            clear ho3 b3 hb3 hwx g1'
            have hl3 : (acc ++ Nz.num x.length).length ≤ 5000020 := by simp; omega
            go_wp2_with (at_builtin
                         refine wp_app (.tmp 42) (.tmp 49) Nm.u8 rfl rfl rfl rfl HO3.out HR3.out (by omega) (by omega) ?_
                         intro v5 w5 ho5 hg5 hc5
                         have hb5 := HB3.out.trans (below_grown (Below.refl _ _) HO3.out (Nat.le_refl _) (by omega) hg5)
                         have g5' := HK.out w5 hb5
                         have hs5 := hb5.size
                         generalize acc ++ Nz.num x.length = a3 at ho5 HNX hl3
                         obtain ⟨A5, c5, rfl⟩ := ho5.slice
                         obtain ⟨v7, w7, hap7, ho7, gr7⟩ := run_appX Nm.u8 23 ho5 (HRD.out w5 hb5) (by omega) (by omega)
                         have HB7 := Lib.hid (hb5.trans (gr7.toBelow ho5 (by omega)))
                         have HO7 := Lib.hid ho7
                         clear hg5 hc5 ho5 hb5 ho7 gr7)
            go_wp2_with fail
            go_roundw
            case rel => exact ⟨i + 1, _, by omega, by go_num, HO7.out, HNX.out, HB7.out⟩
            case measure => simp [intOf]; omega
          · obtain rfl : i = l.length := by omega
            have hac2 := HACC.out
            rw [List.drop_length] at hac2
            simp only [Ep.jbytes, List.append_nil] at hac2
            subst hac2
            obtain ⟨A5, c5, rfl⟩ := ho.slice
            clear HACC hacc ho
            go_wp2_with fail
            go_ret2
            exact ⟨_, rfl, HO.out, HBW.out⟩
end Go.Proofs.YtinngljphjdpoaaGreatDoor.Eu
