/- same, hand, left, turned. -/
import Derived.Test.YtinngljphjdpoaaGreatDoorJAp
import Derived.Test.YtinngljphjdpoaaGreatDoorJHr
namespace Go.Proofs.YtinngljphjdpoaaGreatDoor.Hd
open Go Go.RowKit Go.Proofs.YtinngljphjdpoaaGreatDoor.Pa Go.Proofs.YtinngljphjdpoaaGreatDoor.Pb Go.Proofs.YtinngljphjdpoaaGreatDoor.Pc Go.Proofs.YtinngljphjdpoaaGreatDoor.Pf Go.Proofs.YtinngljphjdpoaaGreatDoor.Ap
set_option linter.unusedVariables false
set_option linter.unusedSimpArgs false

theorem same {v x : Value} {l m : List UInt8} {w : World} (hv : Rd w v l) (hx : Rd w x m) : Calls Tryz.prog 23 #[v, x] w fun e w' => e = .returned (.bool (decide (l = m))) ∧ w = w' := by
  have h1 := run_str u8 Tryz.underlying5 Tryz.underlying9 hv
  have h2 := run_str u8 Tryz.underlying5 Tryz.underlying9 hx
  go_enter Tryz.func23, Tryz.ntmps23
  go_wp2
  go_ret
  exact ⟨ret_bool (by rw [Bool.eq_iff_iff]; simp), rfl⟩

def marks (n : Nat) : List UInt8 := (List.range n).map fun i => UInt8.ofNat (100 + i)
@[simp] theorem marks_length (n : Nat) : (marks n).length = n := by simp [marks]
theorem marks_succ (n : Nat) : marks (n + 1) = marks n ++ [UInt8.ofNat (100 + n)] := by simp [marks, List.range_succ]
theorem marks_get (n i : Nat) (h : i < n) : (marks n)[i]'(by simpa using h) = UInt8.ofNat (100 + i) := by simp [marks]

set_option maxRecDepth 100000 in
theorem hand {v : Value} {b : List UInt8} (w : World) (hv : Rd w v b) (hb : b.length ≤ 140737488351232) :
    Calls Tryz.prog 38 #[v] w fun e w' => e = .returned (.slice (some ⟨w.heap.size, 0, none⟩) (b.length + 80) (b.length + 80)) ∧ Arr w' w.heap.size 5 (b ++ marks 80) ∧ Below w.heap.size w w' := by
  obtain ⟨A, c, rfl, -⟩ := id hv
  have HV := Lib.hid hv; clear hv
  have hmk : ∀ W, (Instr.makeSlice 23 (.int .i64 ((b.length : Int) + 80)) (.int .i64 ((b.length : Int) + 80))).run Tryz.prog W = .ok (.slice (some ⟨W.heap.size, 0, none⟩) (b.length + 80) (b.length + 80)) (W.alloc (.cells (cb (List.replicate (b.length + 80) 0)).toArray 5)) := by
    intro W
    simpa using run_mk u8 (b.length + 80) (by omega) W
  obtain ⟨w1, hcp, ha1, hc1⟩ := run_cp' (dc := b.length + 80) (o := 0) (dl := b.length + 80) u8 3 (Arr.new w 5 (List.replicate (b.length + 80) 0)) (HV.out.below ((Below.refl _ _).alloc (Nat.le_refl _) _)) (by simp)
  have hl1 : (over (List.replicate (b.length + 80) (0 : UInt8)) 0 (b.take (b.length + 80))).length = b.length + 80 := by rw [over_length _ _ _ (by simp)]; simp
  have ht1 : (over (List.replicate (b.length + 80) (0 : UInt8)) 0 (b.take (b.length + 80))).take b.length = b := by simp [over, List.take_of_length_le]
  generalize over (List.replicate (b.length + 80) (0 : UInt8)) 0 (b.take (b.length + 80)) = l1 at ha1 hl1 ht1
  have hb1 : Below w.heap.size w w1 := hc1.below ((Below.refl _ _).alloc (Nat.le_refl _) _) (by intro k e; omega) (by simp)
  have HA := Lib.hid ha1; clear ha1
  go_enter Tryz.func38, Tryz.ntmps38
  go_wp2
  go_loopw [4] (fun s wr => ∃ (i : Nat) (l : List UInt8), i ≤ 80 ∧ s = .int .i64 i ∧ Arr wr w.heap.size 5 l ∧ l.length = b.length + 80 ∧ l.take (b.length + i) = b ++ marks i ∧ Below w.heap.size w wr) (fun s _ => 80 - (intOf s).toNat)
  case atStart => exact ⟨0, l1, by omega, rfl, HA.out, hl1, by simpa [marks] using ht1, hb1⟩
  case round =>
    obtain ⟨i, l, hi, rfl, ha, hll, hlt, hbl⟩ := hrel
    by_cases hi8 : i < 80
    · have hcell := ha.cellAt (b.length + i) (by omega)
      have hfr := ha.frozen (b.length + i)
      have hst := ha.set (b.length + i) (UInt8.ofNat (100 + i)) (y := 100 + (i : Int)) (by rw [← of_nat8 (by omega)]; omega)
      have HST := Lib.hid hst; have HA := Lib.hid ha; have HLT := Lib.hid hlt; clear hst ha hlt
      go_wp2
      go_roundw
      case rel => exact ⟨i + 1, l.set (b.length + i) (UInt8.ofNat (100 + i)), by omega, by go_num, HST.out, by simpa using hll, by rw [← Nat.add_assoc, take_set_succ _ _ _ (by omega), HLT.out, marks_succ]; simp, hbl.setCell (Nat.le_refl _) _⟩
      case measure => simp [intOf]; omega
    · have hi80 : i = 80 := by omega
      subst hi80
      go_wp2
      go_ret
      refine ⟨rfl, ?_, hbl⟩
      rw [← hlt, List.take_of_length_le (by omega)]
      exact ha

set_option maxRecDepth 100000 in
theorem left {g n : Nat} {x : Value} {b : List UInt8} (w : World) (hn : n = b.length + 80) (ha : Arr w g 5 (b ++ marks 80)) (hx : Rd w x b) (hb : b.length ≤ 140737488351232) :
    Calls Tryz.prog 42 #[.slice (some ⟨g, 0, none⟩) n n, x] w fun e w' => e = .returned (.bool true) ∧ w = w' := by
  subst hn
  obtain ⟨A, c, rfl, -⟩ := id hx
  have HX := Lib.hid hx; have HA := Lib.hid ha; clear hx ha
  go_enter Tryz.func42, Tryz.ntmps42
  go_wp2
  go_loop [5] (fun s => ∃ (i : Nat), i ≤ 80 ∧ s = .int .i64 i) (fun s => 80 - (intOf s).toNat)
  case atStart => exact ⟨0, by omega, rfl⟩
  case round =>
    obtain ⟨i, hi, rfl⟩ := hrel
    by_cases hi8 : i < 80
    · have hcell : w.cell? ⟨g, b.length + i, none⟩ = some (.int .u8 (100 + (i : Int))) := by
        rw [HA.out.cellAt (b.length + i) (by simp; omega)]
        rw [List.getElem_append_right (by omega)]
        congr 2
        rw [show (marks 80)[b.length + i - b.length]'(by simp; omega) = UInt8.ofNat (100 + i) from by rw [marks_get _ _ (by omega)]; congr 1; omega, ← of_nat8 (by omega)]
        omega
      have hfr := HA.out.frozen (b.length + i)
      go_wp2
      go_round
      case rel => exact ⟨i + 1, by omega, by go_num⟩
      case measure => simp [intOf]; omega
    · have hrd := HA.out.rd 0 b.length (b.length + 80) (by simp) (by omega) (by simp [maxLen]; omega)
      rw [List.drop_zero, List.take_left] at hrd
      have HRD := Lib.hid hrd; clear hrd
      go_wp2_with (go_at_call 23; refine (same HRD.out HX.out).mono ?_; rintro e w1 ⟨rfl, rfl⟩)
      go_ret
      exact ⟨ret_bool (by simp), rfl⟩

set_option maxRecDepth 100000 in
theorem turned {g n : Nat} {x : Value} {a b : List UInt8} (w : World) (hn : n = b.length + 80) (ha : Arr w g 5 (a ++ marks 80)) (hab : a.length = b.length) (hx : Rd w x b) (hb : b.length ≤ 140737488351232) :
    Calls Tryz.prog 43 #[.slice (some ⟨g, 0, none⟩) n n, x] w fun e w' => ∃ v, e = .returned v ∧ Own w' w.heap.size 5 v b.reverse ∧ Arr w' g 5 (b.reverse ++ marks 80) ∧ Chg (fun k => k = g) w w' := by
  subst hn
  obtain ⟨A, c, rfl, -⟩ := id hx
  have hmk : ∀ W, (Instr.makeSlice 23 (.int .i64 (b.length : Int)) (.int .i64 (b.length : Int))).run Tryz.prog W = .ok (.slice (some ⟨W.heap.size, 0, none⟩) b.length b.length) (W.alloc (.cells (cb (List.replicate b.length 0)).toArray 5)) := fun W => run_mk u8 b.length (by omega) W
  have HX := Lib.hid hx; have HA := Lib.hid ha; clear hx ha
  have hgl := HA.out.lt
  go_enter Tryz.func43, Tryz.ntmps43
  go_wp2
  go_loopw [6] (fun s wr => ∃ (i : Nat) (l : List UInt8), i ≤ b.length ∧ s = .int .i64 i ∧ Arr wr w.heap.size 5 l ∧ l.length = b.length ∧ l.take i = b.reverse.take i ∧ Below w.heap.size w wr) (fun s _ => b.length - (intOf s).toNat)
  case atStart => exact ⟨0, _, by omega, rfl, Arr.new w _ _, by simp, by simp, (Below.refl _ _).alloc (Nat.le_refl _) _⟩
  case round =>
    obtain ⟨i, l, hi, rfl, ha, hll, hlt, hbl⟩ := hrel
    by_cases hib : i < b.length
    · obtain ⟨ad, rfl, hcell⟩ := (HX.out.below hbl).at_ (b.length - 1 - i) (by omega)
      have hj : ((b.length : Int) - 1 - (i : Int)).toNat = b.length - 1 - i := by omega
      have hcell2 := ha.cellAt i (by omega)
      have hfr := ha.frozen i
      have hst := ha.set i b[b.length - 1 - i] rfl
      have HST := Lib.hid hst; have HA2 := Lib.hid ha; have HLT := Lib.hid hlt; clear hst ha hlt
      go_wp2
      go_roundw
      case rel => exact ⟨i + 1, l.set i b[b.length - 1 - i], by omega, by go_num, HST.out, by simpa using hll, by rw [take_set_succ _ _ _ (by omega), HLT.out, List.take_succ_eq_append_getElem (by simpa using hib)]; simp, hbl.setCell (Nat.le_refl _) _⟩
      case measure => simp [intOf]; omega
    · have hl : l = b.reverse := by
        rw [List.take_of_length_le (by omega), List.take_of_length_le (by simp; omega)] at hlt
        exact hlt
      subst hl
      have hrd := ha.rd 0 b.length b.length (by simp) (by omega) (by simp [maxLen]; omega)
      have hrd2 : Rd wr (.slice (some ⟨w.heap.size, 0, none⟩) b.length b.length) b.reverse := by simpa [List.take_of_length_le] using hrd
      obtain ⟨w1, hcp, ha1, hc1⟩ := run_cp' (dc := b.length + 80) (o := 0) (dl := b.length + 80) u8 3 (HA.out.belowB hbl hgl) hrd2 (by simp; omega)
      have ha2 := ha.chg hc1 (by omega)
      have how := ha2.own w.heap.size b.length (Nat.le_refl _) (by simp) (by simp [maxLen]; omega)
      have hfin : over (a ++ marks 80) 0 (b.reverse.take (b.length + 80)) = b.reverse ++ marks 80 := by
        simp [over, List.take_of_length_le, ← hab]
      rw [hfin] at ha1
      have H1 := Lib.hid ha1; have H2 := Lib.hid how; clear ha1 how hrd hrd2 ha ha2
      go_wp2
      go_ret
      exact ⟨_, rfl, by simpa [List.take_of_length_le] using H2.out, H1.out, (Chg.of_below hbl).trans hc1⟩
end Go.Proofs.YtinngljphjdpoaaGreatDoor.Hd
/- The law EnvelopeHeaders, walked. -/
namespace Go.Proofs.YtinngljphjdpoaaGreatDoor.He
open Go Go.RowKit Go.Proofs.YtinngljphjdpoaaGreatDoor.Pa Go.Proofs.YtinngljphjdpoaaGreatDoor.Pb Go.Proofs.YtinngljphjdpoaaGreatDoor.Pc Go.Proofs.YtinngljphjdpoaaGreatDoor.Pf Go.Proofs.YtinngljphjdpoaaGreatDoor.Ap Go.Proofs.YtinngljphjdpoaaGreatDoor.Hd Go.Proofs.YtinngljphjdpoaaGreatDoor.Ty Go.Proofs.YtinngljphjdpoaaGreatDoor.Ez Go.Proofs.YtinngljphjdpoaaGreatDoor.Hc Go.Proofs.YtinngljphjdpoaaGreatDoor.Hr
set_option linter.unusedVariables false
set_option linter.unusedSimpArgs false
theorem same_eq {v x : Value} {l : List UInt8} {w : World} (hv : Rd w v l) (hx : Rd w x l) : Calls Tryz.prog 23 #[v, x] w fun e w' => e = .returned (.bool true) ∧ w = w' :=
  (same hv hx).mono fun e w' ⟨h1, h2⟩ => ⟨by rw [h1]; simp, h2⟩
theorem hpk_len (k : Vector UInt8 32) (p n : Nat) : (hpk k p n).length ≤ 4194304 := rr_len _ _ _ _
set_option maxHeartbeats 2000000 in
set_option maxRecDepth 100000 in
theorem walk (h : Header) (hp0 : (Lit.int .u32 h.Prev).wf = true) (hn0 : (Lit.int .u32 h.N).wf = true) (W : World) (hT : Vh.TabU W) :
    Calls Tryz.prog 5 #[.agg h.c] W fun e w' => e = .returned (.bool true) ∧ Below W.heap.size W w' := by
  obtain ⟨k, p', n'⟩ := h
  obtain ⟨p, rfl, hp32⟩ : ∃ p : Nat, p' = (p : Int) ∧ p < 4294967296 := by
    have e1 : IntKind.u32.min = 0 := by decide
    have e2 : IntKind.u32.max = 4294967295 := by decide
    simp [Lit.wf, e1, e2] at hp0
    refine ⟨p'.toNat, ?_, ?_⟩ <;> omega
  obtain ⟨n, rfl, hn32⟩ : ∃ n : Nat, n' = (n : Int) ∧ n < 4294967296 := by
    have e1 : IntKind.u32.min = 0 := by decide
    have e2 : IntKind.u32.max = 4294967295 := by decide
    simp [Lit.wf, e1, e2] at hn0
    refine ⟨n'.toNat, ?_, ?_⟩ <;> omega
  clear hp0 hn0
  obtain ⟨w1, hw1⟩ : ∃ y, y = W.alloc (.cells (Header.c ⟨k, p, n⟩) 57) := ⟨_, rfl⟩
  have hb1 : Below W.heap.size W w1 := by rw [hw1]; exact Ea.vb _ _
  have hg1 : hp w1 W.heap.size = some (.cells (Header.c ⟨k, p, n⟩) 57 (0, 0)) := by rw [hw1]; exact hp_alloc_at _ _ rfl
  have HT := Lib.hid (fun w (hb : Below W.heap.size W w) => hT.below hb)
  have PP := Lib.hid (fun w (hb : Below W.heap.size W w) => packP k p n hp32 hn32 w (hT.below hb))
  have PR := Lib.hid (packR k p n hp32 hn32)
  have LEN := Lib.hid (hpk_len k p n)
  have HB1 := Lib.hid hb1; have HG1 := Lib.hid hg1
  generalize hpk k p n = R at *
  clear hT hb1 hg1
  go_enter Tryz.func5, Tryz.ntmps5
  go_upto_region 1 with fail
  rw [← hw1]
  clear hw1
  have hg1 := HG1.out
  go_wp2_with (go_at_call 9999)
  go_at_call 21
  refine (PP.out w1 HB1.out).mono ?_
  rintro _ w2 ⟨Aa, ca, rfl, oa, b2⟩
  have hb2 := HB1.out.trans (b2.mono HB1.out.size)
  have HOA := Lib.hid oa; have HB2 := Lib.hid hb2; have B2 := Lib.hid b2
  have hg2 := Hx.below_hp hg1 b2
  clear hg1 oa hb2 b2
  go_wp2_with (go_at_call 9999)
  go_at_call 21
  refine (PP.out w2 HB2.out).mono ?_
  rintro _ w3 ⟨Ab, cb', rfl, ob, b3⟩
  have hb3 := HB2.out.trans (b3.mono HB2.out.size)
  have HOB := Lib.hid ob; have HB3 := Lib.hid hb3; have B3 := Lib.hid b3
  have hg3 := Hx.below_hp hg2 b3
  clear hg2 ob hb3 b3
  go_wp2_with (go_at_call 9999)
  go_at_call 22
  refine (PR.out w3).mono ?_
  rintro _ w4 ⟨Ax, cx, rfl, ox, b4⟩
  clear hg3
  have oa4 := (HOA.out.below B3.out).below b4
  have ob4 := HOB.out.below b4
  have b24 : Below w2.heap.size w2 w4 := B3.out.trans (b4.mono B3.out.size)
  have b14 : Below w1.heap.size w1 w4 := B2.out.trans (b24.mono B2.out.size)
  have hb4 := HB1.out.trans (b14.mono HB1.out.size)
  have s12 := B2.out.size
  have s23 := B3.out.size
  have hlen := LEN.out
  obtain ⟨hF, hI⟩ := two (B := w1.heap.size) (m1 := w2.heap.size) oa4 (ob4.mono (by omega)) (by omega) (by omega) (fun q hq => (HOA.out.lt q hq).2) (fun q hq => (HOB.out.lt q hq).1)
  have HF := Lib.hid hF; have HI := Lib.hid hI; have HA4 := Lib.hid oa4; have HB4 := Lib.hid ob4; have HX4 := Lib.hid ox; have HBW := Lib.hid hb4; have B14 := Lib.hid b14
  have hS : ∀ q, S [.slice Aa R.length ca, .slice Ab R.length cb'] q → w1.heap.size ≤ q := by
    rintro q ⟨u, hu, hk⟩
    simp only [List.mem_cons, List.not_mem_nil, or_false] at hu
    rcases hu with rfl | rfl
    · exact (oa4.lt q hk).1
    · have := (ob4.lt q hk).1; omega
  have HS := Lib.hid hS
  clear hF hI oa4 ob4 ox hb4 b24 b14 s12 s23 hlen b4 hS
  go_wp2_with (go_at_call 9999)
  go_at_call 23
  refine (same_eq HA4.out.rd HX4.out.rd).mono ?_
  rintro e w7 ⟨rfl, rfl⟩
  go_wp2_with (go_at_call 9999)
  go_at_call 23
  refine (same_eq HB4.out.rd HX4.out.rd).mono ?_
  rintro e w7 ⟨rfl, rfl⟩
  go_wp2_with (go_at_call 9999)
  go_at_call 24
  refine (apart w4.heap.size _ _ w1.heap.size HF.out HI.out (by have := B14.out.size; simp; omega)).mono ?_
  rintro e w8 ⟨rfl, hch⟩
  have c8 : Below W.heap.size W w8 := hch.below (HBW.out.trans ((Ea.vb w4 _).mono HBW.out.size)) (fun q hq => by have := HS.out q hq; have := HB1.out.size; omega) (by have := HBW.out.size; simp; omega)
  have C8 := Lib.hid c8; clear c8 hch
  go_wp2_with fail
  go_ret
  exact ⟨rfl, C8.out⟩
end Go.Proofs.YtinngljphjdpoaaGreatDoor.He
