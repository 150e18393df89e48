/- Pad, the program's and the reference's; the law EnvelopePads' walk. -/
import Derived.Test.YthiibkcaodaekaaBl
import Derived.Test.YthiibkcaodaekaaHd
import Derived.Lib.SlBytesConst
namespace Go.Proofs.Ythiibkcaodaekaa.Pad
open Go Go.RowKit Go.Proofs.Ythiibkcaodaekaa.Pa Go.Proofs.Ythiibkcaodaekaa.Pb Go.Proofs.Ythiibkcaodaekaa.Pc Go.Proofs.Ythiibkcaodaekaa.Pf Go.Proofs.Ythiibkcaodaekaa.Ap Go.Proofs.Ythiibkcaodaekaa.Hd Go.Proofs.Ythiibkcaodaekaa.Bk Go.Proofs.Ythiibkcaodaekaa.Br Go.Proofs.Ythiibkcaodaekaa.Bl
set_option linter.unusedVariables false
set_option linter.unusedSimpArgs false

def le4 (n : Nat) : List UInt8 := [UInt8.ofNat (n % 256), UInt8.ofNat (n / 256 % 256), UInt8.ofNat (n / 65536 % 256), UInt8.ofNat (n / 16777216 % 256)]
/-- What a text is padded to. -/
def pad (v : Int) (l : List UInt8) : List UInt8 :=
  if (bucket v (l.length : Int)).2 = 0 then over (le4 l.length ++ List.replicate ((bucket v (l.length : Int)).1.toNat - 4) 0) 4 (l.take ((bucket v (l.length : Int)).1.toNat - 4)) else []
theorem set_head (A : List UInt8) (k : Nat) (x : UInt8) : (A ++ List.replicate (k + 1) (0 : UInt8)).set A.length x = (A ++ [x]) ++ List.replicate k 0 := by
  rw [List.set_append_right _ _ (by omega)]
  simp [List.replicate_succ]

theorem set4 (A : List UInt8) (k b : Nat) (hk : k < A.length) (hb : k < b) : (A.take k ++ List.replicate (b - k) (0 : UInt8)).set k A[k] = A.take (k + 1) ++ List.replicate (b - (k + 1)) 0 := by
  have h1 : b - k = (b - (k + 1)) + 1 := by omega
  have h2 : (A.take k).length = k := by simp; omega
  have h3 := set_head (A.take k) (b - (k + 1)) A[k]
  rw [h2] at h3
  rw [h1, h3, List.take_succ_eq_append_getElem hk]
theorem le4_int0 (n : Nat) : (n : Int) % 256 = (((le4 n)[0]'(by simp [le4])).toNat : Int) := by simp only [le4, List.getElem_cons_zero]; rw [← of_nat8 (by omega)]; omega
theorem le4_int1 (n : Nat) : (n : Int) / 256 % 256 = (((le4 n)[1]'(by simp [le4])).toNat : Int) := by simp only [le4, List.getElem_cons_zero, List.getElem_cons_succ]; rw [← of_nat8 (by omega)]; omega
theorem le4_int2 (n : Nat) : (n : Int) / 65536 % 256 = (((le4 n)[2]'(by simp [le4])).toNat : Int) := by simp only [le4, List.getElem_cons_zero, List.getElem_cons_succ]; rw [← of_nat8 (by omega)]; omega
theorem le4_int3 (n : Nat) : (n : Int) / 16777216 % 256 = (((le4 n)[3]'(by simp [le4])).toNat : Int) := by simp only [le4, List.getElem_cons_zero, List.getElem_cons_succ]; rw [← of_nat8 (by omega)]; omega

set_option maxRecDepth 100000 in
theorem pad_any (ver : Int) {v : Value} {l : List UInt8} (w : World) (hv : Rd w v l) (hl : l.length ≤ 140737488351232) :
    Calls Try.prog 7 #[.int .i64 ver, v] w fun e w' => ∃ v', e = .returned (.tuple #[v', .int .i64 (bucket ver (l.length : Int)).2]) ∧ Own w' w.heap.size 5 v' (pad ver l) ∧ Below w.heap.size w w' := by
  obtain ⟨A, c, rfl, -⟩ := id hv
  by_cases h : (bucket ver (l.length : Int)).2 = 0
  · obtain ⟨h1, h2⟩ := bucket_bd _ _ h
    obtain ⟨b, hb⟩ := Int.eq_ofNat_of_zero_le (show 0 ≤ (bucket ver (l.length : Int)).1 by omega)
    have hp : pad ver l = over (le4 l.length ++ List.replicate (b - 4) 0) 4 (l.take (b - 4)) := by unfold pad; rw [if_pos h, hb]; rfl
    rw [hb] at h1 h2
    have hmk : ∀ W, (Instr.makeSlice 22 (.int .i64 (b : Int)) (.int .i64 (b : Int))).run Try.prog W = .ok (.slice (some ⟨W.heap.size, 0, none⟩) b b) (W.alloc (.cells (cb (List.replicate b 0)).toArray 5)) := fun W => run_mk u8 b (by omega) W
    have HP := Lib.hid hp; have HV := Lib.hid hv; clear hp hv
    go_enter Try.func7, Try.ntmps7
    go_wp2_with (go_at_call 13; refine (bucket_any _ _ _).mono ?_; rintro e w1 ⟨rfl, hb1⟩)
    go_loopw [22] (fun s wr => ∃ (i : Nat), i ≤ 4 ∧ s = .int .i64 i ∧ Arr wr w1.heap.size 5 ((le4 l.length).take i ++ List.replicate (b - i) 0) ∧ Below w.heap.size w wr) (fun s _ => 4 - (intOf s).toNat)
    case atStart => exact ⟨0, by omega, rfl, by simpa using Arr.new w1 _ _, hb1.alloc hb1.size _⟩
    case round =>
      obtain ⟨i, hi, rfl, ha, hbl⟩ := hrel
      have hal : ((le4 l.length).take i ++ List.replicate (b - i) 0).length = b := by simp [le4]; omega
      by_cases hi4 : i < 4
      · have hcell := ha.cellAt i (by omega)
        have hfr := ha.frozen i
        have HA := Lib.hid ha; clear ha
        have hbs := hb1.size
        obtain rfl | rfl | rfl | rfl : i = 0 ∨ i = 1 ∨ i = 2 ∨ i = 3 := by omega
        · go_wp2
          go_roundw
          case rel => exact ⟨1, by omega, rfl, by have := HA.out.set 0 _ (le4_int0 l.length); rw [set4 (le4 l.length) 0 b (by simp [le4]) (by omega)] at this; exact this, hbl.setCell hbs _⟩
          case measure => simp [intOf]
        · go_wp2
          go_roundw
          case rel => exact ⟨2, by omega, rfl, by have := HA.out.set 1 _ (le4_int1 l.length); rw [set4 (le4 l.length) 1 b (by simp [le4]) (by omega)] at this; exact this, hbl.setCell hbs _⟩
          case measure => simp [intOf]
        · go_wp2
          go_roundw
          case rel => exact ⟨3, by omega, rfl, by have := HA.out.set 2 _ (le4_int2 l.length); rw [set4 (le4 l.length) 2 b (by simp [le4]) (by omega)] at this; exact this, hbl.setCell hbs _⟩
          case measure => simp [intOf]
        · go_wp2
          go_roundw
          case rel => exact ⟨4, by omega, rfl, by have := HA.out.set 3 _ (le4_int3 l.length); rw [set4 (le4 l.length) 3 b (by simp [le4]) (by omega)] at this; exact this, hbl.setCell hbs _⟩
          case measure => simp [intOf]
      · obtain rfl : i = 4 := by omega
        obtain ⟨w2, hcp, ha2, hc2⟩ := run_cp' (dc := b - 4) (o := 4) (dl := b - 4) u8 3 ha (HV.out.below (hbl.mono (Nat.le_refl _))) (by simp [le4]; omega)
        have how := ha2.own w.heap.size b hb1.size (by rw [over_length _ _ _ (by simp [le4]; omega)]; omega) (by rw [over_length _ _ _ (by simp [le4]; omega), hal]; simp [maxLen]; omega)
        rw [over_length _ _ _ (by simp [le4]; omega), hal, List.take_of_length_le (by rw [over_length _ _ _ (by simp [le4]; omega)]; omega)] at how
        have hbf : Below w.heap.size w w2 := hc2.below hbl (by intro k e; have := hb1.size; omega) hbl.size
        have HO := Lib.hid how; clear how ha ha2
        go_wp2
        go_ret2
        rw [HP.out]
        refine ⟨_, ?_, HO.out, hbf⟩
        first | rfl | (rw [h]; rfl)
  · have hp : pad ver l = [] := by unfold pad; rw [if_neg h]
    rw [hp]
    have hn : ((bucket ver (l.length : Int)).2 != 0) = true := by simpa using h
    have HV := Lib.hid hv; clear hv hp
    go_enter Try.func7, Try.ntmps7
    go_wp2_with (go_at_call 13; refine (bucket_any _ _ _).mono ?_; rintro e w1 ⟨rfl, hb1⟩)
    go_ret2
    exact ⟨_, rfl, Own.nil _ _ _, hb1⟩
set_option maxRecDepth 100000 in
theorem rpad (ver : Int) {v : Value} {l : List UInt8} (w : World) (hv : Rd w v l) (hl : l.length ≤ 140737488351232) :
    Calls Try.prog 8 #[.int .i64 ver, v] w fun e w' => ∃ v', e = .returned (.tuple #[v', .int .i64 (bucket ver (l.length : Int)).2]) ∧ Own w' w.heap.size 5 v' (pad ver l) ∧ Below w.heap.size w w' := by
  obtain ⟨A, c, rfl, -⟩ := id hv
  by_cases h : (bucket ver (l.length : Int)).2 = 0
  · obtain ⟨h1, h2⟩ := bucket_bd _ _ h
    obtain ⟨b, hb⟩ := Int.eq_ofNat_of_zero_le (show 0 ≤ (bucket ver (l.length : Int)).1 by omega)
    have hp : pad ver l = over (le4 l.length ++ List.replicate (b - 4) 0) 4 (l.take (b - 4)) := by unfold pad; rw [if_pos h, hb]; rfl
    rw [hb] at h1 h2
    have hmk : ∀ W, (Instr.makeSlice 22 (.int .i64 (b : Int)) (.int .i64 (b : Int))).run Try.prog W = .ok (.slice (some ⟨W.heap.size, 0, none⟩) b b) (W.alloc (.cells (cb (List.replicate b 0)).toArray 5)) := fun W => run_mk u8 b (by omega) W
    have HP := Lib.hid hp; have HV := Lib.hid hv; clear hp hv
    go_enter Try.func8, Try.ntmps8
    go_wp2_with (go_at_call 14; refine (rbucket _ _ _).mono ?_; rintro e w1 ⟨rfl, rfl⟩)
    go_loopw [9, 10] (fun m s wr => ∃ (i : Nat), i ≤ 4 ∧ s = .int .i64 i ∧ (i = 0 ∧ m = .int .i64 l.length ∨ i = 1 ∧ m = .int .i64 ((l.length : Int) / 256) ∨ i = 2 ∧ m = .int .i64 ((l.length : Int) / 65536) ∨ i = 3 ∧ m = .int .i64 ((l.length : Int) / 16777216) ∨ i = 4) ∧ Arr wr w.heap.size 5 ((le4 l.length).take i ++ List.replicate (b - i) 0) ∧ Below w.heap.size w wr) (fun _ s _ => 4 - (intOf s).toNat)
    case atStart => exact ⟨0, by omega, rfl, .inl ⟨rfl, rfl⟩, by simpa using Arr.new w _ _, (Below.refl _ _).alloc (Nat.le_refl _) _⟩
    case round =>
      obtain ⟨i, hi, rfl, hm, ha, hbl⟩ := hrel
      have hal : ((le4 l.length).take i ++ List.replicate (b - i) 0).length = b := by simp [le4]; omega
      by_cases hi4 : i < 4
      · have hcell := ha.cellAt i (by omega)
        have hfr := ha.frozen i
        have HA := Lib.hid ha; clear ha
        rcases hm with ⟨rfl, rfl⟩ | ⟨rfl, rfl⟩ | ⟨rfl, rfl⟩ | ⟨rfl, rfl⟩ | rfl
        · go_wp2
          go_roundw
          case rel => exact ⟨1, by omega, rfl, .inr (.inl ⟨rfl, rfl⟩), by have := HA.out.set 0 _ (le4_int0 l.length); rw [set4 (le4 l.length) 0 b (by simp [le4]) (by omega)] at this; exact this, hbl.setCell (Nat.le_refl _) _⟩
          case measure => simp [intOf]
        · go_wp2
          go_roundw
          case rel => exact ⟨2, by omega, rfl, .inr (.inr (.inl ⟨rfl, by go_num⟩)), by have := HA.out.set 1 _ (le4_int1 l.length); rw [set4 (le4 l.length) 1 b (by simp [le4]) (by omega)] at this; exact this, hbl.setCell (Nat.le_refl _) _⟩
          case measure => simp [intOf]
        · go_wp2
          go_roundw
          case rel => exact ⟨3, by omega, rfl, .inr (.inr (.inr (.inl ⟨rfl, by go_num⟩))), by have := HA.out.set 2 _ (le4_int2 l.length); rw [set4 (le4 l.length) 2 b (by simp [le4]) (by omega)] at this; exact this, hbl.setCell (Nat.le_refl _) _⟩
          case measure => simp [intOf]
        · go_wp2
          go_roundw
          case rel => exact ⟨4, by omega, rfl, .inr (.inr (.inr (.inr rfl))), by have := HA.out.set 3 _ (le4_int3 l.length); rw [set4 (le4 l.length) 3 b (by simp [le4]) (by omega)] at this; exact this, hbl.setCell (Nat.le_refl _) _⟩
          case measure => simp [intOf]
        · omega
      · obtain rfl : i = 4 := by omega
        obtain ⟨w2, hcp, ha2, hc2⟩ := run_cp' (dc := b - 4) (o := 4) (dl := b - 4) u8 3 ha (HV.out.below (hbl.mono (Nat.le_refl _))) (by simp [le4]; omega)
        have how := ha2.own w.heap.size b (Nat.le_refl _) (by rw [over_length _ _ _ (by simp [le4]; omega)]; omega) (by rw [over_length _ _ _ (by simp [le4]; omega), hal]; simp [maxLen]; omega)
        rw [over_length _ _ _ (by simp [le4]; omega), hal, List.take_of_length_le (by rw [over_length _ _ _ (by simp [le4]; omega)]; omega)] at how
        have hbf : Below w.heap.size w w2 := hc2.below hbl (by intro k e; omega) hbl.size
        have HO := Lib.hid how; clear how ha ha2
        go_wp2
        go_ret2
        rw [HP.out]
        refine ⟨_, ?_, HO.out, hbf⟩
        first | rfl | (rw [h]; rfl)
  · have hp : pad ver l = [] := by unfold pad; rw [if_neg h]
    rw [hp]
    have hn : ((bucket ver (l.length : Int)).2 != 0) = true := by simpa using h
    have HV := Lib.hid hv; clear hv hp
    go_enter Try.func8, Try.ntmps8
    go_wp2_with (go_at_call 14; refine (rbucket _ _ _).mono ?_; rintro e w1 ⟨rfl, rfl⟩)
    go_ret2
    exact ⟨_, rfl, Own.nil _ _ _, Below.refl _ _⟩

theorem pad_len (v : Int) (l : List UInt8) : (pad v l).length ≤ 4194304 := by
  unfold pad
  split
  · rename_i h
    obtain ⟨h1, h2⟩ := bucket_bd _ _ h
    rw [over_length _ _ _ (by simp [le4]; omega)]
    simp [le4]; omega
  · simp
theorem same_eq {v x : Value} {l : List UInt8} {w : World} (hv : Rd w v l) (hx : Rd w x l) : Calls Try.prog 9 #[v, x] w fun e w' => e = .returned (.bool true) ∧ w = w' :=
  (same hv hx).mono fun e w' ⟨h1, h2⟩ => ⟨by rw [h1]; simp, h2⟩
def other : List UInt8 := [111, 116, 104, 101, 114]
theorem rd_other (w : World) : Rd (w.alloc (.cells #[.int .u8 111, .int .u8 116, .int .u8 104, .int .u8 101, .int .u8 114] 5 (5, 6))) (.slice (some ⟨w.heap.size, 0, none⟩) 5 5) other := by
  refine ⟨_, 5, rfl, by decide, by decide, fun _ => ⟨_, rfl, fun j u hu => ?_⟩⟩
  have hadd : (⟨w.heap.size, 0, none⟩ : Addr).add j = ⟨w.heap.size, j, none⟩ := by simp [Addr.add]; intro h; omega
  rw [hadd, World.cell?_alloc_mark]
  have : (#[.int .u8 111, .int .u8 116, .int .u8 104, .int .u8 101, .int .u8 114] : Array Value) = (cb other).toArray := rfl
  rw [this]
  simpa using hu

set_option maxRecDepth 100000 in
theorem walk (ver : Int) (hver : (Lit.int .i64 ver).wf = true) {v : Value} {l : List UInt8} {W : World} (hv : Rd W v l) (hl : l.length ≤ 140737488351232) :
    Calls Try.prog 3 #[.int .i64 ver, v] W fun e w' => e = .returned (.bool true) ∧ Below W.heap.size W w' := by
  obtain ⟨A, c, rfl, -⟩ := id hv
  have HV := Lib.hid hv; clear hv
  have hcv : ∀ w : World, (convert 22 22 (.slice (some ⟨w.heap.size, 0, none⟩) 5 5)).run Try.prog (w.alloc (.cells #[.int .u8 111, .int .u8 116, .int .u8 104, .int .u8 101, .int .u8 114] 5)) = .ok (.slice (some ⟨w.heap.size, 0, none⟩) 5 5) (w.alloc (.cells #[.int .u8 111, .int .u8 116, .int .u8 104, .int .u8 101, .int .u8 114] 5 (5, 6))) :=
    fun w => Lib.run_convert_bytes_const w _ _ _ 5 5 Try.underlying22 Try.underlying5
  go_enter Try.func3, Try.ntmps3
  go_wp2_with (go_at_call 9999)
  go_at_call 6
  refine (hand W HV.out hl).mono ?_
  rintro e w1 ⟨rfl, ha1, b1⟩
  have r1 := ha1.rd 0 l.length (l.length + 80) (by simp) (by omega) (by simp [maxLen]; omega)
  rw [List.drop_zero, List.take_left] at r1
  have HA1 := Lib.hid ha1; have R1 := Lib.hid r1; clear ha1 r1
  go_wp2_with (go_at_call 9999)
  go_at_call 7
  refine (pad_any ver w1 R1.out hl).mono ?_
  rintro e w2 ⟨va, rfl, oa, b2⟩
  have HOa := Lib.hid oa; clear oa
  go_wp2_with (go_at_call 9999)
  go_at_call 7
  refine (pad_any 1 _ (rd_other w2) (by decide)).mono ?_
  rintro e w3 ⟨vo, rfl, oo, b3⟩
  have HOo := Lib.hid oo; clear oo
  have c2 : Below W.heap.size W w2 := b1.trans (b2.mono b1.size)
  have c3 : Below W.heap.size W w3 := (c2.alloc c2.size _).trans (b3.mono (by have := c2.size; simp; omega))
  have R3 := Lib.hid ((R1.out.below b2).below (((Below.refl _ _).alloc (Nat.le_refl _) _).trans (b3.mono (by simp))))
  go_wp2_with (go_at_call 9999)
  go_at_call 7
  refine (pad_any ver w3 R3.out hl).mono ?_
  rintro e w4 ⟨vb, rfl, ob, b4⟩
  have HOb := Lib.hid ob; clear ob
  have c4 : Below W.heap.size W w4 := c3.trans (b4.mono c3.size)
  go_wp2_with (go_at_call 9999)
  go_at_call 8
  refine (rpad ver w4 (HV.out.below c4) hl).mono ?_
  rintro e w5 ⟨vx, rfl, ox, b5⟩
  have HOx := Lib.hid ox; clear ox
  have c5 : Below W.heap.size W w5 := c4.trans (b5.mono c4.size)
  go_wp2_with (go_at_call 9999)
  go_at_call 8
  refine (rpad 1 _ (rd_other w5) (by decide)).mono ?_
  rintro e w6 ⟨vy, rfl, oy, b6⟩
  have HOy := Lib.hid oy; clear oy
  have al : ∀ (w : World) (o : Obj), Below w.heap.size w (w.alloc o) := fun w o => (Below.refl _ _).alloc (Nat.le_refl _) _
  have e23 : Below w2.heap.size w2 w3 := (al w2 _).trans (b3.mono (by simp))
  have e56 : Below w5.heap.size w5 w6 := (al w5 _).trans (b6.mono (by simp))
  have e46 : Below w4.heap.size w4 w6 := b5.trans (e56.mono b5.size)
  have e36 : Below w3.heap.size w3 w6 := b4.trans (e46.mono b4.size)
  have e26 : Below w2.heap.size w2 w6 := e23.trans (e36.mono e23.size)
  have e16 : Below w1.heap.size w1 w6 := b2.trans (e26.mono b2.size)
  have c6 : Below W.heap.size W w6 := b1.trans (e16.mono b1.size)
  have oa6 := HOa.out.below e26
  have oo6 := HOo.out.below e36
  have ob6 := HOb.out.below e46
  have ox6 := HOx.out.below e56
  have s12 := b2.size
  have s23 := e23.size
  have s34 := b4.size
  obtain ⟨hF, hI⟩ := three (B := w1.heap.size) (m1 := w2.heap.size) (m2 := w3.heap.size) oa6 (oo6.mono (by simp; omega)) (ob6.mono (by omega)) (by have := pad_len ver l; omega) (by have := pad_len 1 other; omega) (by have := pad_len ver l; omega)
    (fun k hk => (HOa.out.lt k hk).2) (fun k hk => by have := HOo.out.lt k hk; simp at this; omega) (fun k hk => by have := HOb.out.lt k hk; omega)
  have HF := Lib.hid hF; have HI := Lib.hid hI; have Ha6 := Lib.hid oa6; have Ho6 := Lib.hid oo6; have Hb6 := Lib.hid ob6; have Hx6 := Lib.hid ox6; clear hF hI oa6 oo6 ob6 ox6
  go_wp2_with (go_at_call 9999)
  go_at_call 9
  refine (same_eq Ha6.out.rd Hx6.out.rd).mono ?_
  rintro e w7 ⟨rfl, rfl⟩
  go_wp2_with (go_at_call 9999)
  go_at_call 9
  refine (same_eq Hb6.out.rd Hx6.out.rd).mono ?_
  rintro e w7 ⟨rfl, rfl⟩
  go_wp2_with (go_at_call 9999)
  go_at_call 9
  refine (same_eq Ho6.out.rd HOy.out.rd).mono ?_
  rintro e w7 ⟨rfl, rfl⟩
  obtain ⟨Aa, ca, rfl⟩ := HOa.out.slice
  obtain ⟨Ao, co, rfl⟩ := HOo.out.slice
  obtain ⟨Ab, cb', rfl⟩ := HOb.out.slice
  go_wp2_with (go_at_call 9999)
  go_at_call 10
  refine (apart w6.heap.size _ _ w1.heap.size HF.out HI.out (by have := e16.size; simp; omega)).mono ?_
  rintro e w8 ⟨rfl, hch⟩
  have hS : ∀ k, S [.slice Aa (pad ver l).length ca, .slice Ao (pad 1 other).length co, .slice Ab (pad ver l).length cb'] k → w1.heap.size ≤ k := by
    rintro k ⟨u, hu, hk⟩
    simp only [List.mem_cons, List.not_mem_nil, or_false] at hu
    rcases hu with rfl | rfl | rfl
    · exact (Ha6.out.lt k hk).1
    · have := (Ho6.out.lt k hk).1; simp at this; omega
    · have := (Hb6.out.lt k hk).1; omega
  have sW := HA1.out.lt
  have c8 : Below W.heap.size W w8 := hch.below (c6.trans ((al w6 _).mono c6.size)) (fun k hk => by have := hS k hk; omega) (by have := c6.size; simp; omega)
  have ha8 : Arr w8 W.heap.size 5 (l ++ marks 80) := ((HA1.out.below e16).alloc _).chg hch (fun hk => by have := hS _ hk; omega)
  have HA8 := Lib.hid ha8; clear ha8
  go_wp2_with (go_at_call 9999)
  go_at_call 11
  refine (left w8 rfl HA8.out (HV.out.below c8) hl).mono ?_
  rintro e w9 ⟨rfl, rfl⟩
  go_wp2_with (go_at_call 9999)
  go_at_call 12
  refine (turned w8 rfl HA8.out rfl (HV.out.below c8) hl).mono ?_
  rintro e w9 ⟨vn, rfl, on, ha9, h9⟩
  have c9 : Below W.heap.size W w9 := h9.below c8 (by intro k e; omega) c8.size
  have r9 := ha9.rd 0 l.length (l.length + 80) (by simp) (by omega) (by simp [maxLen]; omega)
  rw [List.drop_zero, show l.length = l.reverse.length from by simp, List.take_left] at r9
  simp only [List.length_reverse] at r9
  have R9 := Lib.hid r9; have HOn := Lib.hid on; clear r9 on ha9
  go_wp2_with (go_at_call 9999)
  go_at_call 7
  refine (pad_any ver w9 R9.out (by simpa using hl)).mono ?_
  rintro e w10 ⟨vp, rfl, op, b10⟩
  have HOp := Lib.hid op; clear op
  go_wp2_with (go_at_call 9999)
  go_at_call 8
  refine (rpad ver w10 (HOn.out.below b10).rd (by simpa using hl)).mono ?_
  rintro e w11 ⟨vq, rfl, oq, b11⟩
  have HOq := Lib.hid oq; clear oq
  go_wp2_with (go_at_call 9999)
  go_at_call 9
  refine (same_eq (HOp.out.below b11).rd HOq.out.rd).mono ?_
  rintro e w12 ⟨rfl, rfl⟩
  go_wp2
  go_ret
  exact ⟨rfl, c9.trans ((b10.mono c9.size).trans (b11.mono (by have := b10.size; have := c9.size; omega)))⟩
end Go.Proofs.Ythiibkcaodaekaa.Pad
