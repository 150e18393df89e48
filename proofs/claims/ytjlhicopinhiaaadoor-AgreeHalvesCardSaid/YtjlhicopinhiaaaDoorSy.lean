/- The program's hash: copied, Sum. -/
import Derived.Test.YtjlhicopinhiaaaDoorSu
import Derived.BigRegion
namespace Go.Proofs.YtjlhicopinhiaaaDoor.Sy
open Go Go.RowKit Go.Proofs.YtjlhicopinhiaaaDoor.Pa Go.Proofs.YtjlhicopinhiaaaDoor.Pb Go.Proofs.YtjlhicopinhiaaaDoor.Pc Go.Proofs.YtjlhicopinhiaaaDoor.Pf Go.Proofs.YtjlhicopinhiaaaDoor.Pq Go.Proofs.YtjlhicopinhiaaaDoor.Pr Go.Proofs.YtjlhicopinhiaaaDoor.Sh Go.Proofs.YtjlhicopinhiaaaDoor.Sv Go.Proofs.YtjlhicopinhiaaaDoor.Sk Go.Proofs.YtjlhicopinhiaaaDoor.So Go.Proofs.YtjlhicopinhiaaaDoor.Sb Go.Proofs.YtjlhicopinhiaaaDoor.Sd Go.Proofs.YtjlhicopinhiaaaDoor.Se Go.Proofs.YtjlhicopinhiaaaDoor.Sf Go.Proofs.YtjlhicopinhiaaaDoor.St Go.Proofs.YtjlhicopinhiaaaDoor.Su
set_option linter.unusedVariables false
set_option linter.unusedSimpArgs false
set_option maxHeartbeats 1000000 in
set_option maxRecDepth 100000 in
theorem pcopied {p : Nat} {l : List UInt8} {r : Value} (w : World) (hu : Under w p l r) (hl : l.length ≤ 140737488350000) :
    Calls Tryd.prog 24 #[.pointer (some ⟨p, 0, none⟩)] w fun e w' => ∃ q r', e = .returned (.pointer (some ⟨q, 0, none⟩)) ∧ w.heap.size ≤ q ∧ Under w' q l r' ∧ Below w.heap.size w w' := by
  obtain ⟨h1, h2, h3⟩ := hu
  obtain ⟨R, d, rfl, -⟩ := id h2
  have hlen : (l.drop (64 * (l.length / 64))).length ≤ l.length := by simp
  have hap : ∀ n : Nat, ∃ v' w', (appX #[30, 30] 30 #[.slice none 0 0, .slice R (l.drop (64 * (l.length / 64))).length d]).run Tryd.prog (w.drewN n) = .ok v' w' ∧ Own w' w.heap.size 5 v' (l.drop (64 * (l.length / 64))) ∧ Below w.heap.size w w' := fun n => by
    obtain ⟨v4, w4, hap4, o4, g4, -⟩ := run_app uu8 30 (Own.nil (w.drewN n) w.heap.size 5) (rd_drewN h2 n) (Nat.le_refl _) (by simp; omega)
    rw [List.nil_append] at o4
    have hb : Below w.heap.size w (w.drewN n) := ⟨rfl, rfl, rfl, Nat.le_refl _, fun _ _ => rfl⟩
    exact ⟨v4, w4, hap4, o4, hb.trans (below_grown (Below.refl _ _) (Own.nil (w.drewN n) w.heap.size 5) (Nat.le_refl _) (Nat.le_refl _) g4)⟩
  have c8 := hp_cell h1 8
  have c9 := hp_cell h1 9
  simp only [Hash.at_rest] at c8
  simp only [Hash.at_size] at c9
  have h1' : hp w p = some (.cells (Hash.mk (foldN H0 l (l.length / 64)) (.slice R (l.drop (64 * (l.length / 64))).length d) (l.length : Int)).c 49 (0, 0)) := h1
  obtain ⟨v4, w4, hap4, o4, b4⟩ := hap 1
  have hd1 : w.drewN 1 = w.drew := rfl
  rw [hd1] at hap4
  obtain ⟨A4, c4, rfl⟩ := o4.slice
  have hp0 : p < w.heap.size := Hh.lt h1
  have h4' : hp w4 p = some (.cells (Hash.mk (foldN H0 l (l.length / 64)) (.slice R (l.drop (64 * (l.length / 64))).length d) (l.length : Int)).c 49 (0, 0)) := (b4.hp p hp0).trans h1
  have d8 := hp_cell h4' 8
  have d9 := hp_cell h4' 9
  simp only [Hash.at_rest] at d8
  simp only [Hash.at_size] at d9
  have O4 := Lib.hid o4; have B4 := Lib.hid b4; have HP0 := Lib.hid hp0
  clear h1 h2 h3 hap o4 b4 hd1 hp0 hlen
  generalize hLL : l.drop (64 * (l.length / 64)) = L at *
  go_enter Tryd.func24, Tryd.ntmps24
  go_wp2_with fail
  go_region
  go_wp2_with fail
  go_ret
  subst hLL
  refine ⟨_, _, rfl, B4.out.size, ⟨hp_alloc_at _ _ rfl, (O4.out.alloc _).rd, fun e => ?_⟩, B4.out.alloc B4.out.size _⟩
  have := (O4.out.lt _ e).2
  omega
theorem run_idx8 (H : Vector UInt32 8) (i : Nat) (hi : i < 8) (w : World) : (Instr.index 46 (.agg (uv H)) (.int .i64 (i : Int))).run Tryd.prog w = .ok (.int .u32 (H[i].toNat : Int)) w := by
  have huv : (uv H)[i]? = some (.int .u32 (H[i].toNat : Int)) := uv_at H i hi
  have hp : (part 45 (uv H) i).run Tryd.prog w = .ok (.int .u32 (H[i].toNat : Int)) w := run_part_plain w (by simp [Program.plainKey, Tryd.underlying45]) huv
  have hs : (sizeOf 45).run Tryd.prog w = .ok 1 w := by kernel_rfl
  have h1 : (0 : Int) ≤ i ∧ (i : Int) < 8 := by omega
  have ha : (asIntOf (.int .i64 (i : Int))).run Tryd.prog w = .ok (.i64, (i : Int)) w := rfl
  simp only [Instr.index, Sem.run_bind, ha, run_underlying Tryd.underlying46, Result.andThen_ok]
  rw [if_pos (by omega)]
  simp only [Sem.run_bind, hs, Result.andThen_ok, Int.toNat_natCast, Nat.mul_one]
  exact hp
set_option maxHeartbeats 1000000 in
set_option maxRecDepth 100000 in
theorem psum {p : Nat} {l : List UInt8} {r : Value} (w : World) (hT : Tab w) (hu : Under w p l r) (hl : l.length ≤ 140737488340000) :
    Calls Tryd.prog 18 #[.pointer (some ⟨p, 0, none⟩)] w fun e w' => e = .returned (.agg (bv (sha l))) ∧ Below w.heap.size w w' := by
  have HU := Lib.hid hu; have HT := Lib.hid hT; clear hu hT
  have h1 := HU.out.hh
  go_enter Tryd.func18, Tryd.ntmps18
  go_wp2_with (go_at_call 9999)
  go_at_call 24
  have al : ∀ (w : World) (o : Obj), Below w.heap.size w (w.alloc o) := fun w o => (Below.refl _ _).alloc (Nat.le_refl _) _
  have hua : Under (w.alloc (.cells (bv (Vector.replicate 32 0)) 23)) p l r := ⟨h1.below (al _ _), HU.out.hr.below (al _ _), HU.out.hne⟩
  refine (pcopied _ hua (by omega)).mono ?_
  rintro _ w1 ⟨q, r', rfl, hq, hu1, b1⟩
  have b01 : Below w.heap.size w w1 := (al w _).trans (b1.mono (by simp))
  have h1' := h1.below b01
  have c9 := hp_cell h1' 9
  simp only [Hash.at_size] at c9
  have ra : hp w1 w.heap.size = some (.cells (bv (Vector.replicate 32 0)) 23 (0, 0)) := (b1.hp _ (by simp)).trans (hp_alloc_at _ _ rfl)
  have HU1 := Lib.hid hu1; have B01 := Lib.hid b01; have RA := Lib.hid ra; have HQ := Lib.hid hq
  clear hua hu1 b01 ra b1 h1 h1' hq
  go_wp2_with (go_at_call 9999)
  go_at_call 25
  refine (ppad l.length (by omega) _).mono ?_
  rintro _ w2 ⟨vp, rfl, op, b2⟩
  have hT2 : Tab w2 := (HT.out.below B01.out).below b2
  have hu2 : Under w2 q l r' := ⟨HU1.out.hh.below b2, HU1.out.hr.below b2, HU1.out.hne⟩
  have hq1 := HU1.out.hh.lt
  have htl := HT.out.lt
  go_wp2_with (go_at_call 9999)
  go_at_call 17
  have hpn : vp.ownBlock ≠ some q := fun e => by have := (op.lt _ e).1; omega
  refine (pwrite w2 hT2 (by have := HQ.out; simp at this; omega) hu2 op.rd (fun _ => hpn) (by rw [padN_length]; have := zeros_lt l.length; omega)).mono ?_
  rintro _ w3 ⟨r3, rfl, hu3, -, hc3⟩
  have h3 : hp w3 q = some (.cells (Hash.mk (foldN H0 (whole l) ((whole l).length / 64)) r3 ((whole l).length : Int)).c 49 (0, 0)) := hu3.hh
  have hsha : bytesOf (foldN H0 (whole l) ((whole l).length / 64)) = sha l := rfl
  have hq0 : w.heap.size + 1 ≤ q := by have := HQ.out; simp at this; omega
  have b23 : Below w.heap.size w w3 := hc3.below (B01.out.trans (b2.mono B01.out.size)) (fun k e => by omega) (by have := b2.size; have := B01.out.size; omega)
  have ra3 : By w3 w.heap.size 23 (Vector.replicate 32 0) := hp_chg ((b2.hp _ (by omega)).trans RA.out) hc3 (fun e => by omega)
  generalize foldN H0 (whole l) ((whole l).length / 64) = H at *
  have HSHA := Lib.hid hsha; clear hsha
  have hq3 : q < w3.heap.size := Hh.lt h3
  have B3 := Lib.hid (b23.alloc (by omega) (.cells (bv (Vector.replicate 32 0)) 23))
  have R3 := Lib.hid (ra3.alloc (.cells (bv (Vector.replicate 32 0)) 23))
  have h3a : hp (w3.alloc (.cells (bv (Vector.replicate 32 0)) 23)) q = some (.cells (Hash.mk H r3 ((whole l).length : Int)).c 49 (0, 0)) := (hp_alloc_past _ _ hq3).trans h3
  have K3 : By (w3.alloc (.cells (bv (Vector.replicate 32 0)) 23)) w3.heap.size 23 (upto (bytesOf H) (4 * 0)) := by rw [Nat.mul_zero, upto_0]; exact hp_alloc_at _ _ rfl
  have K3 := Lib.hid K3
  have hlow : w.heap.size + 1 ≤ w3.heap.size := by omega
  clear b2 b23 ra3 hu3 hc3 hT2 hu2 op hpn c9 h3
  go_wp2_with fail
  generalize w3.heap.size = gk at *
  go_loopw [21] (fun s wr => ∃ i : Nat, i ≤ 8 ∧ s = .int .i64 i ∧ By wr w.heap.size 23 (Vector.replicate 32 0) ∧ By wr gk 23 (upto (bytesOf H) (4 * i)) ∧ Below w.heap.size w wr) (fun s _ => 8 - (intOf s).toNat)
  case atStart => exact ⟨0, by omega, rfl, R3.out, K3.out, B3.out⟩
  case round =>
    obtain ⟨i, hi, rfl, a2, a3, ab⟩ := hrel
    by_cases hi8 : i < 8
    · have A2 := Lib.hid a2; have A3 := Lib.hid a3; have AB := Lib.hid ab; clear a2 a3 ab
      have hix := run_idx8 H i hi8
      have hq := H[i].toNat_lt
      go_wp2_with fail
      obtain ⟨wo, hwo⟩ : ∃ x, x = wr := ⟨_, rfl⟩
      subst hwo
      clear hix
      go_loopw [25] (fun s wr => ∃ j : Nat, j ≤ 4 ∧ s = .int .i64 j ∧ By wr w.heap.size 23 (Vector.replicate 32 0) ∧ By wr gk 23 (upto (bytesOf H) (4 * i + j)) ∧ Below w.heap.size w wr) (fun s _ => 4 - (intOf s).toNat)
      case atStart => exact ⟨0, by omega, rfl, A2.out, A3.out, AB.out⟩
      case round =>
        obtain ⟨j, hj, rfl, a2, a3, ab⟩ := hrel
        by_cases hj4 : j < 4
        · have ck := a3.cell (4 * i + j) (by omega)
          have fk := a3.frozen (4 * i + j)
          have hst := Lib.hid (show ∀ y : Int, y = ((UInt8.ofNat (H[i].toNat / 2 ^ (24 - 8 * j))).toNat : Int) → By (wr.setCell ⟨gk, 4 * i + j, none⟩ (.int .u8 y)) gk 23 (upto (bytesOf H) (4 * i + j + 1)) by
            intro y hy
            rw [← bytesOf_at H i j hi8 hj4] at hy
            have h' := a3.set (4 * i + j) (by omega) ((bytesOf H)[4 * i + j]'(by omega)) (y := y) hy
            rw [upto_set] at h'
            exact h')
          have hf2 := Lib.hid (fun y => a2.far ⟨gk, 4 * i + j, none⟩ (by simp; omega) y)
          have hf3 := Lib.hid (ab.setCell (p := ⟨gk, 4 * i + j, none⟩) (by simp; omega))
          clear a2 a3 ab
          generalize (upto (bytesOf H) (4 * i + j))[4 * i + j] = old at ck
          generalize H[i].toNat = z at *
          obtain rfl | rfl | rfl | rfl : j = 0 ∨ j = 1 ∨ j = 2 ∨ j = 3 := by omega
          · simp only [Nat.add_zero] at ck fk
            go_wp2_with fail
            refine ⟨⟨1, by omega, rfl, hf2.out _, hst.out _ (by simp; omega), hf3.out _⟩, ?_⟩
            simp [intOf]
          · go_wp2_with fail
            refine ⟨⟨2, by omega, rfl, hf2.out _, hst.out _ (by simp), hf3.out _⟩, ?_⟩
            simp [intOf]
          · go_wp2_with fail
            refine ⟨⟨3, by omega, rfl, hf2.out _, hst.out _ (by simp), hf3.out _⟩, ?_⟩
            simp [intOf]
          · go_wp2_with fail
            refine ⟨⟨4, by omega, rfl, hf2.out _, hst.out _ (by simp), hf3.out _⟩, ?_⟩
            simp [intOf]
        · obtain rfl : j = 4 := by omega
          go_wp2_with fail
          refine ⟨⟨i + 1, by omega, by go_num, a2, a3, ab⟩, ?_⟩
          simp [intOf]; omega
    · obtain rfl : i = 8 := by omega
      have hx : hp wr gk = some (.cells (bv (bytesOf H)) 23 (0, 0)) := by have := a3; rw [show 4 * 8 = 32 from rfl, upto_all] at this; exact this
      have hr : hp wr w.heap.size = some (.cells (bv (Vector.replicate 32 0)) 23 (0, 0)) := a2
      have AB := Lib.hid ab
      clear a2 a3 ab
      go_wp2_with fail
      rw [← HSHA.out]
      refine ret_row Tryd.results18 Tryd.underlying23 rfl (riKey _) rfl (hp_setRow_same _ _ _ _ _ hr) rfl ⟨rfl, ?_⟩
      exact Below.setRow AB.out (Nat.le_refl _) _
set_option maxHeartbeats 1000000 in
set_option maxRecDepth 100000 in
theorem hsum {v : Value} {l : List UInt8} (w : World) (hT : Tab w) (hv : Rd w v l) (hl : l.length ≤ 140737488340000) :
    Calls Tryd.prog 9 #[v] w fun e w' => e = .returned (.agg (bv (sha l))) ∧ Below w.heap.size w w' := by
  obtain ⟨A, c, rfl, -⟩ := id hv
  have al : ∀ (w : World) (o : Obj), Below w.heap.size w (w.alloc o) := fun w o => (Below.refl _ _).alloc (Nat.le_refl _) _
  have HV := Lib.hid hv; have HT := Lib.hid hT; clear hv hT
  go_enter Tryd.func9, Tryd.ntmps9
  go_wp2_with (go_at_call 9999)
  go_at_call 16
  refine (pnew _).mono ?_
  rintro _ w1 ⟨q, rfl, hq, hh1, b1⟩
  have b01 : Below w.heap.size w w1 := (al w _).trans (b1.mono (by simp))
  have ra : By w1 w.heap.size 23 (Vector.replicate 32 0) := (b1.hp _ (by simp)).trans (hp_alloc_at _ _ rfl)
  have hu1 : Under w1 q [] (.slice none 0 0) := ⟨hh1, Rd.nil _, by simp [Value.ownBlock]⟩
  have hq0 : w.heap.size + 1 ≤ q := by simpa using hq
  have hrx := HV.out.below b01
  have htl := HT.out.lt
  have hT1 := HT.out.below b01
  have hqx : l ≠ [] → (Value.slice A l.length c).ownBlock ≠ some q := by
    intro hl0 e
    obtain ⟨ad, rfl, hc⟩ := HV.out.at_ 0 (List.length_pos_iff.2 hl0)
    have hb := World.block_lt_of_cell? w _ hc
    rw [Addr.add_zero'] at hb
    simp only [Value.ownBlock, Option.some.injEq] at e
    omega
  go_wp2_with (go_at_call 9999)
  go_at_call 17
  refine (pwrite w1 hT1 (by omega) hu1 hrx hqx (by simp; omega)).mono ?_
  rintro _ w2 ⟨r2, rfl, hu2, -, hc2⟩
  rw [List.nil_append] at hu2
  have b02 : Below w.heap.size w w2 := hc2.below b01 (fun k e => by omega) b01.size
  have ra2 := ra.chg hc2 (fun e => by omega)
  have hT2 := HT.out.below b02
  go_wp2_with (go_at_call 9999)
  go_at_call 18
  refine (psum w2 hT2 hu2 hl).mono ?_
  rintro _ w3 ⟨rfl, b3⟩
  have ra3 : hp w3 w.heap.size = some (.cells (bv (Vector.replicate 32 0)) 23 (0, 0)) := ra2.below b3
  have B03 := Lib.hid (b02.trans (b3.mono b02.size))
  clear b3 ra2 b02 hT2 hu2 hc2 hu1 hh1 ra hrx hT1 b01 b1
  go_wp2_with fail
  refine ret_row Tryd.results9 Tryd.underlying23 rfl (riKey _) rfl (hp_setRow_same _ _ _ _ _ ra3) rfl ⟨rfl, ?_⟩
  exact Below.setRow B03.out (Nat.le_refl _) _
end Go.Proofs.YtjlhicopinhiaaaDoor.Sy
