/- The program's compression: Block. -/
import Derived.Test.YtjlhicopinhiaaaDoorSw
import Derived.Test.YtjlhicopinhiaaaDoorSv
namespace Go.Proofs.YtjlhicopinhiaaaDoor.Sk
open Go Go.RowKit Go.Proofs.YtjlhicopinhiaaaDoor.Pa Go.Proofs.YtjlhicopinhiaaaDoor.Pb Go.Proofs.YtjlhicopinhiaaaDoor.Pc Go.Proofs.YtjlhicopinhiaaaDoor.Pf Go.Proofs.YtjlhicopinhiaaaDoor.Pq Go.Proofs.YtjlhicopinhiaaaDoor.Sh Go.Proofs.YtjlhicopinhiaaaDoor.Sv Go.Proofs.YtjlhicopinhiaaaDoor.Sw
set_option linter.unusedVariables false
set_option linter.unusedSimpArgs false

@[go_sem ↓] theorem ldxW8 (x : Value) : Instr.loadAt 46 x = loadX 46 x := rfl
@[go_sem] theorem ldW8 (w : World) (b o : Nat) : (loadX 46 (.pointer (some ⟨b, o, none⟩))).run Tryd.prog w = readR w b o 8 ((loadZ 46 (.pointer (some ⟨b, o, none⟩))).run Tryd.prog w) := load_agg w _ 8 _ Tryd.underlying46 rfl (by kernel_rfl) b o
@[go_sem ↓] theorem stxW8 (x v : Value) : Instr.storeAt 46 x v = storeX 46 x v := rfl
@[go_sem] theorem stW8 (w : World) (b o : Nat) (v : Array Value) : (storeX 46 (.pointer (some ⟨b, o, none⟩)) (.agg v)).run Tryd.prog w = writeR w b o 8 v ((storeZ 46 (.pointer (some ⟨b, o, none⟩)) (.agg v)).run Tryd.prog w) := store_agg w _ 8 (by kernel_rfl) b o v
@[go_sem ↓] theorem ldvW8 (x : Addr) : loadVar 46 x = loadX 46 (.pointer (some x)) := rfl
@[go_sem ↓] theorem zvxW8 : zeroValue 46 = zeroX 46 := rfl
@[go_sem] theorem zvW8 (w : World) : (zeroX 46).run Tryd.prog w = .ok (.agg (uv (Vector.replicate 8 0))) w := by kernel_rfl
theorem riW8 (x : Vector UInt32 8) : (Tryd.prog.info? 46).map (·.size) = some (uv x).size := by rw [uv_size]; kernel_rfl
@[go_sem ↓] theorem zvxW64 : zeroValue 56 = zeroX 56 := rfl
@[go_sem] theorem zvW64 (w : World) : (zeroX 56).run Tryd.prog w = .ok (.agg (uv (Vector.replicate 64 0))) w := by kernel_rfl

/-- The table of constants, as it was laid. -/
def Tab (w : World) : Prop := ∀ i, i < 64 → w.cell? ⟨1, i, none⟩ = some (.int .u32 (uw (Kc i)))
theorem Tab.lt {w : World} (h : Tab w) : 1 < w.heap.size := World.block_lt_of_cell? w _ (h 0 (by omega))
theorem Tab.below {w w' : World} (h : Tab w) (hb : Below w.heap.size w w') : Tab w' := fun i hi => (hb.cell (p := ⟨1, i, none⟩) h.lt).trans (h i hi)
/-- The rounds under way. -/
structure At2 (w : World) (h : Vector UInt32 8) (b : Vector UInt8 64) (x : Vector UInt32 64) (g i : Nat) (s : Vector UInt32 8) (wr : World) : Prop where
  below : Below w.heap.size w wr
  hh : Wd wr w.heap.size 46 h
  hr : Wd wr (w.heap.size + 2) 46 (Vector.replicate 8 0)
  hx : Wd wr (w.heap.size + 3) 56 x
  hs : Wd wr g 46 s
  hi : s = rounds Kc (bf b) h i
theorem At2.next {w wr w1 : World} {h : Vector UInt32 8} {b : Vector UInt8 64} {x : Vector UInt32 64} {g i : Nat} {v : Vector UInt32 8} (a : At2 w h b x g i v wr) (hg : w.heap.size + 4 ≤ g) (n : Nat) (hch : Chg (fun k => k = g) (wr.drewN n) w1)
    (hw1 : Wd w1 g 46 (shift v)) (p q kc sc : UInt32) (hkc : Kc i = kc) (hsc : sched (bf b) i = sc) (hfin : ((shift v).set 4 p).set 0 q = rnd kc sc v) :
    At2 w h b x g (i + 1) (rnd kc sc v) ((w1.setCell ⟨g, 4, none⟩ (.int .u32 (uw p))).setCell ⟨g, 0, none⟩ (.int .u32 (uw q))) := by
  have s : ∀ (w : World) (k : Nat) (v : Value), Chg (fun x => x = g) w (w.setCell ⟨g, k, none⟩ v) := fun w k v => Chg.store w ⟨g, k, none⟩ v
  have hc : Chg (fun k => k = g) (wr.drewN n) ((w1.setCell ⟨g, 4, none⟩ (.int .u32 (uw p))).setCell ⟨g, 0, none⟩ (.int .u32 (uw q))) := (hch.trans (s _ _ _)).trans (s _ _ _)
  have hb0 : Below w.heap.size w (wr.drewN n) := ⟨a.below.os, a.below.tape, a.below.output, a.below.size, a.below.block⟩
  have kp : ∀ (k : Nat) (o : Obj), k ≠ g → hp wr k = some o → hp ((w1.setCell ⟨g, 4, none⟩ (.int .u32 (uw p))).setCell ⟨g, 0, none⟩ (.int .u32 (uw q))) k = some o := fun k o hk ho => hp_chg (w := wr.drewN n) ((hp_drewN n k).trans ho) hc (fun e => hk e)
  refine ⟨hc.below hb0 (fun k hk => by omega) a.below.size, kp _ _ (by omega) a.hh, kp _ _ (by omega) a.hr, kp _ _ (by omega) a.hx, ?_, by rw [rounds, ← a.hi, hkc, hsc]⟩
  have := (hw1.set 4 (by omega) p).set 0 (by omega) q
  rw [hfin] at this
  exact this
/-- The words are added. -/
structure At3 (w : World) (h : Vector UInt32 8) (g : Nat) (s : Vector UInt32 8) (wr : World) : Prop where
  below : Below w.heap.size w wr
  hh : Wd wr w.heap.size 46 h
  hr : Wd wr (w.heap.size + 2) 46 (Vector.replicate 8 0)
  hs : Wd wr g 46 s
theorem At3.next {w wr : World} {h s : Vector UInt32 8} {g : Nat} (a : At3 w h g s wr) (hg : w.heap.size + 4 ≤ g) (i : Nat) (hi : i < 8) (y : UInt32) (n : Nat) : At3 w h g (s.set i y) ((wr.setCell ⟨g, i, none⟩ (.int .u32 (uw y))).drewN n) := by
  have hc : Chg (fun k => k = g) wr (wr.setCell ⟨g, i, none⟩ (.int .u32 (uw y))) := Chg.store wr ⟨g, i, none⟩ _
  have hb := hc.below a.below (fun k hk => by omega) a.below.size
  exact ⟨⟨hb.os, hb.tape, hb.output, hb.size, hb.block⟩, (a.hh.far _ (by simp only; omega) _).drewN n, (a.hr.far _ (by simp only; omega) _).drewN n, (a.hs.set i hi y).drewN n⟩
/-- Where t words of the schedule stand; the blocks of h, b, the result, the schedule. -/
structure At1 (w : World) (h : Vector UInt32 8) (b : Vector UInt8 64) (t : Nat) (x : Vector UInt32 64) (wr : World) : Prop where
  below : Below w.heap.size w wr
  hh : Wd wr w.heap.size 46 h
  hb : hp wr (w.heap.size + 1) = some (.cells (bv b) 50 (0, 0))
  hr : Wd wr (w.heap.size + 2) 46 (Vector.replicate 8 0)
  hx : Wd wr (w.heap.size + 3) 56 x
  done : ∀ j (hj : j < 64), j < t → x[j] = sched (bf b) j
theorem At1.next {w wr : World} {h : Vector UInt32 8} {b : Vector UInt8 64} {t : Nat} {x : Vector UInt32 64} (a : At1 w h b t x wr) (ht : t < 64) (n : Nat) {y : UInt32} (hy : y = sched (bf b) t) :
    At1 w h b (t + 1) (x.set t y) ((wr.setCell ⟨w.heap.size + 3, t, none⟩ (.int .u32 (uw y))).drewN n) := by
  refine ⟨?_, (a.hh.far _ (by simp) _).drewN n, ?_, (a.hr.far _ (by simp) _).drewN n, (a.hx.set t ht y).drewN n, fun j hj hjt => ?_⟩
  · have := a.below.setCell (p := ⟨w.heap.size + 3, t, none⟩) (by simp) (.int .u32 (uw y))
    exact ⟨this.os, this.tape, this.output, this.size, this.block⟩
  · rw [hp_drewN, hp_setCell_other _ _ _ (by simp)]; exact a.hb
  · by_cases hjt' : j = t
    · subst hjt'; simp [hy]
    · rw [Vector.getElem_set_ne _ _ (by omega)]
      exact a.done j hj (by omega)
set_option maxHeartbeats 1000000 in
set_option maxRecDepth 100000 in
theorem pblock (h : Vector UInt32 8) (b : Vector UInt8 64) (w : World) (hT : Tab w) :
    Calls Tryd.prog 23 #[.agg (uv h), .agg (bv b)] w fun e w' => e = .returned (.agg (uv (block Kc h (bf b)))) ∧ Below w.heap.size w w' := by
  have HT := Lib.hid hT; clear hT
  go_enter Tryd.func23, Tryd.ntmps23
  go_wp2_with fail
  go_loopw [16] (fun s wr => ∃ (t : Nat) (x : Vector UInt32 64), t ≤ 64 ∧ s = .int .i64 t ∧ At1 w h b t x wr) (fun s _ => 64 - (intOf s).toNat)
  case atStart =>
    refine ⟨0, Vector.replicate 64 0, by omega, rfl, ⟨?_, ?_, ?_, ?_, ?_, fun j _ h => absurd h (by omega)⟩⟩
    · exact ((((Below.refl _ _).alloc (Nat.le_refl _) _).alloc (by simp) _).alloc (by simp; omega) _).alloc (by simp; omega) _
    · unfold Wd; simp [go_sem]
    · simp [go_sem]
    · unfold Wd; simp [go_sem]
    · unfold Wd; simp [go_sem]
  case round =>
    obtain ⟨t, x, ht, rfl, ha⟩ := hrel
    have hn := Lib.hid (fun (hlt : t < 64) n y hy => ha.next (y := y) hlt n hy)
    have hdone := Lib.hid ha.done
    obtain ⟨a1, a2, a3, a4, a5, _⟩ := ha
    have hcell := like_facts (wr := wr)
    by_cases hlt : t < 64
    · by_cases h16 : t < 16
      · have c0 := (hp_cell a3 (4 * t)).trans (bf_at b (4 * t) (by omega))
        have c1 := (hp_cell a3 (4 * t + 1)).trans (bf_at b (4 * t + 1) (by omega))
        have c2 := (hp_cell a3 (4 * t + 2)).trans (bf_at b (4 * t + 2) (by omega))
        have c3 := (hp_cell a3 (4 * t + 3)).trans (bf_at b (4 * t + 3) (by omega))
        have cx := a5.cell t hlt
        have fx := a5.frozen t
        have l0 := (bf b (4 * t)).toNat_lt
        have l1 := (bf b (4 * t + 1)).toNat_lt
        have l2 := (bf b (4 * t + 2)).toNat_lt
        have l3 := (bf b (4 * t + 3)).toNat_lt
        have ho := or4 (bf b (4 * t)) (bf b (4 * t + 1)) (bf b (4 * t + 2)) (bf b (4 * t + 3))
        have hs := (sched_lo (bf b) t h16).symm
        rw [hs] at ho
        clear hs
        clear a1 a2 a3 a4 a5
        go_wp2_with fail
        refine wp_region_calm_tail (S := Like wr) 31 (by kernel_rfl) (by kernel_rfl) (Like.refl wr) ?_
        intro hN
        simp only [List.take_succ_cons, List.take_zero, List.drop_succ_cons, List.drop_zero]
        repeat (go_big_quiet_step (fail))
        refine wpQuiet_nil ?_
        rintro ⟨W', nq, rfl⟩
        clear hcell hN ho c0 c1 c2 c3
        have HX := Lib.hid (hn.out hlt)
        generalize sched (bf b) t = y at *
        go_wp2_with fail
        go_roundw
        case rel => exact ⟨t + 1, x.set t y, by omega, by go_num, HX.out nq y rfl⟩
        case measure => simp [intOf]; omega
      · have e15 : (t : Int) - 15 = ((t - 15 : Nat) : Int) := by omega
        have e2 : (t : Int) - 2 = ((t - 2 : Nat) : Int) := by omega
        have e7 : (t : Int) - 7 = ((t - 7 : Nat) : Int) := by omega
        have e16 : (t : Int) - 16 = ((t - 16 : Nat) : Int) := by omega
        have c15 := a5.cell (t - 15) (by omega)
        have c2 := a5.cell (t - 2) (by omega)
        have c7 := a5.cell (t - 7) (by omega)
        have c16 := a5.cell (t - 16) (by omega)
        have l15 : t - 15 < 64 := by omega
        have l2 : t - 2 < 64 := by omega
        have l7 : t - 7 < 64 := by omega
        have l16 : t - 16 < 64 := by omega
        have cx := a5.cell t hlt
        have fx := a5.frozen t
        have hy : sg1 (x[t - 2]'(by omega)) + (x[t - 7]'(by omega)) + sg0 (x[t - 15]'(by omega)) + (x[t - 16]'(by omega)) = sched (bf b) t := by
          rw [sched_hi _ _ h16, ← hdone.out (t - 2) (by omega) (by omega), ← hdone.out (t - 7) (by omega) (by omega), ← hdone.out (t - 15) (by omega) (by omega), ← hdone.out (t - 16) (by omega) (by omega)]
        have HX := Lib.hid (fun n => hn.out hlt n _ hy)
        clear hy a1 a2 a3 a4 a5
        generalize (x[t - 2]'(by omega)) = x2 at *
        generalize (x[t - 7]'(by omega)) = x7 at *
        generalize (x[t - 15]'(by omega)) = x15 at *
        generalize (x[t - 16]'(by omega)) = x16 at *
        have h16' : ¬ (t : Int) < 16 := by omega
        go_wp2_with fail
        refine wp_region_calm (S := Like wr) (by kernel_rfl) (by kernel_rfl) (Like.refl wr) ?_
        intro hN
        repeat (go_big_quiet_step (fail))
        refine wpQuiet_nil ?_
        rintro ⟨W', nq, rfl⟩
        clear hcell hN
        have hcell := like_facts (wr := wr.drewN nq)
        go_wp2_with fail
        refine wp_region_calm_tail (S := Like (wr.drewN nq)) 29 (by kernel_rfl) (by kernel_rfl) (Like.refl _) ?_
        intro hN
        simp only [List.take_succ_cons, List.take_zero, List.drop_succ_cons, List.drop_zero]
        repeat (go_big_quiet_step ((go_at_call 31; exact calm_call (turned _ _ (by decide) _) (fun w' hs hr => hs.same hr))))
        refine wpQuiet_nil ?_
        rintro ⟨W', nq2, rfl⟩
        clear hcell hN c15 c2 c7 c16 e15 e2 e7 e16
        go_wp2_with fail
        go_roundw
        case rel => exact ⟨t + 1, _, by omega, by go_num, HX.out (nq + nq2)⟩
        case measure => simp [intOf]; omega
    · obtain rfl : t = 64 := by omega
      have hx64 : ∀ j (hj : j < 64), x[j] = sched (bf b) j := fun j hj => hdone.out j hj hj
      have HX64 := Lib.hid hx64; clear hx64 hdone hn hcell
      have hgs : w.heap.size + 4 ≤ wr.heap.size := a5.lt
      have A1 := Lib.hid a1; have A2 := Lib.hid a2; have A4 := Lib.hid a4; have A5 := Lib.hid a5
      have a2' : hp wr w.heap.size = some (.cells (uv h) 46 (0, 0)) := a2
      clear a1 a2 a3 a4 a5
      go_wp2_with fail
      have hat : At2 w h b x wr.heap.size 0 h (wr.alloc (.cells (uv h) 46)) := ⟨A1.out.alloc (by have := A1.out.size; omega) _, A2.out.alloc _, A4.out.alloc _, A5.out.alloc _, hp_alloc_at _ _ rfl, rfl⟩
      have HAT := Lib.hid hat; clear hat a2'
      generalize wr.heap.size = gs at *
      go_loopw [91] (fun s wr => ∃ (i : Nat) (v : Vector UInt32 8), i ≤ 64 ∧ s = .int .i64 i ∧ At2 w h b x gs i v wr) (fun s _ => 64 - (intOf s).toNat)
      case atStart => exact ⟨0, h, by omega, rfl, HAT.out⟩
      case round =>
        obtain ⟨i, v, hi64, rfl, ha⟩ := hrel
        by_cases hlt : i < 64
        · have HA := Lib.hid ha
          obtain ⟨b1, b2, b3, b4, b5, b6⟩ := ha
          clear b6
          have ck := (HT.out.below b1) i hlt
          have cx := b4.cell i hlt
          rw [HX64.out i hlt] at cx
          have s0 := b5.cell 0 (by omega)
          have s1 := b5.cell 1 (by omega)
          have s2 := b5.cell 2 (by omega)
          have s4 := b5.cell 4 (by omega)
          have s5 := b5.cell 5 (by omega)
          have s6 := b5.cell 6 (by omega)
          have s7 := b5.cell 7 (by omega)
          have B5 := Lib.hid b5
          clear b1 b2 b3 b4 b5
          have hcell := like_facts (wr := wr)
          generalize hv0 : v[0] = v0 at *
          generalize hv1 : v[1] = v1 at *
          generalize hv2 : v[2] = v2 at *
          generalize hv4 : v[4] = v4 at *
          generalize hv5 : v[5] = v5 at *
          generalize hv6 : v[6] = v6 at *
          generalize hv7 : v[7] = v7 at *
          have HV0 := Lib.hid hv0; have HV1 := Lib.hid hv1; have HV2 := Lib.hid hv2; have HV4 := Lib.hid hv4; have HV5 := Lib.hid hv5; have HV6 := Lib.hid hv6; have HV7 := Lib.hid hv7
          have HFIN := Lib.hid (fun kc sc => fin_rnd kc sc v0 v1 v2 v4 v5 v6 v7 v hv0 hv1 hv2 hv4 hv5 hv6 hv7)
          clear hv0 hv1 hv2 hv4 hv5 hv6 hv7
          generalize hsc : sched (bf b) i = sc at *
          generalize hkc : Kc i = kc at *
          have HSC := Lib.hid hsc; have HKC := Lib.hid hkc; clear hsc hkc
          go_wp2_with fail
          refine wp_region_calm (S := Like wr) (by kernel_rfl) (by kernel_rfl) (Like.refl wr) ?_
          intro hN
          repeat (go_big_quiet_step (fail))
          refine wpQuiet_nil ?_
          rintro ⟨W', m1, rfl⟩
          clear hcell hN
          have hcell := like_facts (wr := wr.drewN m1)
          go_wp2_with fail
          refine wp_region_calm (S := Like (wr.drewN m1)) (by kernel_rfl) (by kernel_rfl) (Like.refl _) ?_
          intro hN
          repeat (go_big_quiet_step ((go_at_call 31; exact calm_call (turned _ _ (by decide) _) (fun w' hs hr => hs.same hr))))
          refine wpQuiet_nil ?_
          intro u
          obtain ⟨m2, hwu⟩ := u.h
          rw [show u.w = wr.drewN (m1 + m2) by rw [hwu]; simp]
          clear hwu u
          clear hcell hN
          generalize m1 + m2 = m12
          have hcell := like_facts (wr := wr.drewN m12)
          go_wp2_with fail
          refine wp_region_calm (S := Like (wr.drewN m12)) (by kernel_rfl) (by kernel_rfl) (Like.refl _) ?_
          intro hN
          repeat (go_big_quiet_step ((go_at_call 31; exact calm_call (turned _ _ (by decide) _) (fun w' hs hr => hs.same hr))))
          refine wpQuiet_nil ?_
          intro u
          obtain ⟨m3, hwu⟩ := u.h
          rw [show u.w = wr.drewN (m12 + m3) by rw [hwu]; simp]
          clear hwu u
          clear hcell hN
          generalize m12 + m3 = m
          go_wp2_with fail
          refine wp_region_calm_tail (S := Like (wr.drewN m)) 2 (by kernel_rfl) (by kernel_rfl) (Like.refl _) ?_
          intro hN
          simp only [List.take_succ_cons, List.take_zero, List.drop_succ_cons, List.drop_zero]
          repeat (go_big_quiet_step (fail))
          refine wpQuiet_nil ?_
          intro u
          obtain ⟨m4, hwu⟩ := u.h
          rw [show u.w = wr.drewN (m + m4) by rw [hwu]; simp]
          clear hwu u
          clear hN
          generalize m + m4 = m5
          obtain ⟨w1, hcp, hw1, hch1⟩ := run_shift (P := Tryd.prog) Tryd.underlying58 (by kernel_rfl) 3 46 (B5.out.drewN m5)
          have k0 := hw1.cell 0 (by omega)
          have k4 := hw1.cell 4 (by omega)
          have f1 := hw1.frozen
          have HW1 := Lib.hid hw1; have HC1 := Lib.hid hch1; clear hw1 hch1
          clear s0 s1 s2 s4 s5 s6 s7 ck cx
          go_wp2_with fail
          go_roundw
          case rel =>
            exact ⟨i + 1, _, by omega, by go_num, HA.out.next hgs m5 HC1.out HW1.out _ _ kc sc HKC.out HSC.out (HFIN.out kc sc)⟩
          case measure => simp [intOf]; omega
        · obtain rfl : i = 64 := by omega
          have hat3 : At3 w h gs (added v h 0) wr := ⟨ha.below, ha.hh, ha.hr, by rw [added_0]; exact ha.hs⟩
          have hv64 := ha.hi
          have HV64 := Lib.hid hv64; have HAT3 := Lib.hid hat3; clear hv64 hat3 ha
          go_wp2_with fail
          go_loopw [165] (fun s wr => ∃ (i : Nat), i ≤ 8 ∧ s = .int .i64 i ∧ At3 w h gs (added v h i) wr) (fun s _ => 8 - (intOf s).toNat)
          case atStart => exact ⟨0, by omega, rfl, HAT3.out⟩
          case round =>
            obtain ⟨i, hi8, rfl, ha⟩ := hrel
            by_cases hlt : i < 8
            · have HA := Lib.hid ha
              obtain ⟨b1, b2, b3, b4⟩ := ha
              have ch := b2.cell i hlt
              have cs := b4.cell i hlt
              have fs := b4.frozen i
              rw [added_at v h i hlt] at cs
              have HP := Lib.hid (added_set v h i hlt)
              clear b1 b2 b3 b4
              generalize v[i] = vi at *
              generalize h[i] = hi' at *
              have hcell := like_facts (wr := wr)
              go_wp2_with fail
              refine wp_region_calm_tail (S := Like wr) 8 (by kernel_rfl) (by kernel_rfl) (Like.refl _) ?_
              intro hN
              simp only [List.take_succ_cons, List.take_zero, List.drop_succ_cons, List.drop_zero]
              repeat (go_big_quiet_step (fail))
              refine wpQuiet_nil ?_
              rintro ⟨W', m, rfl⟩
              clear hN hcell
              have HN := Lib.hid (HA.out.next hgs i hlt (vi + hi') m)
              go_wp2_with fail
              go_roundw
              case rel => exact ⟨i + 1, by omega, by go_num, by rw [← HP.out]; exact HN.out⟩
              case measure => simp [intOf]; omega
            · obtain rfl : i = 8 := by omega
              obtain ⟨b1, b2, b3, b4⟩ := ha
              have b4' : hp wr gs = some (.cells (uv (added v h 8)) 46 (0, 0)) := b4
              have b3' : hp wr (w.heap.size + 2) = some (.cells (uv (Vector.replicate 8 0)) 46 (0, 0)) := b3
              have hfin : block Kc h (bf b) = added v h 8 := by unfold block; rw [HV64.out]
              have HF := Lib.hid hfin; clear hfin b4 b3
              go_wp2_with fail
              rw [HF.out]
              refine ret_row Tryd.results23 Tryd.underlying46 rfl (riW8 (added v h 8)) rfl (hp_setRow_same _ _ _ _ _ b3') rfl ⟨rfl, ?_⟩
              exact Below.setRow b1 (by omega) _
end Go.Proofs.YtjlhicopinhiaaaDoor.Sk
