/- The reference's compression: Block. -/
import Derived.Test.YtjlhicopinhiaaaDoorSo
namespace Go.Proofs.YtjlhicopinhiaaaDoor.Sb
open Go Go.RowKit Go.Proofs.YtjlhicopinhiaaaDoor.Pa Go.Proofs.YtjlhicopinhiaaaDoor.Pb Go.Proofs.YtjlhicopinhiaaaDoor.Pc Go.Proofs.YtjlhicopinhiaaaDoor.Pf Go.Proofs.YtjlhicopinhiaaaDoor.Pq Go.Proofs.YtjlhicopinhiaaaDoor.Sh Go.Proofs.YtjlhicopinhiaaaDoor.Sv Go.Proofs.YtjlhicopinhiaaaDoor.Sw Go.Proofs.YtjlhicopinhiaaaDoor.Sk Go.Proofs.YtjlhicopinhiaaaDoor.So
set_option linter.unusedVariables false
set_option linter.unusedSimpArgs false

/-- The first i words of h are added. -/
def radded (v h : Vector UInt32 8) (i : Nat) : Vector UInt32 8 := Vector.ofFn fun j => if j.val < i then h[j] + v[j] else h[j]
theorem radded_0 (v h : Vector UInt32 8) : radded v h 0 = h := by apply Vector.ext; intro i hi; simp [radded]
theorem radded_at (v h : Vector UInt32 8) (i : Nat) (hi : i < 8) : (radded v h i)[i] = h[i] := by simp [radded]
theorem radded_set (v h : Vector UInt32 8) (i : Nat) (hi : i < 8) : (radded v h i).set i (h[i] + v[i]) = radded v h (i + 1) := by
  apply Vector.ext
  intro j hj
  by_cases hij : i = j
  · subst hij; simp [radded]
  · rw [Vector.getElem_set_ne _ _ hij]
    simp only [radded, Vector.getElem_ofFn]
    by_cases h1 : j < i
    · rw [if_pos h1, if_pos (by omega)]
    · rw [if_neg h1, if_neg (by omega)]
theorem radded_8 (v h : Vector UInt32 8) : radded v h 8 = added v h 8 := by
  apply Vector.ext; intro i hi
  simp [radded, added, hi, UInt32.add_comm]

/-- Where t words of the schedule stand; the blocks of h, b, the result, the constants (gk), the schedule (gx). -/
structure At1 (w : World) (h : Vector UInt32 8) (b : Vector UInt8 64) (gk gx t : Nat) (x : Vector UInt32 64) (wr : World) : Prop where
  below : Below w.heap.size w wr
  hh : Wd wr w.heap.size 46 h
  hb : hp wr (w.heap.size + 1) = some (.cells (bv b) 50 (0, 0))
  hr : Wd wr (w.heap.size + 2) 46 (Vector.replicate 8 0)
  hk : Wd wr gk 56 Kv
  hx : Wd wr gx 56 x
  done : ∀ j (hj : j < 64), j < t → x[j] = sched (bf b) j
theorem At1.next {w wr : World} {h : Vector UInt32 8} {b : Vector UInt8 64} {gk gx t : Nat} {x : Vector UInt32 64} (a : At1 w h b gk gx t x wr) (hk : w.heap.size + 3 ≤ gk) (hx : gk < gx) (ht : t < 64) (n : Nat) {y : UInt32} (hy : y = sched (bf b) t) :
    At1 w h b gk gx (t + 1) (x.set t y) ((wr.setCell ⟨gx, t, none⟩ (.int .u32 (uw y))).drewN n) := by
  refine ⟨?_, (a.hh.far _ (by simp; omega) _).drewN n, ?_, (a.hr.far _ (by simp; omega) _).drewN n, (a.hk.far _ (by simp; omega) _).drewN n, (a.hx.set t ht y).drewN n, fun j hj hjt => ?_⟩
  · have := a.below.setCell (p := ⟨gx, t, none⟩) (by simp; omega) (.int .u32 (uw y))
    exact ⟨this.os, this.tape, this.output, this.size, this.block⟩
  · rw [hp_drewN, hp_setCell_other _ _ _ (by simp; omega)]; exact a.hb
  · by_cases hjt' : j = t
    · subst hjt'; simp [hy]
    · rw [Vector.getElem_set_ne _ _ (by omega)]
      exact a.done j hj (by omega)
/-- The rounds under way. -/
structure At2 (w : World) (h : Vector UInt32 8) (b : Vector UInt8 64) (x : Vector UInt32 64) (gk gx g i : Nat) (s : Vector UInt32 8) (wr : World) : Prop where
  below : Below w.heap.size w wr
  hh : Wd wr w.heap.size 46 h
  hr : Wd wr (w.heap.size + 2) 46 (Vector.replicate 8 0)
  hk : Wd wr gk 56 Kv
  hx : Wd wr gx 56 x
  hs : Wd wr g 46 s
  hi : s = rounds Kc (bf b) h i
theorem At2.next {w wr : World} {h : Vector UInt32 8} {b : Vector UInt8 64} {x : Vector UInt32 64} {gk gx g i : Nat} {v : Vector UInt32 8} (a : At2 w h b x gk gx g i v wr) (hk : w.heap.size + 3 ≤ gk) (hx : gk < gx) (hg : gx < g) (n : Nat) {kc sc : UInt32} (hkc : Kc i = kc) (hsc : sched (bf b) i = sc) {s : Vector UInt32 8} (hs : s = rnd kc sc v) :
    At2 w h b x gk gx g (i + 1) s ((wr.drewN n).setRow g (uv s)) := by
  subst hs
  have hc : Chg (fun k => k = g) (wr.drewN n) ((wr.drewN n).setRow g (uv (rnd kc sc v))) := Chg.row _ g _
  have hb0 : Below w.heap.size w (wr.drewN n) := ⟨a.below.os, a.below.tape, a.below.output, a.below.size, a.below.block⟩
  have kp : ∀ (k : Nat) (o : Obj), k ≠ g → hp wr k = some o → hp ((wr.drewN n).setRow g (uv (rnd kc sc v))) k = some o := fun k o hk ho => hp_chg (w := wr.drewN n) ((hp_drewN n k).trans ho) hc (fun e => hk e)
  exact ⟨hc.below hb0 (fun k hk => by omega) a.below.size, kp _ _ (by omega) a.hh, kp _ _ (by omega) a.hr, kp _ _ (by omega) a.hk, kp _ _ (by omega) a.hx, hp_setRow_same _ _ _ _ _ ((hp_drewN n g).trans a.hs), by rw [rounds, ← a.hi, hkc, hsc]⟩
/-- The words are added. -/
structure At3 (w : World) (s v : Vector UInt32 8) (g : Nat) (wr : World) : Prop where
  below : Below w.heap.size w wr
  hh : Wd wr w.heap.size 46 s
  hr : Wd wr (w.heap.size + 2) 46 (Vector.replicate 8 0)
  hs : Wd wr g 46 v
theorem At3.next {w wr : World} {v s : Vector UInt32 8} {g : Nat} (a : At3 w s v g wr) (hg : w.heap.size + 3 ≤ g) (i : Nat) (hi : i < 8) (y : UInt32) (n : Nat) : At3 w (s.set i y) v g ((wr.setCell ⟨w.heap.size, i, none⟩ (.int .u32 (uw y))).drewN n) := by
  have hc : Chg (fun k => k = w.heap.size) wr (wr.setCell ⟨w.heap.size, i, none⟩ (.int .u32 (uw y))) := Chg.store wr ⟨w.heap.size, i, none⟩ _
  have hb := hc.below a.below (fun k hk => by omega) a.below.size
  exact ⟨⟨hb.os, hb.tape, hb.output, hb.size, hb.block⟩, (a.hh.set i hi y).drewN n, (a.hr.far _ (by simp) _).drewN n, (a.hs.far _ (by simp; omega) _).drewN n⟩
theorem fin_ref (k x v0 v1 v2 v3 v4 v5 v6 v7 : UInt32) (s : Vector UInt32 8) (h0 : s[0] = v0) (h1 : s[1] = v1) (h2 : s[2] = v2) (h3 : s[3] = v3) (h4 : s[4] = v4) (h5 : s[5] = v5) (h6 : s[6] = v6) (h7 : s[7] = v7) :
    #v[v7 + Sg1 v4 + (v4 &&& v5 ^^^ inv v4 &&& v6) + k + x + (Sg0 v0 + (v0 &&& v1 ^^^ v0 &&& v2 ^^^ v1 &&& v2)), v0, v1, v2, v3 + (v7 + Sg1 v4 + (v4 &&& v5 ^^^ inv v4 &&& v6) + k + x), v4, v5, v6] = rnd k x s := by
  subst h0 h1 h2 h3 h4 h5 h6 h7
  rfl
set_option maxHeartbeats 1000000 in
set_option maxRecDepth 100000 in
theorem rblock (h : Vector UInt32 8) (b : Vector UInt8 64) (w : World) :
    Calls Tryd.prog 32 #[.agg (uv h), .agg (bv b)] w fun e w' => e = .returned (.agg (uv (block Kc h (bf b)))) ∧ Below w.heap.size w w' := by
  go_enter Tryd.func32, Tryd.ntmps32
  go_wp2_with (go_at_call 9999)
  go_at_call 34
  refine (constants _).mono ?_
  rintro _ w1 ⟨rfl, hbel⟩
  have B0 : Below w.heap.size w (((w.alloc (Obj.cells (uv h) 46)).alloc (Obj.cells (bv b) 50)).alloc (Obj.cells (uv (Vector.replicate 8 0)) 46)) := (((Below.refl _ _).alloc (Nat.le_refl _) _).alloc (by simp) _).alloc (by simp; omega) _
  have hB := B0.trans (hbel.mono (by simp; omega))
  have h1 : Wd w1 w.heap.size 46 h := by
    refine Wd.below ?_ hbel
    unfold Wd; simp [go_sem]
  have h2 : hp w1 (w.heap.size + 1) = some (.cells (bv b) 50 (0, 0)) := by
    refine (hbel.hp _ (by simp)).trans ?_
    simp [go_sem]
  have h3 : Wd w1 (w.heap.size + 2) 46 (Vector.replicate 8 0) := by
    refine Wd.below ?_ hbel
    unfold Wd; simp [go_sem]
  have hs1 : w.heap.size + 3 ≤ w1.heap.size := h3.lt
  have HAT : At1 w h b w1.heap.size (w1.heap.size + 1) 0 (Vector.replicate 64 0) ((w1.alloc (.cells (uv Kv) 56)).alloc (.cells (uv (Vector.replicate 64 0)) 56)) := by
    refine ⟨(hB.alloc (by omega) _).alloc (by simp; omega) _, (h1.alloc _).alloc _, ?_, (h3.alloc _).alloc _, ?_, ?_, fun j _ h => absurd h (by omega)⟩
    · rw [hp_alloc_past _ _ (by simp; omega), hp_alloc_past _ _ (by omega)]; exact h2
    · unfold Wd; simp [go_sem]
    · unfold Wd; simp [go_sem]
  have HAT := Lib.hid HAT
  clear hbel B0 hB h1 h2 h3
  go_wp2_with fail
  generalize hgk : w1.heap.size = gk at *
  clear hgk
  go_loopw [7] (fun s wr => ∃ (t : Nat) (x : Vector UInt32 64), t ≤ 16 ∧ s = .int .i64 t ∧ At1 w h b gk (gk + 1) t x wr) (fun s _ => 16 - (intOf s).toNat)
  case atStart => exact ⟨0, Vector.replicate 64 0, by omega, rfl, HAT.out⟩
  case round =>
    obtain ⟨t, x, ht, rfl, ha⟩ := hrel
    by_cases h16 : t < 16
    · have hn := Lib.hid (fun n y hy => ha.next (y := y) hs1 (by omega) (by omega) n hy)
      obtain ⟨a1, a2, a3, a4, a6, a5, _⟩ := ha
      have hcell := like_facts (wr := wr)
      have c0 := (hp_cell a3 (4 * t)).trans (bf_at b (4 * t) (by omega))
      have c1 := (hp_cell a3 (4 * t + 1)).trans (bf_at b (4 * t + 1) (by omega))
      have c2 := (hp_cell a3 (4 * t + 2)).trans (bf_at b (4 * t + 2) (by omega))
      have c3 := (hp_cell a3 (4 * t + 3)).trans (bf_at b (4 * t + 3) (by omega))
      have cx := a5.cell t (by omega)
      have fx := a5.frozen t
      have l0 := (bf b (4 * t)).toNat_lt
      have l1 := (bf b (4 * t + 1)).toNat_lt
      have l2 := (bf b (4 * t + 2)).toNat_lt
      have l3 := (bf b (4 * t + 3)).toNat_lt
      have ho := or4 (bf b (4 * t)) (bf b (4 * t + 1)) (bf b (4 * t + 2)) (bf b (4 * t + 3))
      have hs := (sched_lo (bf b) t h16).symm
      rw [hs] at ho
      clear hs
      clear a1 a2 a3 a4 a5 a6
      go_wp2_with fail
      refine wp_region_calm_tail (S := Like wr) 31 (by kernel_rfl) (by kernel_rfl) (Like.refl wr) ?_
      intro hN
      simp only [List.take_succ_cons, List.take_zero, List.drop_succ_cons, List.drop_zero]
      repeat (go_big_quiet_step (fail))
      refine wpQuiet_nil ?_
      rintro ⟨W', nq, rfl⟩
      clear hcell hN ho c0 c1 c2 c3
      generalize sched (bf b) t = y at *
      go_wp2_with fail
      go_roundw
      case rel => exact ⟨t + 1, x.set t y, by omega, by go_num, hn.out nq y rfl⟩
      case measure => simp [intOf]; omega
    · obtain rfl : t = 16 := by omega
      have HAT2 := Lib.hid ha; clear ha
      go_wp2_with fail
      go_loopw [8] (fun s wr => ∃ (t : Nat) (x : Vector UInt32 64), 16 ≤ t ∧ t ≤ 64 ∧ s = .int .i64 t ∧ At1 w h b gk (gk + 1) t x wr) (fun s _ => 64 - (intOf s).toNat)
      case atStart => exact ⟨16, x, by omega, by omega, rfl, HAT2.out⟩
      case round =>
        obtain ⟨t, x, ht16, ht, rfl, ha⟩ := hrel
        by_cases hlt : t < 64
        · have hn := Lib.hid (fun n y hy => ha.next (y := y) hs1 (by omega) hlt n hy)
          have hdone := Lib.hid ha.done
          obtain ⟨a1, a2, a3, a4, a6, a5, _⟩ := ha
          have hcell := like_facts (wr := wr)
          have e15 : (t : Int) - 15 = ((t - 15 : Nat) : Int) := by omega
          have e2 : (t : Int) - 2 = ((t - 2 : Nat) : Int) := by omega
          have e7 : (t : Int) - 7 = ((t - 7 : Nat) : Int) := by omega
          have e16 : (t : Int) - 16 = ((t - 16 : Nat) : Int) := by omega
          have c15 := a5.cell (t - 15) (by omega)
          have c2 := a5.cell (t - 2) (by omega)
          have c7 := a5.cell (t - 7) (by omega)
          have c16 := a5.cell (t - 16) (by omega)
          have l15 : t - 15 < 64 := by omega
          have l2 : t - 2 < 64 := by omega
          have l7 : t - 7 < 64 := by omega
          have l16 : t - 16 < 64 := by omega
          have cx := a5.cell t hlt
          have fx := a5.frozen t
          have hy : sg1 (x[t - 2]'(by omega)) + (x[t - 7]'(by omega)) + sg0 (x[t - 15]'(by omega)) + (x[t - 16]'(by omega)) = sched (bf b) t := by
            rw [sched_hi _ _ (by omega), ← hdone.out (t - 2) (by omega) (by omega), ← hdone.out (t - 7) (by omega) (by omega), ← hdone.out (t - 15) (by omega) (by omega), ← hdone.out (t - 16) (by omega) (by omega)]
          have HX := Lib.hid (fun n => hn.out n _ hy)
          clear hy a1 a2 a3 a4 a5 a6
          generalize (x[t - 2]'(by omega)) = x2 at *
          generalize (x[t - 7]'(by omega)) = x7 at *
          generalize (x[t - 15]'(by omega)) = x15 at *
          generalize (x[t - 16]'(by omega)) = x16 at *
          go_wp2_with fail
          refine wp_region_calm_tail (S := Like wr) 23 (by kernel_rfl) (by kernel_rfl) (Like.refl _) ?_
          intro hN
          simp only [List.take_succ_cons, List.take_zero, List.drop_succ_cons, List.drop_zero]
          repeat (go_big_quiet_step (first | (go_at_call 35; exact calm_call (s1 _ _) (fun w' hs hr => hs.same hr)) | (go_at_call 36; exact calm_call (s0 _ _) (fun w' hs hr => hs.same hr))))
          refine wpQuiet_nil ?_
          rintro ⟨W', nq2, rfl⟩
          clear hcell hN c15 c2 c7 c16 e15 e2 e7 e16
          go_wp2_with fail
          go_roundw
          case rel => exact ⟨t + 1, _, by omega, by omega, by go_num, HX.out nq2⟩
          case measure => simp [intOf]; omega
        · obtain rfl : t = 64 := by omega
          have hx64 : ∀ j (hj : j < 64), x[j] = sched (bf b) j := fun j hj => ha.done j hj hj
          have HX64 := Lib.hid hx64; clear hx64
          obtain ⟨a1, a2, a3, a4, a6, a5, _⟩ := ha
          have hgs : gk + 1 < wr.heap.size := a5.lt
          have A1 := Lib.hid a1; have A2 := Lib.hid a2; have A4 := Lib.hid a4; have A5 := Lib.hid a5; have A6 := Lib.hid a6
          have a2' : hp wr w.heap.size = some (.cells (uv h) 46 (0, 0)) := a2
          clear a1 a2 a3 a4 a5 a6
          go_wp2_with fail
          have hat : At2 w h b x gk (gk + 1) wr.heap.size 0 h (wr.alloc (.cells (uv h) 46)) := ⟨A1.out.alloc (by have := A1.out.size; omega) _, A2.out.alloc _, A4.out.alloc _, A6.out.alloc _, A5.out.alloc _, hp_alloc_at _ _ rfl, rfl⟩
          have HAT := Lib.hid hat; clear hat a2'
          generalize wr.heap.size = gs at *
          go_loopw [10] (fun s wr => ∃ (i : Nat) (v : Vector UInt32 8), i ≤ 64 ∧ s = .int .i64 i ∧ At2 w h b x gk (gk + 1) gs i v wr) (fun s _ => 64 - (intOf s).toNat)
          case atStart => exact ⟨0, h, by omega, rfl, HAT.out⟩
          case round =>
            obtain ⟨i, v, hi64, rfl, ha⟩ := hrel
            by_cases hlt : i < 64
            · have HA := Lib.hid ha
              obtain ⟨b1, b2, b3, b6, b4, b5, _⟩ := ha
              have ck := b6.cell i hlt
              rw [Kv_at i hlt] at ck
              have cx := b4.cell i hlt
              rw [HX64.out i hlt] at cx
              have s0 := b5.cell 0 (by omega)
              have s1 := b5.cell 1 (by omega)
              have s2 := b5.cell 2 (by omega)
              have s3 := b5.cell 3 (by omega)
              have s4 := b5.cell 4 (by omega)
              have s5 := b5.cell 5 (by omega)
              have s6 := b5.cell 6 (by omega)
              have s7 := b5.cell 7 (by omega)
              have b5' : hp wr gs = some (.cells (uv v) 46 (0, 0)) := b5
              clear b1 b2 b3 b4 b5 b6
              have hcell := like_facts (wr := wr)
              generalize hv0 : v[0] = v0 at *
              generalize hv1 : v[1] = v1 at *
              generalize hv2 : v[2] = v2 at *
              generalize hv3 : v[3] = v3 at *
              generalize hv4 : v[4] = v4 at *
              generalize hv5 : v[5] = v5 at *
              generalize hv6 : v[6] = v6 at *
              generalize hv7 : v[7] = v7 at *
              have HFIN := Lib.hid (fun kc sc => fin_ref kc sc v0 v1 v2 v3 v4 v5 v6 v7 v hv0 hv1 hv2 hv3 hv4 hv5 hv6 hv7)
              clear hv0 hv1 hv2 hv3 hv4 hv5 hv6 hv7
              generalize hsc : sched (bf b) i = sc at *
              generalize hkc : Kc i = kc at *
              have HSC := Lib.hid hsc; have HKC := Lib.hid hkc; clear hsc hkc
              go_wp2_with fail
              refine wp_region_calm (S := Like wr) (by kernel_rfl) (by kernel_rfl) (Like.refl wr) ?_
              intro hN
              repeat (go_big_quiet_step ((go_at_call 37; exact calm_call (S1 _ _) (fun w' hs hr => hs.same hr))))
              refine wpQuiet_nil ?_
              rintro ⟨W', m1, rfl⟩
              clear hcell hN
              have hcell := like_facts (wr := wr.drewN m1)
              go_wp2_with fail
              refine wp_region_calm (S := Like (wr.drewN m1)) (by kernel_rfl) (by kernel_rfl) (Like.refl _) ?_
              intro hN
              repeat (go_big_quiet_step ((go_at_call 38; exact calm_call (S0 _ _) (fun w' hs hr => hs.same hr))))
              refine wpQuiet_nil ?_
              intro u
              obtain ⟨m2, hwu⟩ := u.h
              rw [show u.w = wr.drewN (m1 + m2) by rw [hwu]; simp]
              clear hwu u
              clear hcell hN
              generalize m1 + m2 = m
              go_wp2_with fail
              refine ⟨⟨i + 1, _, by omega, by go_num, HA.out.next hs1 (by omega) (by omega) m HKC.out HSC.out (HFIN.out kc sc)⟩, ?_⟩
              simp [intOf]; omega
            · obtain rfl : i = 64 := by omega
              have hat3 : At3 w (radded v h 0) v gs wr := ⟨ha.below, by rw [radded_0]; exact ha.hh, ha.hr, ha.hs⟩
              have hv64 := ha.hi
              have HV64 := Lib.hid hv64; have HAT3 := Lib.hid hat3; clear hv64 hat3 ha
              go_wp2_with fail
              go_loopw [13] (fun s wr => ∃ (i : Nat), i ≤ 8 ∧ s = .int .i64 i ∧ At3 w (radded v h i) v gs wr) (fun s _ => 8 - (intOf s).toNat)
              case atStart => exact ⟨0, by omega, rfl, HAT3.out⟩
              case round =>
                obtain ⟨i, hi8, rfl, ha⟩ := hrel
                by_cases hlt : i < 8
                · have HA := Lib.hid ha
                  obtain ⟨b1, b2, b3, b4⟩ := ha
                  have ch := b2.cell i hlt
                  have cs := b4.cell i hlt
                  have fs := b2.frozen i
                  rw [radded_at v h i hlt] at ch
                  have HP := Lib.hid (radded_set v h i hlt)
                  clear b1 b2 b3 b4
                  generalize v[i] = vi at *
                  generalize h[i] = hi' at *
                  have hcell := like_facts (wr := wr)
                  go_wp2_with fail
                  refine wp_region_calm_tail (S := Like wr) 9 (by kernel_rfl) (by kernel_rfl) (Like.refl _) ?_
                  intro hN
                  simp only [List.take_succ_cons, List.take_zero, List.drop_succ_cons, List.drop_zero]
                  repeat (go_big_quiet_step (fail))
                  refine wpQuiet_nil ?_
                  rintro ⟨W', m, rfl⟩
                  clear hN hcell
                  have HN := Lib.hid (HA.out.next (by omega) i hlt (hi' + vi) m)
                  go_wp2_with fail
                  go_roundw
                  case rel => exact ⟨i + 1, by omega, by go_num, by rw [← HP.out]; exact HN.out⟩
                  case measure => simp [intOf]; omega
                · obtain rfl : i = 8 := by omega
                  obtain ⟨b1, b2, b3, b4⟩ := ha
                  have b2' : hp wr w.heap.size = some (.cells (uv (radded v h 8)) 46 (0, 0)) := b2
                  have b3' : hp wr (w.heap.size + 2) = some (.cells (uv (Vector.replicate 8 0)) 46 (0, 0)) := b3
                  have hfin : block Kc h (bf b) = radded v h 8 := by rw [radded_8]; unfold block; rw [HV64.out]
                  have HF := Lib.hid hfin; clear hfin b2 b3 b4
                  go_wp2_with fail
                  rw [HF.out]
                  refine ret_row Tryd.results32 Tryd.underlying46 rfl (riW8 (radded v h 8)) rfl (hp_setRow_same _ _ _ _ _ b3') rfl ⟨rfl, ?_⟩
                  exact Below.setRow b1 (by omega) _
end Go.Proofs.YtjlhicopinhiaaaDoor.Sb
