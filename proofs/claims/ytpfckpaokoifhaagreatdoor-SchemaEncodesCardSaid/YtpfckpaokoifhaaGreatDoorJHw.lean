/- handValue, the walk. -/
import Derived.Test.YtpfckpaokoifhaaGreatDoorJHv
import Derived.Test.YtpfckpaokoifhaaGreatDoorJHs
import Derived.Test.YtpfckpaokoifhaaGreatDoorJEa
import Derived.Deep.DeepCutAuto
namespace Go.Proofs.YtpfckpaokoifhaaGreatDoor.Hx
open Go Go.RowKit Go.Proofs.YtpfckpaokoifhaaGreatDoor.Pa Go.Proofs.YtpfckpaokoifhaaGreatDoor.Pb Go.Proofs.YtpfckpaokoifhaaGreatDoor.Pc Go.Proofs.YtpfckpaokoifhaaGreatDoor.Pf Go.Proofs.YtpfckpaokoifhaaGreatDoor.Sc Go.Proofs.YtpfckpaokoifhaaGreatDoor.Rs Go.Proofs.YtpfckpaokoifhaaGreatDoor.Hs Go.Proofs.YtpfckpaokoifhaaGreatDoor.Vu Go.Proofs.YtpfckpaokoifhaaGreatDoor.Vo Go.Proofs.YtpfckpaokoifhaaGreatDoor.Hv
set_option linter.unusedVariables false
set_option linter.unusedSimpArgs false
/-- What the bytes with marks are, k of them set. -/
def mk3 (d : List UInt8) (k : Nat) : List UInt8 := d ++ ([7, 8, 9].take k ++ List.replicate (3 - k) 0)
theorem mk3_set (d : List UInt8) (k : Nat) (hk : k < 3) : (mk3 d k).set (d.length + k) (UInt8.ofNat (7 + k)) = mk3 d (k + 1) := by
  unfold mk3
  rw [List.set_append_right _ _ (by omega)]
  have : k = 0 ∨ k = 1 ∨ k = 2 := by omega
  rcases this with rfl | rfl | rfl <;> simp [List.replicate]
theorem mk3_end (d : List UInt8) : mk3 d 3 = d ++ [7, 8, 9] := by simp [mk3]
theorem mk3_len (d : List UInt8) (k : Nat) (hk : k ≤ 3) : (mk3 d k).length = d.length + 3 := by simp [mk3]; omega
theorem over_mk3 (d : List UInt8) : over (List.replicate (d.length + 3) (0 : UInt8)) 0 (d.take (d.length + 3)) = mk3 d 0 := by
  rw [List.take_of_length_le (by omega)]
  simp [over, mk3]
theorem below_hp {w w' : World} {g : Nat} {o : Obj} (h : hp w g = some o) (hb : Below w.heap.size w w') : hp w' g = some o := by
  have hlt : g < w.heap.size := (Array.getElem?_eq_some_iff.1 h).1
  exact (hb.hp _ hlt).trans h
theorem set_hp {w : World} {g q o : Nat} {ob : Obj} {v : Value} (h : hp w g = some ob) (hne : g ≠ q) : hp (w.setCell ⟨q, o, none⟩ v) g = some ob := (hp_setCell_other _ _ _ hne).trans h
set_option maxHeartbeats 2000000 in
set_option maxRecDepth 100000 in
theorem handValue : ∀ (n : Nat) (nv dv pv : Value) (x : Va) (W w : World), RdV W n nv dv pv x → FewV (n + 1) x → Below W.heap.size W w →
    Calls Tryz.prog 8 #[.agg #[nv, dv, pv]] w fun e w' => ∃ nv' dv' pv', e = .returned (.agg #[nv', dv', pv']) ∧ Hw w' w.heap.size n nv' dv' pv' x ∧ Below w.heap.size w w' := by
  intro n
  induction n with
  | zero => exact fun nv dv pv x W w h _ _ => h.2.2.2.elim
  | succ n ih =>
    intro nv dv pv x W w h hf hB
    obtain ⟨hnum, rfl, hdv, hpv⟩ := h
    obtain ⟨hf1, hf2, hf3⟩ := hf
    obtain ⟨Ad, cd, rfl, hd1, hd2⟩ : ∃ A c, dv = .slice A x.data.length c ∧ x.data.length ≤ c ∧ c ≤ maxLen := by obtain ⟨A, c, e, h1, h2, -⟩ := hdv; exact ⟨A, c, e, h1, h2⟩
    obtain ⟨Ap, cp, rfl, hp1, hp2⟩ := hpv.slice
    clear hd1 hd2 hp1 hp2
    have IH := Lib.hid ih; have H := Lib.hid hpv; have HD := Lib.hid hdv; have HB := Lib.hid hB; have HF := Lib.hid hf3; clear ih hpv hdv hB hf3
    go_enter Tryz.func8, Tryz.ntmps8
    go_upto_region 2 with fail
    obtain ⟨w3, hw3⟩ : ∃ y, y = ((w.alloc (.cells #[.int .u64 x.num, .slice Ad x.data.length cd, .slice Ap x.parts.length cp] 27)).alloc (.cells #[.int .u64 0, .slice none 0 0, .slice none 0 0] 27)).alloc (.cells #[.int .u64 x.num, .slice none 0 0, .slice none 0 0] 27) := ⟨_, rfl⟩
    have hx3 : hp w3 w.heap.size = some (.cells #[.int .u64 x.num, .slice Ad x.data.length cd, .slice Ap x.parts.length cp] 27 (0, 0)) := by rw [hw3]; exact (hp_alloc_past _ _ (by simp; omega)).trans ((hp_alloc_past _ _ (by simp)).trans (hp_alloc_at _ _ rfl))
    have hy3 : hp w3 (w.heap.size + 1) = some (.cells #[.int .u64 0, .slice none 0 0, .slice none 0 0] 27 (0, 0)) := by rw [hw3]; exact (hp_alloc_past _ _ (by simp)).trans (hp_alloc_at _ _ (by simp))
    have hz3 : hp w3 (w.heap.size + 2) = some (.cells #[.int .u64 x.num, .slice none 0 0, .slice none 0 0] 27 (0, 0)) := by rw [hw3]; exact hp_alloc_at _ _ (by simp)
    have hs3 : w3.heap.size = w.heap.size + 3 := by rw [hw3]; simp
    have hb3 : Below w.heap.size w w3 := by
      have h : ∀ {w' : World} (o : Obj), Below w.heap.size w w' → Below w.heap.size w (w'.alloc o) := fun o hb => hb.alloc hb.size _
      rw [hw3]; exact h _ (h _ (h _ (Below.refl _ _)))
    rw [← hw3]
    clear hw3
    have hrd3 : Rd w3 (.slice Ad x.data.length cd) x.data := rd_keep (HB.out.trans (hb3.mono HB.out.size)).block HD.out
    have hmk : (Instr.makeSlice 24 (.int .i64 ((x.data.length : Int) + 3)) (.int .i64 ((x.data.length : Int) + 3))).run Tryz.prog w3 = .ok (.slice (some ⟨w3.heap.size, 0, none⟩) (x.data.length + 3) (x.data.length + 3)) (w3.alloc (.cells (cb (List.replicate (x.data.length + 3) 0)).toArray 5)) := by
      simpa using run_mk Nm.u8 (x.data.length + 3) (by omega) w3
    obtain ⟨w4, hw4⟩ : ∃ y, y = w3.alloc (.cells (cb (List.replicate (x.data.length + 3) 0)).toArray 5) := ⟨_, rfl⟩
    have hs4 : w4.heap.size = w.heap.size + 4 := by rw [hw4]; simp [hs3]
    have hb34 : Below w3.heap.size w3 w4 := by rw [hw4]; exact (Below.refl _ _).alloc (Nat.le_refl _) _
    have ha4 : Arr w4 (w.heap.size + 3) 5 (List.replicate (x.data.length + 3) 0) := by rw [hw4, ← hs3]; exact Arr.new w3 _ _
    rw [← hw4, hs3] at hmk
    obtain ⟨w5, hcp, ha5, hc5⟩ := run_cp' (dc := x.data.length + 3) (o := 0) (dl := x.data.length + 3) Nm.u8 3 ha4 (rd_keep hb34.block hrd3) (by simp)
    rw [over_mk3] at ha5
    rw [show min x.data.length (x.data.length + 3) = x.data.length by omega] at hcp
    have hx5 := hp_chg (below_hp hx3 hb34) hc5 (by omega)
    have hy5 := hp_chg (below_hp hy3 hb34) hc5 (by omega)
    have hz5 := hp_chg (below_hp hz3 hb34) hc5 (by omega)
    have hb5 : Below w.heap.size w w5 := hc5.below (hb3.trans (hb34.mono hb3.size)) (by intro k e; omega) (by omega)
    have hx4 := fun i => hp_cell (below_hp hx3 hb34) i
    have hx3c := fun i => hp_cell hx3 i
    have hs5 : w.heap.size + 4 ≤ w5.heap.size := by have := hc5.size; omega
    have HA5 := Lib.hid ha5; have HX5 := Lib.hid hx5; have HY5 := Lib.hid hy5; have HZ5 := Lib.hid hz5; have HB5 := Lib.hid hb5; have HS5 := Lib.hid hs5
    clear ha5 hx5 hy5 hz5 hb5 hs5 hc5 ha4 hb34 hw4 hs4 hrd3 hb3 hs3 hx3 hy3 hz3
    go_wp2_with fail
    clear hmk hcp hx4 hx3c
    go_loopw [5] (fun s wr => ∃ (k : Nat), k ≤ 3 ∧ s = .int .i64 k ∧ Arr wr (w.heap.size + 3) 5 (mk3 x.data k) ∧ hp wr w.heap.size = some (.cells #[.int .u64 x.num, .slice Ad x.data.length cd, .slice Ap x.parts.length cp] 27 (0, 0)) ∧ hp wr (w.heap.size + 1) = some (.cells #[.int .u64 0, .slice none 0 0, .slice none 0 0] 27 (0, 0)) ∧ hp wr (w.heap.size + 2) = some (.cells #[.int .u64 x.num, .slice none 0 0, .slice none 0 0] 27 (0, 0)) ∧ Below w.heap.size w wr ∧ w.heap.size + 4 ≤ wr.heap.size) (fun s _ => 3 - (intOf s).toNat)
    case atStart => exact ⟨0, by omega, rfl, HA5.out, HX5.out, HY5.out, HZ5.out, HB5.out, HS5.out⟩
    case round =>
      obtain ⟨k, hk, rfl, ha, hx, hy, hz, hb, hs⟩ := hrel
      clear HA5 HX5 HY5 HZ5 HB5 HS5
      by_cases hk3 : k < 3
      · have hl := mk3_len x.data k hk
        have hcell := ha.cellAt (x.data.length + k) (by omega)
        have hfr := ha.frozen (x.data.length + k)
        have hst := ha.set (x.data.length + k) (UInt8.ofNat (7 + k)) (y := 7 + (k : Int)) (by rw [← of_nat8 (by omega)]; omega)
        rw [mk3_set _ _ hk3] at hst
        have hw8 : IntKind.u8.wrap (7 + (k : Int)) = 7 + (k : Int) := wu8 (by omega) (by omega)
        have hxc := fun i => hp_cell hx i
        have F := Lib.hid (And.intro hst <| And.intro ( set_hp (v := .int .u8 (7 + (k : Int))) (o := x.data.length + k) hx (show w.heap.size ≠ w.heap.size + 3 by omega)) <| And.intro (set_hp (v := .int .u8 (7 + (k : Int))) (o := x.data.length + k) hy (show w.heap.size + 1 ≠ w.heap.size + 3 by omega)) <| And.intro (set_hp (v := .int .u8 (7 + (k : Int))) (o := x.data.length + k) hz (show w.heap.size + 2 ≠ w.heap.size + 3 by omega)) (Below.setCell (p := ⟨w.heap.size + 3, x.data.length + k, none⟩) hb (show w.heap.size ≤ w.heap.size + 3 by omega) (.int .u8 (7 + (k : Int)))))
        clear hst ha hx hy hz hb
        go_wp2_with fail
        go_roundw
        case rel => exact ⟨k + 1, by omega, by go_num, F.out.1, F.out.2.1, F.out.2.2.1, F.out.2.2.2.1, F.out.2.2.2.2, by simpa [World.setCell] using hs⟩
        case measure => simp [intOf]; omega
      · obtain rfl : k = 3 := by omega
        rw [mk3_end] at ha
        rw [show ((3 : Nat) : Int) = 3 from rfl]
        have hxc := fun i => hp_cell hx i
        have hzc := fun i => hp_cell hz i
        have hzf := fun i => hp_frozen hz i
        have HA := Lib.hid ha; have HX := Lib.hid hx; have HY := Lib.hid hy; have HZ := Lib.hid hz; have HBB := Lib.hid hb
        clear ha hx hy hz hb
        go_upto_region 9 with fail
        obtain ⟨w6, hw6⟩ : ∃ y, y = wr.setCell ⟨w.heap.size + 2, 1, none⟩ (.slice (some ⟨w.heap.size + 3, 0, none⟩) x.data.length (x.data.length + 3)) := ⟨_, rfl⟩
        have ha6 : Arr w6 (w.heap.size + 3) 5 (x.data ++ [7, 8, 9]) := by rw [hw6]; exact set_hp HA.out (by omega)
        have hx6 := set_hp (v := .slice (some ⟨w.heap.size + 3, 0, none⟩) x.data.length (x.data.length + 3)) (o := 1) HX.out (show w.heap.size ≠ w.heap.size + 2 by omega)
        have hy6 := set_hp (v := .slice (some ⟨w.heap.size + 3, 0, none⟩) x.data.length (x.data.length + 3)) (o := 1) HY.out (show w.heap.size + 1 ≠ w.heap.size + 2 by omega)
        have hz6 : hp w6 (w.heap.size + 2) = some (.cells #[.int .u64 x.num, .slice (some ⟨w.heap.size + 3, 0, none⟩) x.data.length (x.data.length + 3), .slice none 0 0] 27 (0, 0)) := by rw [hw6]; exact heap_setCell_same _ _ 1 _ _ _ HZ.out
        have hb6 : Below w.heap.size w w6 := by rw [hw6]; exact HBB.out.setCell (by simp) _
        have hs6 : w.heap.size + 4 ≤ w6.heap.size := by rw [hw6]; simpa [World.setCell] using hs
        rw [← hw6] at hx6 hy6 ⊢
        obtain ⟨w7, hmk, hrow, hb67⟩ := mk_vals (x.parts.length + 3) (by omega) w6
        have hmk' : (Instr.makeSlice 25 (.int .i64 ((x.parts.length : Int) + 3)) (.int .i64 ((x.parts.length : Int) + 3))).run Tryz.prog w6 = .ok (.slice (some ⟨w6.heap.size, 0, none⟩) (x.parts.length + 3) (x.parts.length + 3)) w7 := hmk
        clear hmk hxc hzc hzf HA HX HY HZ HBB hs hw6
        have hx6c := fun i => hp_cell hx6 i
        obtain ⟨b, hbe⟩ : ∃ b, b = w6.heap.size := ⟨_, rfl⟩
        rw [← hbe] at hs6 hmk' hrow
        have hx7 := below_hp hx6 hb67
        have hy7 := below_hp hy6 hb67
        have hz7 := below_hp hz6 hb67
        have ha7 : Arr w7 (w.heap.size + 3) 5 (x.data ++ [7, 8, 9]) := below_hp ha6 hb67
        have hb7 := hb6.trans (hb67.mono hb6.size)
        have START := Lib.hid (And.intro hx7 <| And.intro hy7 <| And.intro hz7 <| And.intro ha7 hb7)
        have HROW := Lib.hid hrow
        clear hx6 hy6 hz6 ha6 hb6 hb67 hx7 hy7 hz7 ha7 hb7 hrow
        have hwsz := HB.out.size
        clear hbe
        go_wp2_with fail
        clear hmk' hx6c
        go_loopw [7] (fun s wr => ∃ (i : Nat) (f : Nat → Value), i ≤ x.parts.length + 3 ∧ s = .int .i64 i ∧ DoneV wr b n x.parts i f ∧ hp wr w.heap.size = some (.cells #[.int .u64 x.num, .slice Ad x.data.length cd, .slice Ap x.parts.length cp] 27 (0, 0)) ∧ hp wr (w.heap.size + 1) = some (.cells #[.int .u64 0, .slice none 0 0, .slice none 0 0] 27 (0, 0)) ∧ hp wr (w.heap.size + 2) = some (.cells #[.int .u64 x.num, .slice (some ⟨w.heap.size + 3, 0, none⟩) x.data.length (x.data.length + 3), .slice none 0 0] 27 (0, 0)) ∧ Arr wr (w.heap.size + 3) 5 (x.data ++ [7, 8, 9]) ∧ Below w.heap.size w wr) (fun s _ => x.parts.length + 3 - (intOf s).toNat)
        case atStart => exact ⟨0, zv, by omega, rfl, ⟨HROW.out, fun j t _ h => absurd h (by omega), fun j _ h => absurd h (by omega), fun j _ _ => by unfold zv; rw [if_neg (by omega)]⟩, START.out⟩
        case round =>
          clear START HROW
          obtain ⟨i, f, hi, rfl, hd, hx, hy, hz, ha, hbw⟩ := hrel
          have hbr : Below W.heap.size W wr := HB.out.trans (hbw.mono HB.out.size)
          have hws := hbw.size
          have hxc := fun i => hp_cell hx i
          have hzc := fun i => hp_cell hz i
          have hzf := fun i => hp_frozen hz i
          by_cases hil : i < x.parts.length + 3
          · have hrow := hd.row
            have k0 := hrow.cell (i := i * 3) (by omega)
            have k1 := hrow.cell (i := i * 3 + 1) (by omega)
            have k2 := hrow.cell (i := i * 3 + 2) (by omega)
            have hfr : ∀ k, wr.frozen? ⟨b, k, none⟩ = false := hrow.frozen
            have hlt := hrow.lt
            generalize f (i * 3) = x0 at k0
            generalize f (i * 3 + 1) = x1 at k1
            generalize f (i * 3 + 2) = x2 at k2
            by_cases hin : i < x.parts.length
            · obtain ⟨ad, rfl, dv', pv', g1, g2, g3, g4⟩ := H.out.at_ i hin
              have hpb : (ad.add (i * 3)).block < W.heap.size := World.block_lt_of_cell? W _ g1
              have k : ∀ a u, W.cell? a = some u → wr.cell? a = some u := fun a u hu => (World.cell?_of_block (hbr.block _ (World.block_lt_of_cell? W _ hu))).trans hu
              replace g1 := k _ _ g1; replace g2 := k _ _ g2; replace g3 := k _ _ g3
              have hti : x.parts[i]? = some x.parts[i] := by simp [hin]
              have hft := HF.out x.parts[i] (List.getElem_mem hin)
              generalize x.parts[i] = z at *
              obtain ⟨q, hpz⟩ : ∃ q, ad.add (i * 3) = q := ⟨_, rfl⟩
              rw [add_lit _ _ _ (by omega)] at g2 g3
              rw [hpz] at g1 g2 g3 hpb
              obtain ⟨hz1, -, hz3, hz4⟩ := id g4
              obtain ⟨Ad2, cd2, rfl, -⟩ := hz3
              obtain ⟨Ap2, cp2, rfl, -⟩ := hz4.slice
              have hne : ¬ b = q.block := by omega
              have hne0 : ¬ (⟨b, i * 3, none⟩ : Addr) = q := fun h => hne (congrArg Addr.block h)
              obtain ⟨wc, hwc⟩ : ∃ y, y = wr.setCell ⟨b, i * 3, none⟩ (.int .u64 4711) := ⟨_, rfl⟩
              have hbc : Below w.heap.size w wc := by rw [hwc]; exact hbw.setCell (show w.heap.size ≤ b by omega) _
              have hcall := IH.out _ _ _ z W wc g4 hft (HB.out.trans (hbc.mono HB.out.size))
              have hsc : wc.heap.size = wr.heap.size := by rw [hwc]; simp [World.setCell]
              have hxw := set_hp (v := .int .u64 4711) (o := i * 3) hx (show w.heap.size ≠ b by omega)
              have hyw := set_hp (v := .int .u64 4711) (o := i * 3) hy (show w.heap.size + 1 ≠ b by omega)
              have hzw := set_hp (v := .int .u64 4711) (o := i * 3) hz (show w.heap.size + 2 ≠ b by omega)
              have haw : Arr _ _ _ _ := set_hp (v := .int .u64 4711) (o := i * 3) ha (show w.heap.size + 3 ≠ b by omega)
              have hrw := hrow.set (i * 3) (.int .u64 4711)
              rw [← hwc] at hxw hyw hzw haw hrw
              have HCALL := Lib.hid hcall; have HS := Lib.hid (And.intro hxw <| And.intro hyw <| And.intro hzw <| And.intro haw hrw); have HD0 := Lib.hid hd; have HTI := Lib.hid hti; have HBC := Lib.hid hbc; have HWC := Lib.hid hwc; have HSC := Lib.hid hsc
              clear hcall hxw hyw hzw haw hrw hd hti hbc hx hy hz ha hbw hbr g4 hz4 hrow k hft hsc
              go_wp2_with (go_at_call 9999)
              go_at_call 8
              rw [← hwc]
              refine HCALL.out.mono ?_
              rintro _ w8 ⟨nv8, dv8, pv8, rfl, hh8, hb8⟩
              obtain ⟨hn8, rfl, hd8, hp8⟩ := hh8
              have hb8' := HBC.out.trans (hb8.mono HBC.out.size)
              have hd8' := hd8.mono (base' := b + 1) (by have := HSC.out; omega)
              have hp8' := Hp.mono (base' := b + 1) (by have := HSC.out; omega) _ _ _ hp8
              obtain ⟨bd, rfl, -⟩ := id hd8
              obtain ⟨bp, rfl, -⟩ := hp8.slice
              have hbe8 : Below wr.heap.size (wr.setCell ⟨b, i * 3, none⟩ (.int .u64 4711)) w8 := by rw [← HWC.out, ← HSC.out]; exact hb8
              obtain ⟨f', hd9⟩ := HD0.out.step HTI.out hz1 hbe8 hd8' hp8'
              obtain ⟨hxw, hyw, hzw, haw, hrw⟩ := HS.out
              have hrw8 := World.rowIs.of_block (w' := w8) hrw (hb8.block b (by have := HSC.out; omega))
              have l3 : ∀ {g : Nat} {o : Obj}, hp wc g = some o → g ≠ b → hp (laid3 w8 b i (.int .u64 z.num) (.slice (some ⟨bd, 0, none⟩) z.data.length (z.data.length + 3)) (.slice (some ⟨bp, 0, none⟩) z.parts.length (z.parts.length + 3))) g = some o := fun h hne => (laid3_other _ _ _ _ _ _ _ hne).trans (below_hp h hb8)
              have q0 := hrw8.cell (i := i * 3) (by omega)
              have q1 := hrw8.cell (i := i * 3 + 1) (by omega)
              have q2 := hrw8.cell (i := i * 3 + 2) (by omega)
              have qf := hrw8.frozen
              have F := Lib.hid (And.intro hd9 <| And.intro (l3 hxw (by omega)) <| And.intro (l3 hyw (by omega)) <| And.intro (l3 hzw (by omega)) <| And.intro (show Arr _ _ _ _ from l3 haw (by omega)) (((Below.setCell (p := ⟨b, i * 3, none⟩) hb8' (show w.heap.size ≤ b by omega) (.int .u64 z.num)).setCell (p := ⟨b, i * 3 + 1, none⟩) (show w.heap.size ≤ b by omega) (.slice (some ⟨bd, 0, none⟩) z.data.length (z.data.length + 3))).setCell (p := ⟨b, i * 3 + 2, none⟩) (show w.heap.size ≤ b by omega) (.slice (some ⟨bp, 0, none⟩) z.parts.length (z.parts.length + 3))))
              clear l3 hrw8 hrw hxw hyw hzw haw hd9 hbe8 hd8 hp8 hd8' hp8' hb8 hb8' HS HCALL HD0 hfr k0 k1 k2 g1 g2 g3 hxc hzc hzf hwc
              generalize (if i * 3 = i * 3 then Value.int .u64 4711 else f (i * 3)) = y0 at q0
              generalize (if i * 3 + 1 = i * 3 then Value.int .u64 4711 else f (i * 3 + 1)) = y1 at q1
              generalize (if i * 3 + 2 = i * 3 then Value.int .u64 4711 else f (i * 3 + 2)) = y2 at q2
              go_wp2_with fail
              go_roundw
              case rel => exact ⟨i + 1, f', by omega, by go_num, F.out⟩
              case measure => simp [intOf]; omega
            · obtain ⟨f', hd'⟩ := hd.mark1 (by omega) hil
              have F := Lib.hid (And.intro hd' <| And.intro (set_hp (v := .int .u64 4711) (o := i * 3) hx (show w.heap.size ≠ b by omega)) <| And.intro (set_hp (v := .int .u64 4711) (o := i * 3) hy (show w.heap.size + 1 ≠ b by omega)) <| And.intro (set_hp (v := .int .u64 4711) (o := i * 3) hz (show w.heap.size + 2 ≠ b by omega)) <| And.intro (show Arr _ _ _ _ from set_hp (v := .int .u64 4711) (o := i * 3) ha (show w.heap.size + 3 ≠ b by omega)) (Below.setCell (p := ⟨b, i * 3, none⟩) hbw (show w.heap.size ≤ b by omega) (.int .u64 4711)))
              have hne : ¬ w.heap.size = b := by omega
              have hne' : ¬ b = w.heap.size := by omega
              clear hd' hd hx hy hz ha hbw hbr
              go_wp2_with fail
              go_roundw
              case rel => exact ⟨i + 1, f', by omega, by go_num, F.out⟩
              case measure => simp [intOf]; omega
          · obtain rfl : i = x.parts.length + 3 := by omega
            have hfin := hd
            have hyc := fun i => hp_cell hy i
            have hyf := fun i => hp_frozen hy i
            have FIN := Lib.hid (And.intro hfin <| And.intro hx <| And.intro hy <| And.intro hz <| And.intro ha hbw)
            have hne1 : ¬ w.heap.size = w.heap.size + 2 := by omega
            have hne2 : ¬ w.heap.size = w.heap.size + 1 := by omega
            have hne3 : ¬ w.heap.size + 1 = w.heap.size + 2 := by omega
            have hne4 : ¬ w.heap.size + 2 = w.heap.size + 1 := by omega
            clear hfin hx hy hz ha hbw hbr hd
            go_wp2_with fail
            obtain ⟨hd', hx, hy, hz, ha, hbw⟩ := FIN.out
            have hgr : hp ((((wr.setCell ⟨w.heap.size + 1 + 1, 2, none⟩ (.slice (some ⟨b, 0, none⟩) x.parts.length (x.parts.length + 3))).setCell ⟨w.heap.size + 1, 0, none⟩ (.int .u64 x.num)).setCell ⟨w.heap.size + 1, 1, none⟩ (.slice (some ⟨w.heap.size + 3, 0, none⟩) x.data.length (x.data.length + 3))).setCell ⟨w.heap.size + 1, 2, none⟩ (.slice (some ⟨b, 0, none⟩) x.parts.length (x.parts.length + 3))) (w.heap.size + 1) = some (.cells #[.int .u64 x.num, .slice (some ⟨w.heap.size + 3, 0, none⟩) x.data.length (x.data.length + 3), .slice (some ⟨b, 0, none⟩) x.parts.length (x.parts.length + 3)] 27 (0, 0)) := by
              have h1 := set_hp (v := .slice (some ⟨b, 0, none⟩) x.parts.length (x.parts.length + 3)) (o := 2) hy (show w.heap.size + 1 ≠ w.heap.size + 1 + 1 by omega)
              have h2 := heap_setCell_same _ (w.heap.size + 1) 0 _ _ (.int .u64 x.num) h1
              have h3 := heap_setCell_same _ (w.heap.size + 1) 1 _ _ (.slice (some ⟨w.heap.size + 3, 0, none⟩) x.data.length (x.data.length + 3)) h2
              exact heap_setCell_same _ (w.heap.size + 1) 2 _ _ _ h3
            have hkeep : ∀ k, k ≠ w.heap.size + 1 → k ≠ w.heap.size + 2 → ((((wr.setCell ⟨w.heap.size + 1 + 1, 2, none⟩ (.slice (some ⟨b, 0, none⟩) x.parts.length (x.parts.length + 3))).setCell ⟨w.heap.size + 1, 0, none⟩ (.int .u64 x.num)).setCell ⟨w.heap.size + 1, 1, none⟩ (.slice (some ⟨w.heap.size + 3, 0, none⟩) x.data.length (x.data.length + 3))).setCell ⟨w.heap.size + 1, 2, none⟩ (.slice (some ⟨b, 0, none⟩) x.parts.length (x.parts.length + 3))).heap[k]? = wr.heap[k]? := fun k h1 h2 => by
              rw [heap_setCell_other _ _ _ _ h1, heap_setCell_other _ _ _ _ h1, heap_setCell_other _ _ _ _ h1, heap_setCell_other _ _ _ _ h2]
            have hbl : Below w.heap.size w ((((wr.setCell ⟨w.heap.size + 1 + 1, 2, none⟩ (.slice (some ⟨b, 0, none⟩) x.parts.length (x.parts.length + 3))).setCell ⟨w.heap.size + 1, 0, none⟩ (.int .u64 x.num)).setCell ⟨w.heap.size + 1, 1, none⟩ (.slice (some ⟨w.heap.size + 3, 0, none⟩) x.data.length (x.data.length + 3))).setCell ⟨w.heap.size + 1, 2, none⟩ (.slice (some ⟨b, 0, none⟩) x.parts.length (x.parts.length + 3))) := (((Below.setCell (p := ⟨w.heap.size + 1 + 1, 2, none⟩) hbw (by simp; omega) _).setCell (by simp) _).setCell (by simp) _).setCell (by simp) _
            have hpfin : Hp _ w.heap.size (n + 1) (.slice (some ⟨b, 0, none⟩) x.parts.length (x.parts.length + 3)) x.parts := Hp.keep (base := w.heap.size + 3) _ _ _ (hd'.hd (base := w.heap.size + 3) (by omega)) (fun k h1 _ => hkeep k (by omega) (by omega)) |> fun h => Hp.mono (by omega) _ _ _ h
            have hdfin : Dh _ w.heap.size (.slice (some ⟨w.heap.size + 3, 0, none⟩) x.data.length (x.data.length + 3)) x.data := ⟨w.heap.size + 3, rfl, by omega, (hkeep _ (by omega) (by omega)).trans ha⟩
            exact ret_row Tryz.results8 Tryz.underlying27 rfl (by kernel_rfl) rfl hgr rfl ⟨_, _, _, rfl, ⟨hnum, rfl, hdfin, hpfin⟩, hbl⟩
end Go.Proofs.YtpfckpaokoifhaaGreatDoor.Hx
