/- leftValue: a value in memory of its own is as it was. -/
import Derived.Test.YtpfckpaokoifhaaGreatDoorHw
import Derived.BigRegion
import Derived.Deep.RegionWith
namespace Go.Proofs.YtpfckpaokoifhaaGreatDoor.Lv
open Go Go.RowKit Go.Proofs.YtpfckpaokoifhaaGreatDoor.Pa Go.Proofs.YtpfckpaokoifhaaGreatDoor.Pb Go.Proofs.YtpfckpaokoifhaaGreatDoor.Pc Go.Proofs.YtpfckpaokoifhaaGreatDoor.Pf Go.Proofs.YtpfckpaokoifhaaGreatDoor.Sc Go.Proofs.YtpfckpaokoifhaaGreatDoor.Rs Go.Proofs.YtpfckpaokoifhaaGreatDoor.Hs Go.Proofs.YtpfckpaokoifhaaGreatDoor.Vu Go.Proofs.YtpfckpaokoifhaaGreatDoor.Vo Go.Proofs.YtpfckpaokoifhaaGreatDoor.Hv Go.Proofs.YtpfckpaokoifhaaGreatDoor.Hx
set_option linter.unusedVariables false
set_option linter.unusedSimpArgs false
set_option maxHeartbeats 2000000 in
set_option maxRecDepth 100000 in
theorem leftValue : ∀ (n base : Nat) (nv' dv' pv' nv dv pv : Value) (x : Va) (W w : World), RdV W n nv dv pv x → Hw w base n nv' dv' pv' x → FewV (n + 1) x → Below W.heap.size W w →
    Calls Tryz.prog 12 #[.agg #[nv', dv', pv'], .agg #[nv, dv, pv]] w fun e w' => e = .returned (.bool true) ∧ Below w.heap.size w w' := by
  intro n
  induction n with
  | zero => exact fun base nv' dv' pv' nv dv pv x W w h _ _ _ => h.2.2.2.elim
  | succ n ih =>
    intro base nv' dv' pv' nv dv pv x W w h hh hf hB
    obtain ⟨hnum, rfl, hdv, hpv⟩ := h
    obtain ⟨hf1, hf2, hf3⟩ := hf
    obtain ⟨-, rfl, hdh, hph⟩ := hh
    obtain ⟨bd, rfl, hbd, had⟩ := hdh
    obtain ⟨bp, f, rfl, hbp, hrow, hpart, hmark⟩ := hph
    obtain ⟨Ad, cd, rfl, hd1, hd2⟩ : ∃ A c, dv = .slice A x.data.length c ∧ x.data.length ≤ c ∧ c ≤ maxLen := by obtain ⟨A, c, e, h1, h2, -⟩ := hdv; exact ⟨A, c, e, h1, h2⟩
    obtain ⟨Ap, cp, rfl, hp1, hp2⟩ := hpv.slice
    clear hd1 hd2 hp1 hp2
    obtain ⟨w2, hw2⟩ : ∃ y, y = (w.alloc (.cells #[.int .u64 x.num, .slice (some ⟨bd, 0, none⟩) x.data.length (x.data.length + 3), .slice (some ⟨bp, 0, none⟩) x.parts.length (x.parts.length + 3)] 27)).alloc (.cells #[.int .u64 x.num, .slice Ad x.data.length cd, .slice Ap x.parts.length cp] 27) := ⟨_, rfl⟩
    have hb2 : Below w.heap.size w w2 := by
      have h : ∀ {w' : World} (o : Obj), Below w.heap.size w w' → Below w.heap.size w (w'.alloc o) := fun o hb => hb.alloc hb.size _
      rw [hw2]; exact h _ (h _ (Below.refl _ _))
    have hx2 : hp w2 w.heap.size = some (.cells #[.int .u64 x.num, .slice (some ⟨bd, 0, none⟩) x.data.length (x.data.length + 3), .slice (some ⟨bp, 0, none⟩) x.parts.length (x.parts.length + 3)] 27 (0, 0)) := by rw [hw2]; exact (hp_alloc_past _ _ (by simp)).trans (hp_alloc_at _ _ rfl)
    have hy2 : hp w2 (w.heap.size + 1) = some (.cells #[.int .u64 x.num, .slice Ad x.data.length cd, .slice Ap x.parts.length cp] 27 (0, 0)) := by rw [hw2]; exact hp_alloc_at _ _ (by simp)
    have had2 : Arr w2 bd 5 (x.data ++ [7, 8, 9]) := below_hp had hb2
    have hrow2 := World.rowIs.of_block (w' := w2) hrow (hb2.block bp hrow.lt)
    have hc1 := run_str Nm.u8 Tryz.underlying5 Tryz.underlying9 (Dh.rd (w := w2) (base := 0) ⟨bd, rfl, Nat.zero_le _, had2⟩ hf1)
    have hc2 := run_str Nm.u8 Tryz.underlying5 Tryz.underlying9 (rd_keep (hB.trans (hb2.mono hB.size)).block hdv)
    have hxc := fun i => hp_cell hx2 i
    have hyc := fun i => hp_cell hy2 i
    have IH := Lib.hid ih; have H := Lib.hid hpv; have HB := Lib.hid hB; have HF := Lib.hid hf3; have HP := Lib.hid hpart; have HM := Lib.hid hmark; have HAD := Lib.hid had2; have HROW := Lib.hid hrow2; have HX := Lib.hid hx2; have HY := Lib.hid hy2; have HB2 := Lib.hid hb2; have HR0 := Lib.hid hrow
    clear ih hpv hdv hB hf3 hpart hmark had had2 hrow hrow2 hx2 hy2 hb2
    go_enter Tryz.func12, Tryz.ntmps12
    go_upto_region 1 with fail
    rw [← hw2]
    clear hw2
    go_wp2_with fail
    clear hc1 hc2
    go_loop [7] (fun s => ∃ (k : Nat), k ≤ 3 ∧ s = .int .i64 k) (fun s => 3 - (intOf s).toNat)
    case atStart => exact ⟨0, by omega, rfl⟩
    case round =>
      obtain ⟨k, hk, rfl⟩ := hrel
      by_cases hk3 : k < 3
      · have hdc : w2.cell? ⟨bd, x.data.length + k, none⟩ = some (.int .u8 (7 + (k : Int))) := by
          rw [HAD.out.cellAt (x.data.length + k) (by simp; omega)]
          congr 2
          rw [List.getElem_append_right (by omega)]
          have : k = 0 ∨ k = 1 ∨ k = 2 := by omega
          rcases this with rfl | rfl | rfl <;> simp
        obtain ⟨m1, m2⟩ := HM.out (x.parts.length + k) (by omega) (by omega)
        have k0 := HROW.out.cell (i := (x.parts.length + k) * 3) (by omega)
        have k2 := HROW.out.cell (i := (x.parts.length + k) * 3 + 2) (by omega)
        rw [m1] at k0
        rw [m2] at k2
        have hw8 : IntKind.u8.wrap (7 + (k : Int)) = 7 + (k : Int) := wu8 (by omega) (by omega)
        clear m1 m2
        go_wp2_with fail
        go_round
        case rel => exact ⟨k + 1, by omega, by go_num⟩
        case measure => simp [intOf]; omega
      · obtain rfl : k = 3 := by omega
        rw [show ((3 : Nat) : Int) = 3 from rfl]
        go_wp2_with fail
        clear hxc hyc
        go_loopw [8] (fun s wr => ∃ (i : Nat), i ≤ x.parts.length ∧ s = .int .i64 i ∧ Below w2.heap.size w2 wr) (fun s _ => x.parts.length - (intOf s).toNat)
        case atStart => exact ⟨0, by omega, rfl, Below.refl _ _⟩
        case round =>
          obtain ⟨i, hi, rfl, hbw⟩ := hrel
          have hyr := below_hp HY.out hbw
          have hyc := fun i => hp_cell hyr i
          have HBW := Lib.hid hbw
          by_cases hin : i < x.parts.length
          · have hb1 : Below w.heap.size w wr := HB2.out.trans (hbw.mono HB2.out.size)
            have hbr : Below W.heap.size W wr := HB.out.trans (hb1.mono HB.out.size)
            obtain ⟨ad, rfl, dv2, pv2, g1, g2, g3, g4⟩ := H.out.at_ i hin
            have k : ∀ a u, W.cell? a = some u → wr.cell? a = some u := fun a u hu => (World.cell?_of_block (hbr.block _ (World.block_lt_of_cell? W _ hu))).trans hu
            replace g1 := k _ _ g1; replace g2 := k _ _ g2; replace g3 := k _ _ g3
            obtain ⟨e1, e2, e3, e4⟩ := HP.out i x.parts[i] (by simp [hin])
            have hft := HF.out x.parts[i] (List.getElem_mem hin)
            have hrr := HR0.out.of_block (w' := wr) (hb1.block bp HR0.out.lt)
            have k0 := hrr.cell (i := i * 3) (by omega)
            have k1 := hrr.cell (i := i * 3 + 1) (by omega)
            have k2 := hrr.cell (i := i * 3 + 2) (by omega)
            rw [e2] at k0
            generalize x.parts[i] = z at *
            obtain ⟨q, hpz⟩ : ∃ q, ad.add (i * 3) = q := ⟨_, rfl⟩
            rw [add_lit _ _ _ (by omega)] at g2 g3
            rw [hpz] at g1 g2 g3
            generalize f (i * 3 + 1) = dv1 at *
            generalize f (i * 3 + 2) = pv1 at *
            have hcall := IH.out base (.int .u64 z.num) dv1 pv1 (.int .u64 z.num) dv2 pv2 z W wr.drew g4 ((Hw.below (x := z) ⟨e1, rfl, e3, e4⟩ hb1).below (Below.refl _ _).drew) hft hbr.drew
            have HCALL := Lib.hid hcall
            obtain ⟨hz1, -, hz3, hz4⟩ := id g4
            obtain ⟨Ad2, cd2, rfl, -⟩ := hz3
            obtain ⟨Ap2, cp2, rfl, -⟩ := hz4.slice
            obtain ⟨bd2, rfl, -⟩ := id e3
            obtain ⟨bp2, rfl, -⟩ := e4.slice
            clear hcall g4 e1 e3 e4 hft hrr hz4 hbr hb1 hbw hyr e2 k
            go_upto_region 13 with fail
            go_region_with (go_at_call 12; refine HCALL.out.mono ?_; rintro _ w4 ⟨rfl, b4⟩; have HB4 := Lib.hid (HBW.out.trans (((Below.refl _ _).drew.trans (b4.mono (by simp))).mono HBW.out.size)))
            all_goals (go_wp2_with fail; go_roundw)
            all_goals first | exact ⟨i + 1, by omega, by go_num, HB4.out⟩ | (simp [intOf]; omega)
          · obtain rfl : i = x.parts.length := by omega
            go_wp2_with fail
            go_ret
            exact ⟨rfl, HB2.out.trans (HBW.out.mono HB2.out.size)⟩
end Go.Proofs.YtpfckpaokoifhaaGreatDoor.Lv
