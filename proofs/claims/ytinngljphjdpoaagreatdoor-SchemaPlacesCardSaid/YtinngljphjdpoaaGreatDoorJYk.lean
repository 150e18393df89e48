/- same: are two values the same, part by part? -/
import Derived.Test.YtinngljphjdpoaaGreatDoorJKu
import Derived.BigRegion
import Derived.Deep.RegionHeld3
import Derived.Test.YtinngljphjdpoaaGreatDoorJDe
import Derived.Test.YtinngljphjdpoaaGreatDoorJYl
import Derived.Test.YtinngljphjdpoaaGreatDoorJRa
import Derived.Test.YtinngljphjdpoaaGreatDoorJUv
import Derived.Deep.DeepCutAuto
import Derived.Lib.SlBytesConst
import Derived.Test.YtinngljphjdpoaaGreatDoorJCm
namespace Go.Proofs.YtinngljphjdpoaaGreatDoor.Sm
open Go Go.RowKit Go.Proofs.YtinngljphjdpoaaGreatDoor.Pa Go.Proofs.YtinngljphjdpoaaGreatDoor.Pb Go.Proofs.YtinngljphjdpoaaGreatDoor.Pc Go.Proofs.YtinngljphjdpoaaGreatDoor.Pf Go.Proofs.YtinngljphjdpoaaGreatDoor.Sc Go.Proofs.YtinngljphjdpoaaGreatDoor.Rs Go.Proofs.YtinngljphjdpoaaGreatDoor.Hs Go.Proofs.YtinngljphjdpoaaGreatDoor.Vu Go.Proofs.YtinngljphjdpoaaGreatDoor.Vo Go.Proofs.YtinngljphjdpoaaGreatDoor.Hx
set_option linter.unusedVariables false
set_option linter.unusedSimpArgs false
/-- Its lists are short, so many levels deep. -/
def PB : Nat → Va → Prop
  | 0, _ => True
  | n + 1, x => x.parts.length ≤ 5000000 ∧ ∀ y ∈ x.parts, PB n y
theorem va_eta (x : Va) : x = .mk x.num x.data x.parts := by cases x; rfl
theorem va_ext {x y : Va} (h1 : x.num = y.num) (h2 : x.data = y.data) (h3 : x.parts = y.parts) : x = y := by
  rw [va_eta x, va_eta y, h1, h2, h3]
theorem b2 (w : World) (o o' : Obj) : Below w.heap.size w ((w.alloc o).alloc o') := ((Below.refl _ _).alloc (Nat.le_refl _) _).alloc (by simp) _
def Ends (x y : Va) (w : World) (e : Ending) (w' : World) : Prop := ∃ r : Bool, e = .returned (.bool r) ∧ (r = true ↔ x = y) ∧ Below w.heap.size w w'
set_option maxHeartbeats 2000000 in
set_option maxRecDepth 100000 in
theorem same : ∀ (n k : Nat) (nv dv pv nv' dv' pv' : Value) (x y : Va) (w : World), RdV w n nv dv pv x → RdV w k nv' dv' pv' y → PB n x →
    Calls Tryz.prog 15 #[.agg #[nv, dv, pv], .agg #[nv', dv', pv']] w (Ends x y w) := by
  intro n
  induction n with
  | zero => exact fun k nv dv pv nv' dv' pv' x y w h _ _ => h.2.2.2.elim
  | succ n ih =>
    intro k nv dv pv nv' dv' pv' x y w h h' hf
    obtain ⟨hnum, rfl, hdv, hpv⟩ := h
    obtain ⟨hnum', rfl, hdv', hpv'⟩ := h'
    obtain ⟨hf2, hf3⟩ := hf
    obtain ⟨k, rfl⟩ := hpv'.pos
    obtain ⟨Ad, cd, rfl, -⟩ := id hdv
    obtain ⟨Ap, cp, rfl, -⟩ := hpv.slice
    obtain ⟨Ad', cd', rfl, -⟩ := id hdv'
    obtain ⟨Ap', cp', rfl, -⟩ := hpv'.slice
    obtain ⟨w2, hw2⟩ : ∃ y', y' = (w.alloc (.cells #[.int .u64 (x.num : Int), .slice Ad x.data.length cd, .slice Ap x.parts.length cp] 32)).alloc (.cells #[.int .u64 (y.num : Int), .slice Ad' y.data.length cd', .slice Ap' y.parts.length cp'] 32) := ⟨_, rfl⟩
    have hb2 : Below w.heap.size w w2 := by rw [hw2]; exact b2 _ _ _
    have hx2 : hp w2 w.heap.size = some (.cells #[.int .u64 (x.num : Int), .slice Ad x.data.length cd, .slice Ap x.parts.length cp] 32 (0, 0)) := by rw [hw2]; exact (hp_alloc_past _ _ (by simp)).trans (hp_alloc_at _ _ rfl)
    have hy2 : hp w2 (w.heap.size + 1) = some (.cells #[.int .u64 (y.num : Int), .slice Ad' y.data.length cd', .slice Ap' y.parts.length cp'] 32 (0, 0)) := by rw [hw2]; exact hp_alloc_at _ _ (by simp)
    have hc1 := run_str Nm.u8 Tryz.underlying5 Tryz.underlying9 (rd_keep hb2.block hdv)
    have hc2 := run_str Nm.u8 Tryz.underlying5 Tryz.underlying9 (rd_keep hb2.block hdv')
    have hxc := fun i => hp_cell hx2 i
    have hyc := fun i => hp_cell hy2 i
    have IH := Lib.hid ih; have H := Lib.hid hpv; have H' := Lib.hid hpv'; have HF := Lib.hid hf3; have HX := Lib.hid hx2; have HY := Lib.hid hy2; have HB2 := Lib.hid hb2
    clear ih hpv hpv' hdv hdv' hf3 hx2 hy2 hb2 hnum hnum'
    by_cases e1 : x.num = y.num
    · have z1 : ((x.num : Int) != (y.num : Int)) = false := by simp [e1]
      by_cases e2 : x.data = y.data
      · have z2 : (x.data == y.data) = true := by simp [e2]
        by_cases e3 : x.parts.length = y.parts.length
        · have z3 : ((x.parts.length : Int) != (y.parts.length : Int)) = false := by simp [e3]
          have E1 := Lib.hid e1; have E2 := Lib.hid e2; have E3 := Lib.hid e3
          clear e1 e2 e3
          go_enter Tryz.func15, Tryz.ntmps15
          go_upto_region 1 with fail
          rw [← hw2]
          clear hw2
          go_wp2_with fail
          clear hc1 hc2 hxc hyc z1 z2 z3
          go_loopw [5] (fun s wr => ∃ (i : Nat), i ≤ x.parts.length ∧ s = .int .i64 i ∧ x.parts.take i = y.parts.take i ∧ Below w2.heap.size w2 wr) (fun s _ => x.parts.length - (intOf s).toNat)
          case atStart => exact ⟨0, by omega, rfl, rfl, Below.refl _ _⟩
          case round =>
            obtain ⟨i, hi, rfl, htk, hbw⟩ := hrel
            have hxr := below_hp HX.out hbw
            have hyr := below_hp HY.out hbw
            have hxc := fun i => hp_cell hxr i
            have hyc := fun i => hp_cell hyr i
            have HBW := Lib.hid hbw; have HTK := Lib.hid htk
            clear htk
            by_cases hin : i < x.parts.length
            · have hin2 : i < y.parts.length := by have := E3.out; omega
              have hb1 : Below w.heap.size w wr := HB2.out.trans (hbw.mono HB2.out.size)
              obtain ⟨ad, rfl, dv2, pv2, g1, g2, g3, g4⟩ := H.out.at_ i hin
              obtain ⟨ad', rfl, dv3, pv3, j1, j2, j3, j4⟩ := H'.out.at_ i hin2
              have k0 : ∀ a u, w.cell? a = some u → wr.cell? a = some u := fun a u hu => (World.cell?_of_block (hb1.block _ (World.block_lt_of_cell? w _ hu))).trans hu
              replace g1 := k0 _ _ g1; replace g2 := k0 _ _ g2; replace g3 := k0 _ _ g3
              replace j1 := k0 _ _ j1; replace j2 := k0 _ _ j2; replace j3 := k0 _ _ j3
              have hft := HF.out x.parts[i] (List.getElem_mem hin)
              have hcall := IH.out k (.int .u64 x.parts[i].num) dv2 pv2 (.int .u64 y.parts[i].num) dv3 pv3 x.parts[i] y.parts[i] wr.drew (g4.below hb1.drew) (j4.below hb1.drew) hft
              have hst : x.parts[i] = y.parts[i] → x.parts.take (i + 1) = y.parts.take (i + 1) := fun h => by
                rw [List.take_succ_eq_append_getElem hin, List.take_succ_eq_append_getElem hin2, HTK.out, h]
              have hno : x.parts[i] ≠ y.parts[i] → x ≠ y := fun h e => h (by subst e; rfl)
              have HCALL := Lib.hid hcall; have HST := Lib.hid hst; have HNO := Lib.hid hno
              generalize x.parts[i] = z at *
              generalize y.parts[i] = z' at *
              obtain ⟨q, hpz⟩ : ∃ q, ad.add (i * 3) = q := ⟨_, rfl⟩
              obtain ⟨q', hpz'⟩ : ∃ q, ad'.add (i * 3) = q := ⟨_, rfl⟩
              rw [add_lit _ _ _ (by omega)] at g2 g3 j2 j3
              rw [hpz] at g1 g2 g3
              rw [hpz'] at j1 j2 j3
              obtain ⟨hz1, -, hz3, hz4⟩ := id g4
              obtain ⟨Ad2, cd2, rfl, -⟩ := hz3
              obtain ⟨Ap2, cp2, rfl, -⟩ := hz4.slice
              obtain ⟨hz1', -, hz3', hz4'⟩ := id j4
              obtain ⟨Ad3, cd3, rfl, -⟩ := hz3'
              obtain ⟨Ap3, cp3, rfl, -⟩ := hz4'.slice
              have hx0 : wr.cell? ⟨w.heap.size, 2, none⟩ = some (.slice (some ad) x.parts.length cp) := hxc 2
              have hy0 : wr.cell? ⟨w.heap.size + 1, 2, none⟩ = some (.slice (some ad') y.parts.length cp') := hyc 2
              have hi0 : (0 : Int) ≤ (i : Int) := by omega
              have hi1 : (i : Int) < (x.parts.length : Int) := by omega
              have hi2 : (i : Int) < (y.parts.length : Int) := by omega
              clear hcall g4 j4 hft hz4 hz4' hz1 hz1' hb1 hbw hxr hyr hst hno k0
              go_upto_region 6 with fail
              clear hxc hyc
              go_region_held3 (fun W => W.cell? ⟨w.heap.size, 2, none⟩ = some (.slice (some ad) x.parts.length cp) ∧ W.cell? ⟨w.heap.size + 1, 2, none⟩ = some (.slice (some ad') y.parts.length cp') ∧
                (W.cell? q = some (.int .u64 (z.num : Int)) ∧ W.cell? ⟨q.block, q.off + 1, none⟩ = some (.slice Ad2 z.data.length cd2) ∧ W.cell? ⟨q.block, q.off + 2, none⟩ = some (.slice Ap2 z.parts.length cp2)) ∧
                (W.cell? q' = some (.int .u64 (z'.num : Int)) ∧ W.cell? ⟨q'.block, q'.off + 1, none⟩ = some (.slice Ad3 z'.data.length cd3) ∧ W.cell? ⟨q'.block, q'.off + 2, none⟩ = some (.slice Ap3 z'.parts.length cp3))) (go_keep)
                (first | (go_at_call 15; refine HCALL.out.mono ?_; rintro _ w4 ⟨r, rfl, hr, b4⟩; have kk : ∀ a u, wr.cell? a = some u → w4.cell? a = some u := fun a u hu => (World.cell?_of_block (b4.block _ (World.block_lt_of_cell? wr _ hu))).trans hu; have x1 := kk _ _ hx0; have x2 := kk _ _ hy0; have x3 := kk _ _ g1; have x4 := kk _ _ g2; have x5 := kk _ _ g3; have x6 := kk _ _ j1; have x7 := kk _ _ j2; have x8 := kk _ _ j3; have HR := Lib.hid hr; have HB4 := Lib.hid (HBW.out.trans (((Below.refl _ _).drew.trans (b4.mono (by simp))).mono HBW.out.size)); clear hr kk b4))
              all_goals
                cases r with
                | true =>
                  go_wp2_with fail
                  go_roundw
                  case rel => exact ⟨i + 1, by omega, by go_num, HST.out (HR.out.1 rfl), HB4.out⟩
                  case measure => simp [intOf]; omega
                | false =>
                  go_wp2_with fail
                  go_ret
                  exact ⟨false, rfl, ⟨(fun h => by cases h), fun h => absurd h (HNO.out (fun e => by have := HR.out.2 e; cases this))⟩, HB2.out.trans (HB4.out.mono HB2.out.size)⟩
            · obtain rfl : i = x.parts.length := by omega
              go_wp2_with fail
              go_ret
              refine ⟨true, rfl, ⟨fun _ => va_ext E1.out E2.out ?_, fun _ => rfl⟩, HB2.out.trans (HBW.out.mono HB2.out.size)⟩
              have := HTK.out
              rw [List.take_length, E3.out, List.take_length] at this
              exact this
        · have z3 : ((x.parts.length : Int) != (y.parts.length : Int)) = true := by simp; omega
          clear e1 e2
          go_enter Tryz.func15, Tryz.ntmps15
          go_upto_region 1 with fail
          rw [← hw2]
          clear hw2
          go_wp2_with fail
          go_ret
          exact ⟨false, rfl, ⟨(fun h => by cases h), fun h => absurd (by rw [h]) e3⟩, HB2.out⟩
      · have z2 : (x.data == y.data) = false := by simpa using e2
        clear e1
        go_enter Tryz.func15, Tryz.ntmps15
        go_upto_region 1 with fail
        rw [← hw2]
        clear hw2
        go_wp2_with fail
        go_ret
        exact ⟨false, rfl, ⟨(fun h => by cases h), fun h => absurd (by rw [h]) e2⟩, HB2.out⟩
    · have z1 : ((x.num : Int) != (y.num : Int)) = true := by simp; omega
      go_enter Tryz.func15, Tryz.ntmps15
      go_upto_region 1 with fail
      rw [← hw2]
      clear hw2
      go_wp2_with fail
      go_ret
      exact ⟨false, rfl, ⟨(fun h => by cases h), fun h => absurd (by rw [h]) e1⟩, HB2.out⟩
end Go.Proofs.YtinngljphjdpoaaGreatDoor.Sm
/- lives: the document's example, by the program. -/
namespace Go.Proofs.YtinngljphjdpoaaGreatDoor.Li
open Go Go.RowKit Go.Proofs.YtinngljphjdpoaaGreatDoor.Pa Go.Proofs.YtinngljphjdpoaaGreatDoor.Pb Go.Proofs.YtinngljphjdpoaaGreatDoor.Pc Go.Proofs.YtinngljphjdpoaaGreatDoor.Pf Go.Proofs.YtinngljphjdpoaaGreatDoor.Sc Go.Proofs.YtinngljphjdpoaaGreatDoor.Rs Go.Proofs.YtinngljphjdpoaaGreatDoor.Hs Go.Proofs.YtinngljphjdpoaaGreatDoor.Vu Go.Proofs.YtinngljphjdpoaaGreatDoor.Vo Go.Proofs.YtinngljphjdpoaaGreatDoor.Vh Go.Proofs.YtinngljphjdpoaaGreatDoor.Ca Go.Proofs.YtinngljphjdpoaaGreatDoor.Cm Go.Proofs.YtinngljphjdpoaaGreatDoor.Ra Go.Proofs.YtinngljphjdpoaaGreatDoor.Ea Go.Proofs.YtinngljphjdpoaaGreatDoor.Hx Go.Proofs.YtinngljphjdpoaaGreatDoor.Ow Go.Proofs.YtinngljphjdpoaaGreatDoor.Yl
set_option linter.unusedVariables false
set_option linter.unusedSimpArgs false
theorem u_ab : Lib.validD [97, 98] = true := by decide
/-- The example's schema, as a literal lays it. -/
theorem rds0 {w : World} {a b : Nat} (ha : Pa.hp w a = some (.cells #[.int .i64 1, .int .i64 4, .int .u64 0, .int .u64 0, .slice none 0 0] 117 (0, 0)))
    (hb : Pa.hp w b = some (.cells #[.int .i64 1, .int .i64 1, .int .u64 1, .int .u64 300, .slice none 0 0, .int .i64 2, .int .i64 6, .int .u64 0, .int .u64 10, .slice none 0 0, .int .i64 5, .int .i64 9, .int .u64 0, .int .u64 2, .slice (some ⟨a, 0, none⟩) 1 1] 117 (0, 0))) :
    RdS w 3 (.slice (some ⟨b, 0, none⟩) 3 3) S0 := by
  refine ⟨_, 3, rfl, by decide, by simp [maxLen], fun _ => ⟨_, rfl, fun i t ht => ?_⟩⟩
  have hadd : ∀ g k, (⟨g, 0, none⟩ : Addr).add k = ⟨g, k, none⟩ := fun g k => by unfold Addr.add; split <;> simp_all
  have c := fun k => hp_cell hb k
  have d := fun k => hp_cell ha k
  rw [hadd]
  rcases i with _ | _ | _ | i
  · obtain rfl : t = .mk 1 1 1 300 [] := by simpa [S0] using ht.symm
    exact ⟨⟨by decide, by decide, by decide, by decide, by decide, by decide⟩, .slice none 0 0, ⟨c 0, c 1, c 2, c 3, c 4⟩, RdS.nil w 1⟩
  · obtain rfl : t = .mk 2 6 0 10 [] := by simpa [S0] using ht.symm
    exact ⟨⟨by decide, by decide, by decide, by decide, by decide, by decide⟩, .slice none 0 0, ⟨c 5, c 6, c 7, c 8, c 9⟩, RdS.nil w 1⟩
  · obtain rfl : t = .mk 5 9 0 2 [.mk 1 4 0 0 []] := by simpa [S0] using ht.symm
    refine ⟨⟨by decide, by decide, by decide, by decide, by decide, by decide⟩, .slice (some ⟨a, 0, none⟩) 1 1, ⟨c 10, c 11, c 12, c 13, c 14⟩, ?_⟩
    refine ⟨_, 1, rfl, by decide, by simp [maxLen], fun _ => ⟨_, rfl, fun i t ht => ?_⟩⟩
    rw [hadd]
    rcases i with _ | i
    · obtain rfl : t = .mk 1 4 0 0 [] := by simpa [Slot.sub] using ht.symm
      exact ⟨⟨by decide, by decide, by decide, by decide, by decide, by decide⟩, .slice none 0 0, ⟨d 0, d 1, d 2, d 3, d 4⟩, RdS.nil w 0⟩
    · simp [Slot.sub] at ht
  · simp [S0] at ht
theorem rdp_nil (w : World) (n : Nat) : RdP w (n + 1) (.slice none 0 0) [] := ⟨none, 0, rfl, by decide, by simp [maxLen], fun h => absurd h (by simp)⟩
/-- The example's message, as a literal lays it. -/
theorem rdv0 {w : World} {a b c d : Nat} {fr : Nat × Nat} (ha : Pa.hp w a = some (.cells #[.int .u8 97, .int .u8 98] 5 fr))
    (hb : Pa.hp w b = some (.cells #[.int .u64 1, .slice none 0 0, .slice none 0 0] 32 (0, 0)))
    (hc : Pa.hp w c = some (.cells #[.int .u64 0, .slice none 0 0, .slice (some ⟨b, 0, none⟩) 1 1] 32 (0, 0)))
    (hd : Pa.hp w d = some (.cells #[.int .u64 300, .slice none 0 0, .slice none 0 0, .int .u64 0, .slice (some ⟨a, 0, none⟩) 2 2, .slice none 0 0, .int .u64 0, .slice none 0 0, .slice (some ⟨c, 0, none⟩) 1 1] 32 (0, 0))) :
    RdV w 4 (.int .u64 0) (.slice none 0 0) (.slice (some ⟨d, 0, none⟩) 3 3) V0 := by
  have hadd : ∀ g k, (⟨g, 0, none⟩ : Addr).add k = ⟨g, k, none⟩ := fun g k => by unfold Addr.add; split <;> simp_all
  have ka := fun k => hp_cell ha k
  have kb := fun k => hp_cell hb k
  have kc := fun k => hp_cell hc k
  have kd := fun k => hp_cell hd k
  have nilr : Rd w (.slice none 0 0) [] := Rd.nil w
  have bytes : Rd w (.slice (some ⟨a, 0, none⟩) 2 2) [97, 98] := ⟨_, 2, rfl, by decide, by simp [maxLen], fun _ => ⟨_, rfl, fun j u hu => by
    rw [hadd, ka]
    rcases j with _ | _ | j
    · simpa [cb] using hu
    · simpa [cb] using hu
    · simp [cb] at hu⟩⟩
  refine ⟨by decide, rfl, nilr, ⟨_, 3, rfl, by decide, by simp [maxLen], fun _ => ⟨_, rfl, fun i x hx => ?_⟩⟩⟩
  simp only [hadd]
  rcases i with _ | _ | _ | i
  · obtain rfl : x = .mk 300 [] [] := by simpa [V0, Va.parts] using hx.symm
    exact ⟨by decide, _, _, kd 0, kd 1, kd 2, nilr, rdp_nil w 2⟩
  · obtain rfl : x = .mk 0 [97, 98] [] := by simpa [V0, Va.parts] using hx.symm
    exact ⟨by decide, _, _, kd 3, kd 4, kd 5, bytes, rdp_nil w 2⟩
  · obtain rfl : x = .mk 0 [] [.mk 0 [] [.mk 1 [] []]] := by simpa [V0, Va.parts] using hx.symm
    refine ⟨by decide, _, _, kd 6, kd 7, kd 8, nilr, ⟨_, 1, rfl, by decide, by simp [maxLen], fun _ => ⟨_, rfl, fun i x hx => ?_⟩⟩⟩
    simp only [hadd]
    rcases i with _ | i
    · obtain rfl : x = .mk 0 [] [.mk 1 [] []] := by simpa [Va.parts] using hx.symm
      refine ⟨by decide, _, _, kc 0, kc 1, kc 2, nilr, ⟨_, 1, rfl, by decide, by simp [maxLen], fun _ => ⟨_, rfl, fun i x hx => ?_⟩⟩⟩
      simp only [hadd]
      rcases i with _ | i
      · obtain rfl : x = .mk 1 [] [] := by simpa [Va.parts] using hx.symm
        exact ⟨by decide, _, _, kb 0, kb 1, kb 2, nilr, rdp_nil w 0⟩
      · simp [Va.parts] at hx
    · simp [Va.parts] at hx
  · simp [V0, Va.parts] at hx
theorem few0 : FewV 5 V0 := by
  simp [FewV, V0, Va.data, Va.parts]
theorem pb0 : Sm.PB 4 V0 := by
  simp [Sm.PB, V0, Va.parts]
set_option maxHeartbeats 2000000 in
set_option maxRecDepth 100000 in
theorem lives (w : World) (hT : TabU w) : Calls Tryz.prog 32 #[] w fun e w' => e = .returned (.bool true) ∧ Below w.heap.size w w' := by
  obtain ⟨w2, hw2⟩ : ∃ y, y = (w.alloc (.cells #[.int .i64 1, .int .i64 4, .int .u64 0, .int .u64 0, .slice none 0 0] 117)).alloc (.cells #[.int .i64 1, .int .i64 1, .int .u64 1, .int .u64 300, .slice none 0 0, .int .i64 2, .int .i64 6, .int .u64 0, .int .u64 10, .slice none 0 0, .int .i64 5, .int .i64 9, .int .u64 0, .int .u64 2, .slice (some ⟨w.heap.size, 0, none⟩) 1 1] 117) := ⟨_, rfl⟩
  have hb2 : Below w.heap.size w w2 := by rw [hw2]; exact Vh.b2 w _ _
  have ha2 : Pa.hp w2 w.heap.size = some (.cells #[.int .i64 1, .int .i64 4, .int .u64 0, .int .u64 0, .slice none 0 0] 117 (0, 0)) := by rw [hw2]; exact below_hp (hp_alloc_at _ _ rfl) (vb _ _)
  have hs2 : Pa.hp w2 (w.heap.size + 1) = some (.cells #[.int .i64 1, .int .i64 1, .int .u64 1, .int .u64 300, .slice none 0 0, .int .i64 2, .int .i64 6, .int .u64 0, .int .u64 10, .slice none 0 0, .int .i64 5, .int .i64 9, .int .u64 0, .int .u64 2, .slice (some ⟨w.heap.size, 0, none⟩) 1 1] 117 (0, 0)) := by rw [hw2]; exact hp_alloc_at _ _ (by simp)
  have CMP := Lib.hid (pCompile w2 (rds0 ha2 hs2))
  have HB2 := Lib.hid hb2; have HT := Lib.hid hT
  clear hb2 ha2 hs2 hT
  go_enter Tryz.func32, Tryz.ntmps32
  go_wp2_with (go_at_call 9999)
  rw [← hw2]
  clear hw2
  go_at_call 33
  refine CMP.out.mono ?_
  rintro _ w3 ⟨⟨h0, -⟩ | ⟨-, c, rfl, hc3⟩, b3⟩
  · exact absurd valid0 h0
  have HC := Lib.hid hc3; have HB3 := Lib.hid (HB2.out.trans (b3.mono HB2.out.size))
  unfold ptr
  clear hc3 b3
  have hcv : ∀ W : World, (convert 23 23 (.slice (some ⟨W.heap.size, 0, none⟩) 2 2)).run Tryz.prog (W.alloc (.cells #[.int .u8 97, .int .u8 98] 5)) = .ok (.slice (some ⟨W.heap.size, 0, none⟩) 2 2) (W.alloc (.cells #[.int .u8 97, .int .u8 98] 5 (2, 3))) :=
    fun W => Lib.run_convert_bytes_const W _ _ #[.int .u8 97, .int .u8 98] 2 2 Tryz.underlying23 Tryz.underlying5
  go_upto_region 5 with fail
  clear hcv
  obtain ⟨w5, hw5⟩ : ∃ y, y = (((((w3.alloc (.cells #[.int .u8 97, .int .u8 98] 5 (2, 3))).alloc (.cells #[.int .u64 1, .slice none 0 0, .slice none 0 0] 32)).alloc (.cells #[.int .u64 0, .slice none 0 0, .slice (some ⟨w3.heap.size + 1, 0, none⟩) 1 1] 32)).alloc
    (.cells #[.int .u64 300, .slice none 0 0, .slice none 0 0, .int .u64 0, .slice (some ⟨w3.heap.size, 0, none⟩) 2 2, .slice none 0 0, .int .u64 0, .slice none 0 0, .slice (some ⟨w3.heap.size + 1 + 1, 0, none⟩) 1 1] 32)).alloc (.cells #[.int .u64 0, .slice none 0 0, .slice (some ⟨w3.heap.size + 1 + 1 + 1, 0, none⟩) 3 3] 32)) := ⟨_, rfl⟩
  rw [← hw5]
  have hb5 : Below w3.heap.size w3 w5 := by
    have h : ∀ {w' : World} (o : Obj), Below w3.heap.size w3 w' → Below w3.heap.size w3 (w'.alloc o) := fun o hb => hb.alloc hb.size _
    rw [hw5]; exact h _ (h _ (h _ (h _ (h _ (Below.refl _ _)))))
  have k0 : Pa.hp w5 w3.heap.size = some (.cells #[.int .u8 97, .int .u8 98] 5 (2, 3)) := by rw [hw5]; exact below_hp (below_hp (below_hp (below_hp (hp_alloc_at _ _ rfl) (vb _ _)) (vb _ _)) (vb _ _)) (vb _ _)
  have k1 : Pa.hp w5 (w3.heap.size + 1) = some (.cells #[.int .u64 1, .slice none 0 0, .slice none 0 0] 32 (0, 0)) := by rw [hw5]; exact below_hp (below_hp (below_hp (hp_alloc_at _ _ (by simp)) (vb _ _)) (vb _ _)) (vb _ _)
  have k2 : Pa.hp w5 (w3.heap.size + 1 + 1) = some (.cells #[.int .u64 0, .slice none 0 0, .slice (some ⟨w3.heap.size + 1, 0, none⟩) 1 1] 32 (0, 0)) := by rw [hw5]; exact below_hp (below_hp (hp_alloc_at _ _ (by simp)) (vb _ _)) (vb _ _)
  have k3 : Pa.hp w5 (w3.heap.size + 1 + 1 + 1) = some (.cells #[.int .u64 300, .slice none 0 0, .slice none 0 0, .int .u64 0, .slice (some ⟨w3.heap.size, 0, none⟩) 2 2, .slice none 0 0, .int .u64 0, .slice none 0 0, .slice (some ⟨w3.heap.size + 1 + 1, 0, none⟩) 1 1] 32 (0, 0)) := by rw [hw5]; exact below_hp (hp_alloc_at _ _ (by simp)) (vb _ _)
  have k4 : Pa.hp w5 (w3.heap.size + 1 + 1 + 1 + 1) = some (.cells #[.int .u64 0, .slice none 0 0, .slice (some ⟨w3.heap.size + 1 + 1 + 1, 0, none⟩) 3 3] 32 (0, 0)) := by rw [hw5]; exact hp_alloc_at _ _ (by simp)
  clear hw5
  obtain ⟨-, -, hok, -⟩ := spans_eq valid0
  have hB5 := HB3.out.trans (hb5.mono HB3.out.size)
  have hrv := rdv0 k0 k1 k2 k3
  have ENC := Lib.hid (Ey.pEnc _ c 4 6 3 S0 _ _ _ V0 w5 (HC.out.below hb5) hok hrv few0 (HT.out.below hB5) (by decide))
  have hc4 := fun i => hp_cell k4 i
  have HRV := Lib.hid hrv; have HB5 := Lib.hid hB5; have HC5 := Lib.hid (HC.out.below hb5); have HOK := Lib.hid hok; have K4 := Lib.hid k4
  clear k0 k1 k2 k3 k4 hb5 hB5 hrv hok HC
  rw [chk0 Lib.validD u_ab, enc0] at ENC
  go_wp2_with (go_at_call 9999)
  go_at_call 26
  refine ENC.out.mono ?_
  rintro _ w6 (⟨v6, h0, -⟩ | ⟨A6, c6, -, rfl, ho6, b6⟩)
  · exact absurd rfl h0
  have hB6 := HB5.out.trans (b6.mono HB5.out.size)
  have hok := HOK.out
  have DEC := Lib.hid (De.pDec Lib.validD Uv.utf _ c 6 3 S0 _ B0 w6 (HC5.out.below b6) ho6.rd hok (HT.out.below hB6) (by decide))
  rw [back0 Lib.validD u_ab] at DEC
  have HO6 := Lib.hid ho6; have HB6 := Lib.hid hB6; have HC6 := Lib.hid (HC5.out.below b6); have HRV6 := Lib.hid (HRV.out.below b6); have K46 := Lib.hid (below_hp K4.out b6)
  clear ho6 hB6 b6 hok HC5 HRV K4 hc4
  rw [show B0.length = 12 from rfl] at DEC HO6 ⊢
  go_wp2_with (go_at_call 9999)
  go_at_call 12
  refine DEC.out.mono ?_
  rintro _ w7 ⟨⟨h0, -⟩ | ⟨-, nv, dv, pv, rfl, ho7⟩, b7⟩
  · exact absurd rfl h0
  have hrv7 := ho7.rd
  obtain ⟨-, rfl, x3, x4⟩ := ho7
  obtain ⟨A1, c1, rfl⟩ := x3.slice
  obtain ⟨A2, c2, -, -, -, e2', -⟩ := id x4
  subst e2'
  obtain ⟨w8, hw8⟩ : ∃ y, y = w7.alloc (.cells #[.int .u64 (V0.num : Int), .slice A1 V0.data.length c1, .slice A2 V0.parts.length c2] 32) := ⟨_, rfl⟩
  have hb8 : Below w7.heap.size w7 w8 := by rw [hw8]; exact vb _ _
  have hq8 : Pa.hp w8 w7.heap.size = some (.cells #[.int .u64 (V0.num : Int), .slice A1 V0.data.length c1, .slice A2 V0.parts.length c2] 32 (0, 0)) := by rw [hw8]; exact hp_alloc_at _ _ rfl
  have hB68 : Below w6.heap.size w6 w8 := b7.trans (hb8.mono b7.size)
  have ho8 := HO6.out.below hB68
  have hr8 := ho8.rd
  obtain ⟨g6, rfl⟩ : ∃ g, A6 = some ⟨g, 0, none⟩ := by
    rcases ho8.2 with ⟨e, h0⟩ | ⟨g, cap, cur, e, -⟩
    · exact absurd h0 (by decide)
    · simp only [Value.slice.injEq] at e
      exact ⟨g, e.1⟩
  have hcap : 12 ≤ c6 := hr8.len.2.1
  have hhalf := Gs.rd_mid hr8 0 6 (by decide) (by decide)
  rw [if_neg (by omega)] at hhalf
  have hh : Rd w8 (.slice (some ⟨g6, 0, none⟩) 6 c6) [8, 172, 2, 18, 2, 97] := by simpa [Addr.add, B0] using hhalf
  have hB8 := HB6.out.trans (hB68.mono HB6.out.size)
  have DEC2 := Lib.hid (De.pDec Lib.validD Uv.utf _ c 6 3 S0 _ _ w8 (HC6.out.below hB68) hh HOK.out (HT.out.below hB8) (by decide))
  have hne2 := half0 Lib.validD u_ab
  have HO8 := Lib.hid ho8; have HB8 := Lib.hid hB8; have HC8 := Lib.hid (HC6.out.below hB68); have HRV8 := Lib.hid (HRV6.out.below hB68); have K48 := Lib.hid (below_hp K46.out hB68); have HQ8 := Lib.hid hq8; have HRD8 := Lib.hid (hrv7.below hb8); have HNE2 := Lib.hid hne2
  have hcap' : (6 : Int) ≤ (c6 : Int) := by omega
  clear ho8 hB8 hB68 hb8 hq8 hr8 hhalf hh hne2 hrv7 x3 x4 b7 HO6 HB6 HC6 HRV6 K46 DEC
  go_upto_region 7 with fail
  rw [← hw8]
  clear hw8
  go_wp2_with (go_at_call 9999)
  go_at_call 12
  refine DEC2.out.mono ?_
  rintro _ w9 ⟨⟨h9, v9, rfl, he9⟩ | ⟨h9, -⟩, b9⟩
  rotate_left
  · exact absurd h9 HNE2.out
  obtain ⟨k9, rfl⟩ : ∃ k, v9 = .iface 76 (.pointer (some ⟨k, 0, none⟩)) := by
    rcases he9 with ⟨h, -⟩ | ⟨-, k, -, h, -⟩
    · exact absurd h h9
    · exact ⟨k, h⟩
  clear h9 he9 hcap'
  obtain ⟨w10, hw10⟩ : ∃ y, y = w9.alloc (.cells #[.int .u64 0, .slice none 0 0, .slice none 0 0] 32) := ⟨_, rfl⟩
  have hb10 : Below w9.heap.size w9 w10 := by rw [hw10]; exact vb _ _
  have hB810 : Below w8.heap.size w8 w10 := b9.trans (hb10.mono b9.size)
  have hpr := pRange (HC8.out.below hB810)
  rw [span0p] at hpr
  unfold ptr at hpr
  have PR := Lib.hid hpr; have HB810 := Lib.hid hB810
  clear hb10 hB810 hpr b9
  go_upto_region 8 with fail
  rw [← hw10]
  clear hw10
  go_wp2_with (go_at_call 9999)
  go_at_call 30
  refine PR.out.mono ?_
  rintro _ w11 ⟨rfl, b11⟩
  have hB811 : Below w8.heap.size w8 w11 := HB810.out.trans (b11.mono HB810.out.size)
  have hcs := run_str Nm.u8 Tryz.underlying5 Tryz.underlying9 (HO8.out.below hB811).rd
  have hcs' : (convert 23 9 (.slice (some ⟨g6, 0, none⟩) 12 c6)).run Tryz.prog w11 = .ok (.string ⟨#[8, 172, 2, 18, 2, 97, 98, 42, 3, 2, 8, 1]⟩) w11 := hcs
  have hq := below_hp HQ8.out hB811
  have hk4 := below_hp K48.out hB811
  have hcq := fun i => hp_cell hq i
  have hck := fun i => hp_cell hk4 i
  have hsm := Sm.same 4 7 _ _ _ _ _ _ V0 V0 w11 (HRV8.out.below hB811) (HRD8.out.below hB811) pb0
  have HSM := Lib.hid hsm; have HB811 := Lib.hid hB811
  clear hcs hq hk4 hsm hB811 b11
  go_wp2_with (go_at_call 9999)
  go_at_call 15
  refine HSM.out.mono ?_
  rintro _ w12 ⟨r, rfl, hr, b12⟩
  obtain rfl : r = true := hr.2 rfl
  have HB12 := Lib.hid (HB8.out.trans ((HB811.out.trans (b12.mono HB811.out.size)).mono HB8.out.size))
  clear hr b12 hcq hck hcs'
  go_wp2_with fail
  go_ret
  exact ⟨rfl, HB12.out⟩
end Go.Proofs.YtinngljphjdpoaaGreatDoor.Li
/- What the laws ask of schemas and values that are read: plain. -/
namespace Go.Proofs.YtinngljphjdpoaaGreatDoor.Yg
open Go Go.Proofs.YtinngljphjdpoaaGreatDoor Go.Proofs.YtinngljphjdpoaaGreatDoor.Nz Go.Proofs.YtinngljphjdpoaaGreatDoor.Sc Go.Proofs.YtinngljphjdpoaaGreatDoor.Rs Go.Proofs.YtinngljphjdpoaaGreatDoor.Ep Go.Proofs.YtinngljphjdpoaaGreatDoor.Gp Go.Proofs.YtinngljphjdpoaaGreatDoor.Hp Go.Proofs.YtinngljphjdpoaaGreatDoor.Hq Go.Proofs.YtinngljphjdpoaaGreatDoor.Gq Go.Proofs.YtinngljphjdpoaaGreatDoor.Ya Go.Proofs.YtinngljphjdpoaaGreatDoor.Yb Go.Proofs.YtinngljphjdpoaaGreatDoor.Yc Go.Proofs.YtinngljphjdpoaaGreatDoor.Yd Go.Proofs.YtinngljphjdpoaaGreatDoor.Ye Go.Proofs.YtinngljphjdpoaaGreatDoor.Gw Go.Proofs.YtinngljphjdpoaaGreatDoor.Gi Go.Proofs.YtinngljphjdpoaaGreatDoor.Es Go.Proofs.YtinngljphjdpoaaGreatDoor.Cm Go.Proofs.YtinngljphjdpoaaGreatDoor.Vu Go.Proofs.YtinngljphjdpoaaGreatDoor.Vo
set_option linter.unusedVariables false
set_option linter.unusedSimpArgs false
theorem asc_of (f : List Slot → Nat → Option Nat) : ∀ (s : List Slot) (last : Int) (room r : Nat), canGo f s last room = some r → AscGo last s ∧ ∀ t ∈ s, nest t = true → ∃ a b, f t.sub a = some b
  | [], _, _, _, _ => ⟨trivial, by simp⟩
  | t :: q, last, room, r, h => by
    simp only [canGo] at h
    split at h
    · cases h
    · split at h
      · cases h
      · rename_i hf
        have hlt : last < t.no := by
          by_cases hh : last < t.no
          · exact hh
          · exact absurd (fine_no1 (by omega)) hf
        split at h
        · rename_i hn
          split at h
          · cases h
          · rename_i q' hq
            obtain ⟨g1, g2⟩ := asc_of f q t.no q' r h
            refine ⟨⟨hlt, g1⟩, fun u hu hnu => ?_⟩
            rcases List.mem_cons.1 hu with rfl | hu
            · exact ⟨_, _, hq⟩
            · exact g2 u hu hnu
        · rename_i hn
          split at h
          · obtain ⟨g1, g2⟩ := asc_of f q t.no _ r h
            refine ⟨⟨hlt, g1⟩, fun u hu hnu => ?_⟩
            rcases List.mem_cons.1 hu with rfl | hu
            · exact absurd hnu hn
            · exact g2 u hu hnu
          · cases h
theorem sch_can {w : World} : ∀ (n k : Nat) (v : Value) (l : List Slot) (room r : Nat), RdS w n v l → canL k l room = some r → okL k l → Sch n l
  | 0, _, _, _, _, _, h, _, _ => h.elim
  | n + 1, 0, _, _, _, _, _, h, _ => by cases h
  | n + 1, k + 1, v, l, room, r, h, hc, hok => by
    obtain ⟨A, c, rfl, -, -⟩ := h.slice
    simp only [canL] at hc
    split at hc
    · cases hc
    · obtain ⟨g1, g2⟩ := asc_of _ _ _ _ _ hc
      refine ⟨by omega, g1, fun t ht => ?_⟩
      obtain ⟨i, hi, rfl⟩ := List.getElem_of_mem ht
      obtain ⟨-, -, hw, sv, -, hs⟩ := h.at_ i hi
      obtain ⟨h1, h2, h3, h4, -⟩ := hok.2 _ ht
      refine ⟨h1, h2, h3, hw.most, fun hn => ?_⟩
      obtain ⟨a, b, hab⟩ := g2 _ ht hn
      exact sch_can n k sv _ a b hs hab (h4 hn)
theorem sch_of {w : World} {n : Nat} {v : Value} {l : List Slot} (h : RdS w n v l) (hv : valid n l = 0) : Sch n l := by
  obtain ⟨-, -, hok, -⟩ := spans_eq hv
  unfold valid at hv
  split at hv
  · cases hv
  · rename_i hc
    cases hc' : canL 6 l 256 with
    | none => exact absurd hc' hc
    | some r => exact sch_can n 6 v l _ _ h hc' hok
theorem Sch.pos {n : Nat} {l : List Slot} (h : Sch n l) : 0 < n := by
  cases n with
  | zero => exact h.elim
  | succ n => omega
theorem num_parts {w : World} : ∀ (n : Nat) (v : Value) (l : List Va), RdP w n v l → ∀ y ∈ l, NumV n y
  | 0, _, _, h, _, _ => h.elim
  | n + 1, v, l, h, y, hy => by
    obtain ⟨A, c, -, -, -, hc⟩ := h
    obtain ⟨i, hi, rfl⟩ := List.getElem_of_mem hy
    obtain ⟨ad, -, hx⟩ := hc (by omega)
    obtain ⟨hn, dv, pv, -, -, -, -, hp⟩ := hx i _ (List.getElem?_eq_getElem hi)
    exact ⟨hn, fun z hz => num_parts n pv _ hp z hz⟩
theorem num_of {w : World} {m : Nat} {nv dv pv : Value} {x : Va} (h : RdV w m nv dv pv x) : NumV (m + 1) x := ⟨h.1, fun y hy => num_parts m pv _ h.2.2.2 y hy⟩
theorem pb_of : ∀ (n : Nat) (x : Va), FewV n x → Sm.PB n x
  | 0, _, _ => trivial
  | n + 1, x, h => ⟨by have := h.2.1; omega, fun y hy => pb_of n y (h.2.2 y hy)⟩
theorem pb_le : ∀ {n m : Nat} {x : Va}, n ≤ m → Sm.PB m x → Sm.PB n x
  | 0, _, _, _, _ => trivial
  | n + 1, 0, _, h, _ => by omega
  | n + 1, m + 1, x, h, hp => ⟨hp.1, fun y hy => pb_le (by omega) (hp.2 y hy)⟩
theorem few_up : ∀ {n m : Nat} {x : Va}, n ≤ m → FewV n x → FewV m x
  | 0, _, _, _, h => h.elim
  | n + 1, 0, _, h, _ => by omega
  | n + 1, m + 1, x, h, hp => ⟨hp.1, hp.2.1, fun y hy => few_up (by omega) (hp.2.2 y hy)⟩
theorem few_items (U : List UInt8 → Bool) (n m : Nat) (sub : List Slot) (IH : ∀ b p, (Rv.rdv U n sub b p).1.2.2 = 0 → FewV m (Rv.rdv U n sub b p).2) : ∀ (l : List (List UInt8)) (p : Int), (Rv.iGo (Rv.rdv U n sub) l p).1.2.2 = 0 →
    (Rv.iGo (Rv.rdv U n sub) l p).2.length = l.length ∧ ∀ y ∈ (Rv.iGo (Rv.rdv U n sub) l p).2, FewV m y
  | [], p, _ => by simp [Rv.iGo]
  | x :: l, p, h => by
    simp only [Rv.iGo] at h ⊢
    by_cases hz : (Rv.rdv U n sub x (p + sz x.length)).1.2.2 = 0
    · rw [if_neg (by simp [hz])] at h ⊢
      obtain ⟨h1, h2⟩ := few_items U n m sub IH l _ h
      refine ⟨by simp [h1], fun y hy => ?_⟩
      rcases List.mem_cons.1 hy with rfl | hy
      · exact IH _ _ hz
      · exact h2 y hy
    · rw [if_pos hz] at h
      exact absurd h hz
theorem few_rows (U : List UInt8 → Bool) (n : Nat) (IH : ∀ s b p, Sch n s → (Rv.rdv U n s b p).1.2.2 = 0 → FewV (2 * n + 1) (Rv.rdv U n s b p).2) : ∀ (s : List Slot) (fs : List Ep.Fd) (p : Int),
    (∀ t ∈ s, bnd t = true ∧ (nest t = true → Sch n t.sub)) → (∀ f ∈ fs, f.data.length ≤ 4194304) → (Rv.rGo (Rv.rSlot U (Rv.rdv U n)) s fs p).1.2.2 = 0 →
    (Rv.rGo (Rv.rSlot U (Rv.rdv U n)) s fs p).2.length = s.length ∧ ∀ y ∈ (Rv.rGo (Rv.rSlot U (Rv.rdv U n)) s fs p).2, FewV (2 * n + 2) y
  | [], [], p, _, _, _ => by simp [Rv.rGo]
  | [], f :: r, p, _, _, h => by simp [Rv.rGo] at h
  | t :: s, [], p, _, _, h => by simp [Rv.rGo] at h
  | t :: s, g :: fs, p, ht, hf, h => by
    simp only [Rv.rGo] at h ⊢
    by_cases h1 : g.no = t.no
    · rw [if_neg (by simp [h1])] at h ⊢
      by_cases h2 : g.ty = (wt t.kind : Int)
      · rw [if_neg (by simp [h2])] at h ⊢
        by_cases h3 : (Rv.rSlot U (Rv.rdv U n) t g p).1.2.2 = 0
        · rw [if_neg (by simp [h3])] at h ⊢
          obtain ⟨r1, r2⟩ := few_rows U n IH s fs _ (fun u hu => ht u (by simp [hu])) (fun u hu => hf u (by simp [hu])) h
          refine ⟨by simp [r1], fun y hy => ?_⟩
          rcases List.mem_cons.1 hy with rfl | hy
          · obtain ⟨hb, hs⟩ := ht t (by simp)
            have hd := hf g (by simp)
            unfold Rv.rSlot at h3 ⊢
            by_cases h8 : t.kind = 8
            · rw [if_pos h8] at h3 ⊢
              exact few_up (by omega) (IH t.sub _ _ (hs (by simp [nest, h8])) h3)
            · rw [if_neg h8] at h3 ⊢
              by_cases h9 : t.kind = 9
              · rw [if_pos h9] at h3 ⊢
                have hm : t.most ≤ 4096 := by
                  unfold bnd at hb
                  rw [h9] at hb
                  simp at hb
                  exact hb.2
                split
                · exact ⟨by simp [Rv.va0, Va.data], by simp [Rv.va0, Va.parts], by simp [Rv.va0, Va.parts]⟩
                · rename_i hse
                  rw [if_neg hse] at h3
                  split
                  · exact ⟨by simp [Rv.va0, Va.data], by simp [Rv.va0, Va.parts], by simp [Rv.va0, Va.parts]⟩
                  · rename_i hwi
                    rw [if_neg hwi] at h3
                    have hw := within0.1 (Decidable.not_not.1 hwi)
                    obtain ⟨q1, q2⟩ := few_items U n (2 * n + 1) t.sub (fun b p h => IH t.sub b p (hs (by simp [nest, h9])) h) _ _ h3
                    refine ⟨by simp [Va.data], by simp only [Va.parts, q1]; omega, fun z hz => q2 z hz⟩
              · rw [if_neg h9]
                split
                · exact ⟨by simp [Rv.va0, Va.data], by simp [Rv.va0, Va.parts], by simp [Rv.va0, Va.parts]⟩
                · exact ⟨by simp only [Va.data]; omega, by simp [Va.parts], by simp [Va.parts]⟩
          · exact r2 y hy
        · rw [if_pos h3] at h
          exact absurd h h3
      · rw [if_pos h2] at h
        exact absurd h (by simp)
    · rw [if_pos h1] at h
      exact absurd h (by simp)
theorem fd_len : ∀ (fs : List Ep.Fd) (f : Ep.Fd), f ∈ fs → (f.ty = 2 ∨ f.data = []) → f.data.length ≤ (Ep.bytes fs).length
  | g :: fs, f, hf, h => by
    have hb : (Ep.bytes (g :: fs)).length = (Ep.one g).length + (Ep.bytes fs).length := by simp [Ep.bytes]
    rcases List.mem_cons.1 hf with rfl | hf
    · have h1 := one_len f.no f.ty f.num f.data
      have h2 : Ep.Fd.mk f.no f.ty f.num f.data = f := by cases f; rfl
      rw [h2] at h1
      rcases h with h | h
      · rw [h] at h1
        simp [fr] at h1
        omega
      · rw [h]; simp
    · have := fd_len fs f hf h
      omega
theorem few_rdv (U : List UInt8 → Bool) : ∀ (n : Nat) (s : List Slot) (b : List UInt8) (p : Int), Sch n s → (Rv.rdv U n s b p).1.2.2 = 0 → FewV (2 * n + 1) (Rv.rdv U n s b p).2
  | 0, _, _, _, h, _ => h.elim
  | n + 1, s, b, p, hs, hr => by
    obtain ⟨s1, s2, s3⟩ := hs
    rw [Rv.rdv_succ] at hr ⊢
    by_cases he : wErr b = 0
    · rw [if_neg (by simp [he])] at hr ⊢
      have hbl : ¬ 4194304 < b.length := by
        intro hh
        unfold wErr at he
        rw [if_pos hh] at he
        exact absurd he (by decide)
      have hde : (D b 0 0).err = 0 := by unfold wErr at he; rwa [if_neg hbl] at he
      have hall := Rv.D_all _ b 0 0 rfl (by omega) hde
      have hfld := Rv.D_fld _ b 0 0 rfl (by omega)
      have hf : ∀ f ∈ (D b 0 0).fs, f.data.length ≤ 4194304 := fun f hf => by
        have := fd_len _ f hf (by
          by_cases h : f.ty = 2
          · exact .inl h
          · exact .inr ((hfld f hf).2.2.2.2.2.2 h))
        rw [← hall] at this
        omega
      obtain ⟨h1, h2⟩ := few_rows U n (fun s b p h g => few_rdv U n s b p h g) s _ p (fun t ht => ⟨(s3 t ht).2.2.1, (s3 t ht).2.2.2.2⟩) hf hr
      exact ⟨by simp [Va.data], by simp only [Va.parts, h1]; omega, fun y hy => h2 y hy⟩
    · rw [if_pos he] at hr
      exact absurd hr he
theorem pf_in (a b : Nat) : Vh.pF a b = 0 ∨ Vh.pF a b = 83 ∨ Vh.pF a b = 84 := by
  unfold Vh.pF
  split
  · exact .inr (.inr rfl)
  · split
    · exact .inr (.inl rfl)
    · exact .inl rfl
end Go.Proofs.YtinngljphjdpoaaGreatDoor.Yg
/- Compile, with all that is known of what it takes. -/
namespace Go.Proofs.YtinngljphjdpoaaGreatDoor.Yk
open Go Go.RowKit Go.Proofs.YtinngljphjdpoaaGreatDoor Go.Proofs.YtinngljphjdpoaaGreatDoor.Pa Go.Proofs.YtinngljphjdpoaaGreatDoor.Pb Go.Proofs.YtinngljphjdpoaaGreatDoor.Pc Go.Proofs.YtinngljphjdpoaaGreatDoor.Sc Go.Proofs.YtinngljphjdpoaaGreatDoor.Rs Go.Proofs.YtinngljphjdpoaaGreatDoor.Va Go.Proofs.YtinngljphjdpoaaGreatDoor.Ca Go.Proofs.YtinngljphjdpoaaGreatDoor.Cm Go.Proofs.YtinngljphjdpoaaGreatDoor.Yb Go.Proofs.YtinngljphjdpoaaGreatDoor.Yg
set_option linter.unusedVariables false
/-- What is known of a schema that is taken. -/
structure Good (l : List Slot) : Prop where
  sch : Sch 7 l
  ok : okL 6 l
  least : (pSpan 7 l).1 = (exSpan 7 l).1
  most : (pSpan 7 l).2 = (exSpan 7 l).2
  room : (exSpan 7 l).2 ≤ 4194304
  val : valid 7 l = 0
def PComp (l : List Slot) (w : World) (e : Ending) (w' : World) : Prop :=
  ((∃ z : Int, z ≠ 0 ∧ e = .returned (.tuple #[.pointer none, .int .i64 z])) ∨ (∃ c, e = .returned (.tuple #[.pointer (some ⟨c, 0, none⟩), .int .i64 0]) ∧ (∃ S, Cd w' S 7 c l) ∧ Good l)) ∧ Below w.heap.size w w'
theorem comp {n : Nat} {v : Value} {l : List Slot} (w : World) (h : RdS w n v l) : Calls Tryz.prog 33 #[v] w (PComp l w) := by
  by_cases hv : valid n l = 0
  · obtain ⟨-, -, hok, -⟩ := spans_eq hv
    have h7 := Ck.rds_ok 6 n v l hok h
    refine (pCompile w h7).mono ?_
    rintro e w' ⟨⟨h0, rfl⟩ | ⟨h0, c, rfl, hc⟩, hb⟩
    · exact ⟨.inl ⟨_, h0, rfl⟩, hb⟩
    · obtain ⟨-, -, hok', hsp, heq⟩ := spans_eq h0
      exact ⟨.inr ⟨c, rfl, ⟨_, hc⟩, ⟨sch_of h7 h0, hok, by rw [heq], by rw [heq], hsp, h0⟩⟩, hb⟩
  · refine (pCompile w h).mono ?_
    rintro e w' ⟨⟨h0, rfl⟩ | ⟨h0, c, rfl, hc⟩, hb⟩
    · exact ⟨.inl ⟨_, h0, rfl⟩, hb⟩
    · exact absurd h0 hv
end Go.Proofs.YtinngljphjdpoaaGreatDoor.Yk
