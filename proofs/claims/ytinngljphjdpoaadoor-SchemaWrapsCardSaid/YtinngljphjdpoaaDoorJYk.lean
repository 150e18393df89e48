/- same: are two values the same, part by part? -/
import Derived.Test.YtinngljphjdpoaaDoorJRa
import Derived.BigRegion
import Derived.Deep.RegionHeld3
import Derived.Test.YtinngljphjdpoaaDoorJYl
import Derived.Test.YtinngljphjdpoaaDoorJCm
namespace Go.Proofs.YtinngljphjdpoaaDoor.Sm
open Go Go.RowKit Go.Proofs.YtinngljphjdpoaaDoor.Pa Go.Proofs.YtinngljphjdpoaaDoor.Pb Go.Proofs.YtinngljphjdpoaaDoor.Pc Go.Proofs.YtinngljphjdpoaaDoor.Pf Go.Proofs.YtinngljphjdpoaaDoor.Sc Go.Proofs.YtinngljphjdpoaaDoor.Rs Go.Proofs.YtinngljphjdpoaaDoor.Hs Go.Proofs.YtinngljphjdpoaaDoor.Vu Go.Proofs.YtinngljphjdpoaaDoor.Vo Go.Proofs.YtinngljphjdpoaaDoor.Hx
set_option linter.unusedVariables false
set_option linter.unusedSimpArgs false
/-- Its lists are short, so many levels deep. -/
def PB : Nat → Va → Prop
  | 0, _ => True
  | n + 1, x => x.parts.length ≤ 5000000 ∧ ∀ y ∈ x.parts, PB n y
theorem va_eta (x : Va) : x = .mk x.num x.data x.parts := by cases x; rfl
theorem va_ext {x y : Va} (h1 : x.num = y.num) (h2 : x.data = y.data) (h3 : x.parts = y.parts) : x = y := by
  rw [va_eta x, va_eta y, h1, h2, h3]
theorem b2 (w : World) (o o' : Obj) : Below w.heap.size w ((w.alloc o).alloc o') := ((Below.refl _ _).alloc (Nat.le_refl _) _).alloc (by simp) _
def Ends (x y : Va) (w : World) (e : Ending) (w' : World) : Prop := ∃ r : Bool, e = .returned (.bool r) ∧ (r = true ↔ x = y) ∧ Below w.heap.size w w'
set_option maxHeartbeats 2000000 in
set_option maxRecDepth 100000 in
theorem same : ∀ (n k : Nat) (nv dv pv nv' dv' pv' : Value) (x y : Va) (w : World), RdV w n nv dv pv x → RdV w k nv' dv' pv' y → PB n x →
    Calls Tryd.prog 19 #[.agg #[nv, dv, pv], .agg #[nv', dv', pv']] w (Ends x y w) := by
  intro n
  induction n with
  | zero => exact fun k nv dv pv nv' dv' pv' x y w h _ _ => h.2.2.2.elim
  | succ n ih =>
    intro k nv dv pv nv' dv' pv' x y w h h' hf
    obtain ⟨hnum, rfl, hdv, hpv⟩ := h
    obtain ⟨hnum', rfl, hdv', hpv'⟩ := h'
    obtain ⟨hf2, hf3⟩ := hf
    obtain ⟨k, rfl⟩ := hpv'.pos
    obtain ⟨Ad, cd, rfl, -⟩ := id hdv
    obtain ⟨Ap, cp, rfl, -⟩ := hpv.slice
    obtain ⟨Ad', cd', rfl, -⟩ := id hdv'
    obtain ⟨Ap', cp', rfl, -⟩ := hpv'.slice
    obtain ⟨w2, hw2⟩ : ∃ y', y' = (w.alloc (.cells #[.int .u64 (x.num : Int), .slice Ad x.data.length cd, .slice Ap x.parts.length cp] 27)).alloc (.cells #[.int .u64 (y.num : Int), .slice Ad' y.data.length cd', .slice Ap' y.parts.length cp'] 27) := ⟨_, rfl⟩
    have hb2 : Below w.heap.size w w2 := by rw [hw2]; exact b2 _ _ _
    have hx2 : hp w2 w.heap.size = some (.cells #[.int .u64 (x.num : Int), .slice Ad x.data.length cd, .slice Ap x.parts.length cp] 27 (0, 0)) := by rw [hw2]; exact (hp_alloc_past _ _ (by simp)).trans (hp_alloc_at _ _ rfl)
    have hy2 : hp w2 (w.heap.size + 1) = some (.cells #[.int .u64 (y.num : Int), .slice Ad' y.data.length cd', .slice Ap' y.parts.length cp'] 27 (0, 0)) := by rw [hw2]; exact hp_alloc_at _ _ (by simp)
    have hc1 := run_str Nm.u8 Tryd.underlying5 Tryd.underlying9 (rd_keep hb2.block hdv)
    have hc2 := run_str Nm.u8 Tryd.underlying5 Tryd.underlying9 (rd_keep hb2.block hdv')
    have hxc := fun i => hp_cell hx2 i
    have hyc := fun i => hp_cell hy2 i
    have IH := Lib.hid ih; have H := Lib.hid hpv; have H' := Lib.hid hpv'; have HF := Lib.hid hf3; have HX := Lib.hid hx2; have HY := Lib.hid hy2; have HB2 := Lib.hid hb2
    clear ih hpv hpv' hdv hdv' hf3 hx2 hy2 hb2 hnum hnum'
    by_cases e1 : x.num = y.num
    · have z1 : ((x.num : Int) != (y.num : Int)) = false := by simp [e1]
      by_cases e2 : x.data = y.data
      · have z2 : (x.data == y.data) = true := by simp [e2]
        by_cases e3 : x.parts.length = y.parts.length
        · have z3 : ((x.parts.length : Int) != (y.parts.length : Int)) = false := by simp [e3]
          have E1 := Lib.hid e1; have E2 := Lib.hid e2; have E3 := Lib.hid e3
          clear e1 e2 e3
          go_enter Tryd.func19, Tryd.ntmps19
          go_upto_region 1 with fail
          rw [← hw2]
          clear hw2
          go_wp2_with fail
          clear hc1 hc2 hxc hyc z1 z2 z3
          go_loopw [5] (fun s wr => ∃ (i : Nat), i ≤ x.parts.length ∧ s = .int .i64 i ∧ x.parts.take i = y.parts.take i ∧ Below w2.heap.size w2 wr) (fun s _ => x.parts.length - (intOf s).toNat)
          case atStart => exact ⟨0, by omega, rfl, rfl, Below.refl _ _⟩
          case round =>
            obtain ⟨i, hi, rfl, htk, hbw⟩ := hrel
            have hxr := below_hp HX.out hbw
            have hyr := below_hp HY.out hbw
            have hxc := fun i => hp_cell hxr i
            have hyc := fun i => hp_cell hyr i
            have HBW := Lib.hid hbw; have HTK := Lib.hid htk
            clear htk
            by_cases hin : i < x.parts.length
            · have hin2 : i < y.parts.length := by have := E3.out; omega
              have hb1 : Below w.heap.size w wr := HB2.out.trans (hbw.mono HB2.out.size)
              obtain ⟨ad, rfl, dv2, pv2, g1, g2, g3, g4⟩ := H.out.at_ i hin
              obtain ⟨ad', rfl, dv3, pv3, j1, j2, j3, j4⟩ := H'.out.at_ i hin2
              have k0 : ∀ a u, w.cell? a = some u → wr.cell? a = some u := fun a u hu => (World.cell?_of_block (hb1.block _ (World.block_lt_of_cell? w _ hu))).trans hu
              replace g1 := k0 _ _ g1; replace g2 := k0 _ _ g2; replace g3 := k0 _ _ g3
              replace j1 := k0 _ _ j1; replace j2 := k0 _ _ j2; replace j3 := k0 _ _ j3
              have hft := HF.out x.parts[i] (List.getElem_mem hin)
              have hcall := IH.out k (.int .u64 x.parts[i].num) dv2 pv2 (.int .u64 y.parts[i].num) dv3 pv3 x.parts[i] y.parts[i] wr.drew (g4.below hb1.drew) (j4.below hb1.drew) hft
              have hst : x.parts[i] = y.parts[i] → x.parts.take (i + 1) = y.parts.take (i + 1) := fun h => by
                rw [List.take_succ_eq_append_getElem hin, List.take_succ_eq_append_getElem hin2, HTK.out, h]
              have hno : x.parts[i] ≠ y.parts[i] → x ≠ y := fun h e => h (by subst e; rfl)
              have HCALL := Lib.hid hcall; have HST := Lib.hid hst; have HNO := Lib.hid hno
              generalize x.parts[i] = z at *
              generalize y.parts[i] = z' at *
              obtain ⟨q, hpz⟩ : ∃ q, ad.add (i * 3) = q := ⟨_, rfl⟩
              obtain ⟨q', hpz'⟩ : ∃ q, ad'.add (i * 3) = q := ⟨_, rfl⟩
              rw [add_lit _ _ _ (by omega)] at g2 g3 j2 j3
              rw [hpz] at g1 g2 g3
              rw [hpz'] at j1 j2 j3
              obtain ⟨hz1, -, hz3, hz4⟩ := id g4
              obtain ⟨Ad2, cd2, rfl, -⟩ := hz3
              obtain ⟨Ap2, cp2, rfl, -⟩ := hz4.slice
              obtain ⟨hz1', -, hz3', hz4'⟩ := id j4
              obtain ⟨Ad3, cd3, rfl, -⟩ := hz3'
              obtain ⟨Ap3, cp3, rfl, -⟩ := hz4'.slice
              have hx0 : wr.cell? ⟨w.heap.size, 2, none⟩ = some (.slice (some ad) x.parts.length cp) := hxc 2
              have hy0 : wr.cell? ⟨w.heap.size + 1, 2, none⟩ = some (.slice (some ad') y.parts.length cp') := hyc 2
              have hi0 : (0 : Int) ≤ (i : Int) := by omega
              have hi1 : (i : Int) < (x.parts.length : Int) := by omega
              have hi2 : (i : Int) < (y.parts.length : Int) := by omega
              clear hcall g4 j4 hft hz4 hz4' hz1 hz1' hb1 hbw hxr hyr hst hno k0
              go_upto_region 6 with fail
              clear hxc hyc
              go_region_held3 (fun W => W.cell? ⟨w.heap.size, 2, none⟩ = some (.slice (some ad) x.parts.length cp) ∧ W.cell? ⟨w.heap.size + 1, 2, none⟩ = some (.slice (some ad') y.parts.length cp') ∧
                (W.cell? q = some (.int .u64 (z.num : Int)) ∧ W.cell? ⟨q.block, q.off + 1, none⟩ = some (.slice Ad2 z.data.length cd2) ∧ W.cell? ⟨q.block, q.off + 2, none⟩ = some (.slice Ap2 z.parts.length cp2)) ∧
                (W.cell? q' = some (.int .u64 (z'.num : Int)) ∧ W.cell? ⟨q'.block, q'.off + 1, none⟩ = some (.slice Ad3 z'.data.length cd3) ∧ W.cell? ⟨q'.block, q'.off + 2, none⟩ = some (.slice Ap3 z'.parts.length cp3))) (go_keep)
                (first | (go_at_call 19; refine HCALL.out.mono ?_; rintro _ w4 ⟨r, rfl, hr, b4⟩; have kk : ∀ a u, wr.cell? a = some u → w4.cell? a = some u := fun a u hu => (World.cell?_of_block (b4.block _ (World.block_lt_of_cell? wr _ hu))).trans hu; have x1 := kk _ _ hx0; have x2 := kk _ _ hy0; have x3 := kk _ _ g1; have x4 := kk _ _ g2; have x5 := kk _ _ g3; have x6 := kk _ _ j1; have x7 := kk _ _ j2; have x8 := kk _ _ j3; have HR := Lib.hid hr; have HB4 := Lib.hid (HBW.out.trans (((Below.refl _ _).drew.trans (b4.mono (by simp))).mono HBW.out.size)); clear hr kk b4))
              all_goals
                cases r with
                | true =>
                  go_wp2_with fail
                  go_roundw
                  case rel => exact ⟨i + 1, by omega, by go_num, HST.out (HR.out.1 rfl), HB4.out⟩
                  case measure => simp [intOf]; omega
                | false =>
                  go_wp2_with fail
                  go_ret
                  exact ⟨false, rfl, ⟨(fun h => by cases h), fun h => absurd h (HNO.out (fun e => by have := HR.out.2 e; cases this))⟩, HB2.out.trans (HB4.out.mono HB2.out.size)⟩
            · obtain rfl : i = x.parts.length := by omega
              go_wp2_with fail
              go_ret
              refine ⟨true, rfl, ⟨fun _ => va_ext E1.out E2.out ?_, fun _ => rfl⟩, HB2.out.trans (HBW.out.mono HB2.out.size)⟩
              have := HTK.out
              rw [List.take_length, E3.out, List.take_length] at this
              exact this
        · have z3 : ((x.parts.length : Int) != (y.parts.length : Int)) = true := by simp; omega
          clear e1 e2
          go_enter Tryd.func19, Tryd.ntmps19
          go_upto_region 1 with fail
          rw [← hw2]
          clear hw2
          go_wp2_with fail
          go_ret
          exact ⟨false, rfl, ⟨(fun h => by cases h), fun h => absurd (by rw [h]) e3⟩, HB2.out⟩
      · have z2 : (x.data == y.data) = false := by simpa using e2
        clear e1
        go_enter Tryd.func19, Tryd.ntmps19
        go_upto_region 1 with fail
        rw [← hw2]
        clear hw2
        go_wp2_with fail
        go_ret
        exact ⟨false, rfl, ⟨(fun h => by cases h), fun h => absurd (by rw [h]) e2⟩, HB2.out⟩
    · have z1 : ((x.num : Int) != (y.num : Int)) = true := by simp; omega
      go_enter Tryd.func19, Tryd.ntmps19
      go_upto_region 1 with fail
      rw [← hw2]
      clear hw2
      go_wp2_with fail
      go_ret
      exact ⟨false, rfl, ⟨(fun h => by cases h), fun h => absurd (by rw [h]) e1⟩, HB2.out⟩
end Go.Proofs.YtinngljphjdpoaaDoor.Sm
/- What the laws ask of schemas and values that are read: plain. -/
namespace Go.Proofs.YtinngljphjdpoaaDoor.Yg
open Go Go.Proofs.YtinngljphjdpoaaDoor Go.Proofs.YtinngljphjdpoaaDoor.Nz Go.Proofs.YtinngljphjdpoaaDoor.Sc Go.Proofs.YtinngljphjdpoaaDoor.Rs Go.Proofs.YtinngljphjdpoaaDoor.Ep Go.Proofs.YtinngljphjdpoaaDoor.Gp Go.Proofs.YtinngljphjdpoaaDoor.Hp Go.Proofs.YtinngljphjdpoaaDoor.Hq Go.Proofs.YtinngljphjdpoaaDoor.Gq Go.Proofs.YtinngljphjdpoaaDoor.Ya Go.Proofs.YtinngljphjdpoaaDoor.Yb Go.Proofs.YtinngljphjdpoaaDoor.Yc Go.Proofs.YtinngljphjdpoaaDoor.Yd Go.Proofs.YtinngljphjdpoaaDoor.Ye Go.Proofs.YtinngljphjdpoaaDoor.Gw Go.Proofs.YtinngljphjdpoaaDoor.Gi Go.Proofs.YtinngljphjdpoaaDoor.Es Go.Proofs.YtinngljphjdpoaaDoor.Cm Go.Proofs.YtinngljphjdpoaaDoor.Vu Go.Proofs.YtinngljphjdpoaaDoor.Vo
set_option linter.unusedVariables false
set_option linter.unusedSimpArgs false
theorem asc_of (f : List Slot → Nat → Option Nat) : ∀ (s : List Slot) (last : Int) (room r : Nat), canGo f s last room = some r → AscGo last s ∧ ∀ t ∈ s, nest t = true → ∃ a b, f t.sub a = some b
  | [], _, _, _, _ => ⟨trivial, by simp⟩
  | t :: q, last, room, r, h => by
    simp only [canGo] at h
    split at h
    · cases h
    · split at h
      · cases h
      · rename_i hf
        have hlt : last < t.no := by
          by_cases hh : last < t.no
          · exact hh
          · exact absurd (fine_no1 (by omega)) hf
        split at h
        · rename_i hn
          split at h
          · cases h
          · rename_i q' hq
            obtain ⟨g1, g2⟩ := asc_of f q t.no q' r h
            refine ⟨⟨hlt, g1⟩, fun u hu hnu => ?_⟩
            rcases List.mem_cons.1 hu with rfl | hu
            · exact ⟨_, _, hq⟩
            · exact g2 u hu hnu
        · rename_i hn
          split at h
          · obtain ⟨g1, g2⟩ := asc_of f q t.no _ r h
            refine ⟨⟨hlt, g1⟩, fun u hu hnu => ?_⟩
            rcases List.mem_cons.1 hu with rfl | hu
            · exact absurd hnu hn
            · exact g2 u hu hnu
          · cases h
theorem sch_can {w : World} : ∀ (n k : Nat) (v : Value) (l : List Slot) (room r : Nat), RdS w n v l → canL k l room = some r → okL k l → Sch n l
  | 0, _, _, _, _, _, h, _, _ => h.elim
  | n + 1, 0, _, _, _, _, _, h, _ => by cases h
  | n + 1, k + 1, v, l, room, r, h, hc, hok => by
    obtain ⟨A, c, rfl, -, -⟩ := h.slice
    simp only [canL] at hc
    split at hc
    · cases hc
    · obtain ⟨g1, g2⟩ := asc_of _ _ _ _ _ hc
      refine ⟨by omega, g1, fun t ht => ?_⟩
      obtain ⟨i, hi, rfl⟩ := List.getElem_of_mem ht
      obtain ⟨-, -, hw, sv, -, hs⟩ := h.at_ i hi
      obtain ⟨h1, h2, h3, h4, -⟩ := hok.2 _ ht
      refine ⟨h1, h2, h3, hw.most, fun hn => ?_⟩
      obtain ⟨a, b, hab⟩ := g2 _ ht hn
      exact sch_can n k sv _ a b hs hab (h4 hn)
theorem sch_of {w : World} {n : Nat} {v : Value} {l : List Slot} (h : RdS w n v l) (hv : valid n l = 0) : Sch n l := by
  obtain ⟨-, -, hok, -⟩ := spans_eq hv
  unfold valid at hv
  split at hv
  · cases hv
  · rename_i hc
    cases hc' : canL 6 l 256 with
    | none => exact absurd hc' hc
    | some r => exact sch_can n 6 v l _ _ h hc' hok
theorem Sch.pos {n : Nat} {l : List Slot} (h : Sch n l) : 0 < n := by
  cases n with
  | zero => exact h.elim
  | succ n => omega
theorem num_parts {w : World} : ∀ (n : Nat) (v : Value) (l : List Va), RdP w n v l → ∀ y ∈ l, NumV n y
  | 0, _, _, h, _, _ => h.elim
  | n + 1, v, l, h, y, hy => by
    obtain ⟨A, c, -, -, -, hc⟩ := h
    obtain ⟨i, hi, rfl⟩ := List.getElem_of_mem hy
    obtain ⟨ad, -, hx⟩ := hc (by omega)
    obtain ⟨hn, dv, pv, -, -, -, -, hp⟩ := hx i _ (List.getElem?_eq_getElem hi)
    exact ⟨hn, fun z hz => num_parts n pv _ hp z hz⟩
theorem num_of {w : World} {m : Nat} {nv dv pv : Value} {x : Va} (h : RdV w m nv dv pv x) : NumV (m + 1) x := ⟨h.1, fun y hy => num_parts m pv _ h.2.2.2 y hy⟩
theorem pb_of : ∀ (n : Nat) (x : Va), FewV n x → Sm.PB n x
  | 0, _, _ => trivial
  | n + 1, x, h => ⟨by have := h.2.1; omega, fun y hy => pb_of n y (h.2.2 y hy)⟩
theorem pb_le : ∀ {n m : Nat} {x : Va}, n ≤ m → Sm.PB m x → Sm.PB n x
  | 0, _, _, _, _ => trivial
  | n + 1, 0, _, h, _ => by omega
  | n + 1, m + 1, x, h, hp => ⟨hp.1, fun y hy => pb_le (by omega) (hp.2 y hy)⟩
theorem few_up : ∀ {n m : Nat} {x : Va}, n ≤ m → FewV n x → FewV m x
  | 0, _, _, _, h => h.elim
  | n + 1, 0, _, h, _ => by omega
  | n + 1, m + 1, x, h, hp => ⟨hp.1, hp.2.1, fun y hy => few_up (by omega) (hp.2.2 y hy)⟩
theorem few_items (U : List UInt8 → Bool) (n m : Nat) (sub : List Slot) (IH : ∀ b p, (Rv.rdv U n sub b p).1.2.2 = 0 → FewV m (Rv.rdv U n sub b p).2) : ∀ (l : List (List UInt8)) (p : Int), (Rv.iGo (Rv.rdv U n sub) l p).1.2.2 = 0 →
    (Rv.iGo (Rv.rdv U n sub) l p).2.length = l.length ∧ ∀ y ∈ (Rv.iGo (Rv.rdv U n sub) l p).2, FewV m y
  | [], p, _ => by simp [Rv.iGo]
  | x :: l, p, h => by
    simp only [Rv.iGo] at h ⊢
    by_cases hz : (Rv.rdv U n sub x (p + sz x.length)).1.2.2 = 0
    · rw [if_neg (by simp [hz])] at h ⊢
      obtain ⟨h1, h2⟩ := few_items U n m sub IH l _ h
      refine ⟨by simp [h1], fun y hy => ?_⟩
      rcases List.mem_cons.1 hy with rfl | hy
      · exact IH _ _ hz
      · exact h2 y hy
    · rw [if_pos hz] at h
      exact absurd h hz
theorem few_rows (U : List UInt8 → Bool) (n : Nat) (IH : ∀ s b p, Sch n s → (Rv.rdv U n s b p).1.2.2 = 0 → FewV (2 * n + 1) (Rv.rdv U n s b p).2) : ∀ (s : List Slot) (fs : List Ep.Fd) (p : Int),
    (∀ t ∈ s, bnd t = true ∧ (nest t = true → Sch n t.sub)) → (∀ f ∈ fs, f.data.length ≤ 4194304) → (Rv.rGo (Rv.rSlot U (Rv.rdv U n)) s fs p).1.2.2 = 0 →
    (Rv.rGo (Rv.rSlot U (Rv.rdv U n)) s fs p).2.length = s.length ∧ ∀ y ∈ (Rv.rGo (Rv.rSlot U (Rv.rdv U n)) s fs p).2, FewV (2 * n + 2) y
  | [], [], p, _, _, _ => by simp [Rv.rGo]
  | [], f :: r, p, _, _, h => by simp [Rv.rGo] at h
  | t :: s, [], p, _, _, h => by simp [Rv.rGo] at h
  | t :: s, g :: fs, p, ht, hf, h => by
    simp only [Rv.rGo] at h ⊢
    by_cases h1 : g.no = t.no
    · rw [if_neg (by simp [h1])] at h ⊢
      by_cases h2 : g.ty = (wt t.kind : Int)
      · rw [if_neg (by simp [h2])] at h ⊢
        by_cases h3 : (Rv.rSlot U (Rv.rdv U n) t g p).1.2.2 = 0
        · rw [if_neg (by simp [h3])] at h ⊢
          obtain ⟨r1, r2⟩ := few_rows U n IH s fs _ (fun u hu => ht u (by simp [hu])) (fun u hu => hf u (by simp [hu])) h
          refine ⟨by simp [r1], fun y hy => ?_⟩
          rcases List.mem_cons.1 hy with rfl | hy
          · obtain ⟨hb, hs⟩ := ht t (by simp)
            have hd := hf g (by simp)
            unfold Rv.rSlot at h3 ⊢
            by_cases h8 : t.kind = 8
            · rw [if_pos h8] at h3 ⊢
              exact few_up (by omega) (IH t.sub _ _ (hs (by simp [nest, h8])) h3)
            · rw [if_neg h8] at h3 ⊢
              by_cases h9 : t.kind = 9
              · rw [if_pos h9] at h3 ⊢
                have hm : t.most ≤ 4096 := by
                  unfold bnd at hb
                  rw [h9] at hb
                  simp at hb
                  exact hb.2
                split
                · exact ⟨by simp [Rv.va0, Va.data], by simp [Rv.va0, Va.parts], by simp [Rv.va0, Va.parts]⟩
                · rename_i hse
                  rw [if_neg hse] at h3
                  split
                  · exact ⟨by simp [Rv.va0, Va.data], by simp [Rv.va0, Va.parts], by simp [Rv.va0, Va.parts]⟩
                  · rename_i hwi
                    rw [if_neg hwi] at h3
                    have hw := within0.1 (Decidable.not_not.1 hwi)
                    obtain ⟨q1, q2⟩ := few_items U n (2 * n + 1) t.sub (fun b p h => IH t.sub b p (hs (by simp [nest, h9])) h) _ _ h3
                    refine ⟨by simp [Va.data], by simp only [Va.parts, q1]; omega, fun z hz => q2 z hz⟩
              · rw [if_neg h9]
                split
                · exact ⟨by simp [Rv.va0, Va.data], by simp [Rv.va0, Va.parts], by simp [Rv.va0, Va.parts]⟩
                · exact ⟨by simp only [Va.data]; omega, by simp [Va.parts], by simp [Va.parts]⟩
          · exact r2 y hy
        · rw [if_pos h3] at h
          exact absurd h h3
      · rw [if_pos h2] at h
        exact absurd h (by simp)
    · rw [if_pos h1] at h
      exact absurd h (by simp)
theorem fd_len : ∀ (fs : List Ep.Fd) (f : Ep.Fd), f ∈ fs → (f.ty = 2 ∨ f.data = []) → f.data.length ≤ (Ep.bytes fs).length
  | g :: fs, f, hf, h => by
    have hb : (Ep.bytes (g :: fs)).length = (Ep.one g).length + (Ep.bytes fs).length := by simp [Ep.bytes]
    rcases List.mem_cons.1 hf with rfl | hf
    · have h1 := one_len f.no f.ty f.num f.data
      have h2 : Ep.Fd.mk f.no f.ty f.num f.data = f := by cases f; rfl
      rw [h2] at h1
      rcases h with h | h
      · rw [h] at h1
        simp [fr] at h1
        omega
      · rw [h]; simp
    · have := fd_len fs f hf h
      omega
theorem few_rdv (U : List UInt8 → Bool) : ∀ (n : Nat) (s : List Slot) (b : List UInt8) (p : Int), Sch n s → (Rv.rdv U n s b p).1.2.2 = 0 → FewV (2 * n + 1) (Rv.rdv U n s b p).2
  | 0, _, _, _, h, _ => h.elim
  | n + 1, s, b, p, hs, hr => by
    obtain ⟨s1, s2, s3⟩ := hs
    rw [Rv.rdv_succ] at hr ⊢
    by_cases he : wErr b = 0
    · rw [if_neg (by simp [he])] at hr ⊢
      have hbl : ¬ 4194304 < b.length := by
        intro hh
        unfold wErr at he
        rw [if_pos hh] at he
        exact absurd he (by decide)
      have hde : (D b 0 0).err = 0 := by unfold wErr at he; rwa [if_neg hbl] at he
      have hall := Rv.D_all _ b 0 0 rfl (by omega) hde
      have hfld := Rv.D_fld _ b 0 0 rfl (by omega)
      have hf : ∀ f ∈ (D b 0 0).fs, f.data.length ≤ 4194304 := fun f hf => by
        have := fd_len _ f hf (by
          by_cases h : f.ty = 2
          · exact .inl h
          · exact .inr ((hfld f hf).2.2.2.2.2.2 h))
        rw [← hall] at this
        omega
      obtain ⟨h1, h2⟩ := few_rows U n (fun s b p h g => few_rdv U n s b p h g) s _ p (fun t ht => ⟨(s3 t ht).2.2.1, (s3 t ht).2.2.2.2⟩) hf hr
      exact ⟨by simp [Va.data], by simp only [Va.parts, h1]; omega, fun y hy => h2 y hy⟩
    · rw [if_pos he] at hr
      exact absurd hr he
theorem pf_in (a b : Nat) : Vh.pF a b = 0 ∨ Vh.pF a b = 83 ∨ Vh.pF a b = 84 := by
  unfold Vh.pF
  split
  · exact .inr (.inr rfl)
  · split
    · exact .inr (.inl rfl)
    · exact .inl rfl
end Go.Proofs.YtinngljphjdpoaaDoor.Yg
/- Compile, with all that is known of what it takes. -/
namespace Go.Proofs.YtinngljphjdpoaaDoor.Yk
open Go Go.RowKit Go.Proofs.YtinngljphjdpoaaDoor Go.Proofs.YtinngljphjdpoaaDoor.Pa Go.Proofs.YtinngljphjdpoaaDoor.Pb Go.Proofs.YtinngljphjdpoaaDoor.Pc Go.Proofs.YtinngljphjdpoaaDoor.Sc Go.Proofs.YtinngljphjdpoaaDoor.Rs Go.Proofs.YtinngljphjdpoaaDoor.Va Go.Proofs.YtinngljphjdpoaaDoor.Ca Go.Proofs.YtinngljphjdpoaaDoor.Cm Go.Proofs.YtinngljphjdpoaaDoor.Yb Go.Proofs.YtinngljphjdpoaaDoor.Yg
set_option linter.unusedVariables false
/-- What is known of a schema that is taken. -/
structure Good (l : List Slot) : Prop where
  sch : Sch 7 l
  ok : okL 6 l
  least : (pSpan 7 l).1 = (exSpan 7 l).1
  most : (pSpan 7 l).2 = (exSpan 7 l).2
  room : (exSpan 7 l).2 ≤ 4194304
  val : valid 7 l = 0
def PComp (l : List Slot) (w : World) (e : Ending) (w' : World) : Prop :=
  ((∃ z : Int, z ≠ 0 ∧ e = .returned (.tuple #[.pointer none, .int .i64 z])) ∨ (∃ c, e = .returned (.tuple #[.pointer (some ⟨c, 0, none⟩), .int .i64 0]) ∧ (∃ S, Cd w' S 7 c l) ∧ Good l)) ∧ Below w.heap.size w w'
theorem comp {n : Nat} {v : Value} {l : List Slot} (w : World) (h : RdS w n v l) : Calls Tryd.prog 14 #[v] w (PComp l w) := by
  by_cases hv : valid n l = 0
  · obtain ⟨-, -, hok, -⟩ := spans_eq hv
    have h7 := Ck.rds_ok 6 n v l hok h
    refine (pCompile w h7).mono ?_
    rintro e w' ⟨⟨h0, rfl⟩ | ⟨h0, c, rfl, hc⟩, hb⟩
    · exact ⟨.inl ⟨_, h0, rfl⟩, hb⟩
    · obtain ⟨-, -, hok', hsp, heq⟩ := spans_eq h0
      exact ⟨.inr ⟨c, rfl, ⟨_, hc⟩, ⟨sch_of h7 h0, hok, by rw [heq], by rw [heq], hsp, h0⟩⟩, hb⟩
  · refine (pCompile w h).mono ?_
    rintro e w' ⟨⟨h0, rfl⟩ | ⟨h0, c, rfl, hc⟩, hb⟩
    · exact ⟨.inl ⟨_, h0, rfl⟩, hb⟩
    · exact absurd h0 hv
end Go.Proofs.YtinngljphjdpoaaDoor.Yk
