/- compile. -/
import Derived.Test.YtinngljphjdpoaaDoorJCc
import Derived.Test.YtinngljphjdpoaaDoorJHs
import Derived.Test.YtinngljphjdpoaaDoorJGv
import Derived.WalkLawsBesides
import Derived.Laws.Cover2
namespace Go.Proofs.YtinngljphjdpoaaDoor.Ce
open Go Go.RowKit Go.Proofs.YtinngljphjdpoaaDoor.Pa Go.Proofs.YtinngljphjdpoaaDoor.Pb Go.Proofs.YtinngljphjdpoaaDoor.Pf Go.Proofs.YtinngljphjdpoaaDoor.Pq Go.Proofs.YtinngljphjdpoaaDoor.Sc Go.Proofs.YtinngljphjdpoaaDoor.Rs Go.Proofs.YtinngljphjdpoaaDoor.Va Go.Proofs.YtinngljphjdpoaaDoor.Vc Go.Proofs.YtinngljphjdpoaaDoor.Vd Go.Proofs.YtinngljphjdpoaaDoor.Ca Go.Proofs.YtinngljphjdpoaaDoor.Cb Go.Proofs.YtinngljphjdpoaaDoor.Cc
set_option linter.unusedVariables false
set_option linter.unusedSimpArgs false
set_option maxRecDepth 100000 in
theorem slot_info : (Tryd.prog.info? 101).map (fun i => (i.zero, i.size, i.bytes)) = some (some (.agg #[.int .i64 0, .int .i64 0, .nilFunc, .nilFunc, .nilFunc]), 5, 40) := by kernel_rfl
theorem pushS {w : World} {base : Nat} {A : Option Addr} {i c : Nat} {xs : List Value} (ho : w.ownsRow base 101 5 (.slice A i c) i xs) (hb : base ≤ w.heap.size) (hi : i ≤ 1000) (v0 v1 v2 v3 v4 : Value)
    (h1 : ∀ u ∈ [v0, v1, v2, v3, v4], u.oneCell' = true) :
    ∃ A' c' w', (appX #[79, 79] 79 #[.slice A i c, .slice (some ⟨w.heap.size, 0, none⟩) 1 1]).run Tryd.prog (w.alloc (.cells #[v0, v1, v2, v3, v4] 101)) = .ok (.slice A' (i + 1) c') w' ∧
      w'.ownsRow base 101 5 (.slice A' (i + 1) c') (i + 1) (xs ++ [v0, v1, v2, v3, v4]) ∧ w.heap.size < w'.heap.size ∧ w'.os = w.os ∧ w'.tape = w.tape ∧ w'.output = w.output ∧
      (∀ b, b < w.heap.size → (Value.slice A i c).ownBlock ≠ some b → w'.heap[b]? = w.heap[b]?) ∧ ((Value.slice A' (i + 1) c').ownBlock = (Value.slice A i c).ownBlock ∨ (Value.slice A' (i + 1) c').ownBlock = some (w.heap.size + 1)) := by
  obtain ⟨ti, hi', hzz⟩ := Option.map_eq_some_iff.1 slot_info
  simp only [Prod.mk.injEq] at hzz
  obtain ⟨hz0, hz1, hz2⟩ := hzz
  have hcell : ∀ j u, [v0, v1, v2, v3, v4][j]? = some u → (w.alloc (.cells #[v0, v1, v2, v3, v4] 101)).cell? ((⟨w.heap.size, 0, none⟩ : Addr).add j) = some u := by
    intro j u hu
    have hj := (List.getElem?_eq_some_iff.1 hu).1
    rw [Hs.add0]
    have := hp_cell (hp_alloc_at (.cells #[v0, v1, v2, v3, v4] 101) w.heap.size (w := w) rfl) j
    rw [this]
    simpa using hu
  obtain ⟨v', w', hr, h2, h3, _, h5⟩ := run_append_own_at (P := Tryd.prog) (w.alloc (.cells #[v0, v1, v2, v3, v4] 101)) base 79 79 101 ti _ 5 40 Tryd.underlying79 hi' hz0 hz1 hz2 rfl (by omega)
    (.slice A i c) i xs (ho.alloc _) ⟨w.heap.size, 0, none⟩ 1 1 [v0, v1, v2, v3, v4] rfl hcell h1 (by simp only [maxLen]; omega) (by omega) (by simp; omega)
  have hsl : ∃ A' c', v' = .slice A' (i + 1) c' := by
    rcases h2.2 with ⟨-, h0⟩ | ⟨g, cap, cur, e, -⟩
    · omega
    · exact ⟨_, _, e⟩
  obtain ⟨A', c', rfl⟩ := hsl
  have hz := h3.size
  simp at hz
  refine ⟨A', c', w', hr, h2, by omega, h3.os, h3.tape, h3.output, fun b hb hne => ?_, ?_⟩
  · rw [h3.block b (by simp; omega) (fun e => hne e.symm)]
    exact hp_alloc_past _ _ hb
  · rcases h5 with h | h
    · exact .inl h
    · exact .inr (by simpa using h)
theorem rdy_one {C : Nat → List Slot → Prop} {w : World} {S : Pl} {t : Slot} {chk wr rd : Value} (h : Rdy C w S t chk wr rd) : chk.oneCell' = true ∧ wr.oneCell' = true ∧ rd.oneCell' = true := by
  unfold Rdy at h
  split at h
  · obtain ⟨c, b5, b9, _, _, _, _, _, rfl, rfl, rfl⟩ := h
    exact ⟨rfl, rfl, rfl⟩
  · obtain ⟨sh, b4, b1, sv, _, _, _, _, _, rfl, h⟩ := h
    split at h
    · obtain ⟨c, _, rfl, rfl⟩ := h; exact ⟨rfl, rfl, rfl⟩
    · split at h
      · obtain ⟨rfl, rfl⟩ := h; exact ⟨rfl, rfl, rfl⟩
      · obtain ⟨rfl, rfl⟩ := h; exact ⟨rfl, rfl, rfl⟩
/-- What stands of i slots. -/
structure Up (w : World) (m : Nat) (g : Nat) (l : List Slot) (i : Nat) (A : Option Addr) (c : Nat) (xs : List Value) (a b : Nat) : Prop where
  head : hp w g = some (.cells #[.slice A i c, .int .i64 (a : Int), .int .i64 (b : Int)] 81 (0, 0))
  row : w.ownsRow (g + 1) 101 5 (.slice A i c) i xs
  slot : ∀ j t, l[j]? = some t → j < i → WfS t ∧ bnd t = true ∧ ∃ chk wr rd, xs[j * 5]? = some (.int .i64 t.no) ∧ xs[j * 5 + 1]? = some (.int .i64 (wt t.kind : Nat)) ∧ xs[j * 5 + 2]? = some chk ∧ xs[j * 5 + 3]? = some wr ∧ xs[j * 5 + 4]? = some rd ∧
    Rdy (Cd w (fun b => g < b ∧ b < w.heap.size ∧ (Value.slice A i c).ownBlock ≠ some b) m) w (fun b => g < b ∧ b < w.heap.size ∧ (Value.slice A i c).ownBlock ≠ some b) t chk wr rd
theorem Up.len {w : World} {m g : Nat} {l : List Slot} {i : Nat} {A : Option Addr} {c : Nat} {xs : List Value} {a b : Nat} (h : Up w m g l i A c xs a b) : xs.length = i * 5 := h.row.1
/-- One more. -/
theorem Up.step {w w6 w8 : World} {m g : Nat} {l : List Slot} {i : Nat} {A A' : Option Addr} {c c' : Nat} {xs : List Value} {a b : Nat} (h : Up w m g l i A c xs a b) {t : Slot} {chk wr rd : Value} (ht : l[i]? = some t) (hwf : WfS t) (hbd : bnd t = true)
    (hgw : g < w.heap.size) (h6 : ∀ k, k < w.heap.size → w6.heap[k]? = w.heap[k]?) (hs6 : w.heap.size ≤ w6.heap.size) (hr : Rdy (Cd w6 (fun b => w.heap.size ≤ b ∧ b < w6.heap.size) m) w6 (fun b => w.heap.size ≤ b ∧ b < w6.heap.size) t chk wr rd)
    (h8 : w8.ownsRow (g + 1) 101 5 (.slice A' (i + 1) c') (i + 1) (xs ++ [.int .i64 t.no, .int .i64 (wt t.kind : Nat), chk, wr, rd])) (hs8 : w6.heap.size < w8.heap.size)
    (h68 : ∀ b, b < w6.heap.size → (Value.slice A i c).ownBlock ≠ some b → w8.heap[b]? = w6.heap[b]?) (hown : (Value.slice A' (i + 1) c').ownBlock = (Value.slice A i c).ownBlock ∨ (Value.slice A' (i + 1) c').ownBlock = some (w6.heap.size + 1))
    (hg9 : hp w8 g = some (.cells #[.slice A i c, .int .i64 (a : Int), .int .i64 (b : Int)] 81 (0, 0))) :
    Up (w8.setCell ⟨g, 0, none⟩ (.slice A' (i + 1) c')) m g l (i + 1) A' c' (xs ++ [.int .i64 t.no, .int .i64 (wt t.kind : Nat), chk, wr, rd]) a b := by
  have hlen := h.len
  have ownlt : ∀ k, (Value.slice A i c).ownBlock = some k → g + 1 ≤ k ∧ k < w.heap.size := h.row.lt
  have hsz : (w8.setCell ⟨g, 0, none⟩ (.slice A' (i + 1) c')).heap.size = w8.heap.size := by simp [World.setCell]
  have keep : ∀ b, g < b → b < w6.heap.size → (Value.slice A i c).ownBlock ≠ some b → (w8.setCell ⟨g, 0, none⟩ (.slice A' (i + 1) c')).heap[b]? = w6.heap[b]? := fun b h1 h2 h3 => (heap_setCell_other _ _ _ _ (show b ≠ g by omega)).trans (h68 b h2 h3)
  have ne' : ∀ b, b < w6.heap.size → (Value.slice A i c).ownBlock ≠ some b → (Value.slice A' (i + 1) c').ownBlock ≠ some b := fun b h1 h2 e => by
    rcases hown with h | h
    · exact h2 (h.symm.trans e)
    · rw [h] at e; simp at e; omega
  have up : ∀ b o, hp w6 b = some o → (w8.setCell ⟨g, 0, none⟩ (.slice A' (i + 1) c')).heap[b]? = w6.heap[b]? → hp (w8.setCell ⟨g, 0, none⟩ (.slice A' (i + 1) c')) b = some o := fun b o h1 h2 => by unfold hp at *; rw [h2]; exact h1
  refine ⟨?_, ownsRow_setCell_below h8 (show g < g + 1 by omega) _, fun j u hu hj => ?_⟩
  · have := heap_setCell_same w8 g 0 _ _ (.slice A' (i + 1) c') hg9
    exact this
  · by_cases hji : j = i
    · subst hji
      obtain rfl : t = u := Option.some.inj (ht.symm.trans hu)
      have e : ∀ q, q < 5 → (xs ++ [.int .i64 t.no, .int .i64 (wt t.kind : Nat), chk, wr, rd])[j * 5 + q]? = [Value.int .i64 t.no, .int .i64 (wt t.kind : Nat), chk, wr, rd][q]? := fun q hq => by
        rw [List.getElem?_append_right (by omega)]; congr 1; omega
      refine ⟨hwf, hbd, chk, wr, rd, e 0 (by omega), e 1 (by omega), e 2 (by omega), e 3 (by omega), e 4 (by omega), ?_⟩
      have hS : ∀ b, (w.heap.size ≤ b ∧ b < w6.heap.size) → (g < b ∧ b < (w8.setCell ⟨g, 0, none⟩ (.slice A' (j + 1) c')).heap.size ∧ (Value.slice A' (j + 1) c').ownBlock ≠ some b) := fun b hb => ⟨by omega, by rw [hsz]; omega, ne' b hb.2 (fun e => by have := (ownlt b e).2; omega)⟩
      have hk : ∀ b, (w.heap.size ≤ b ∧ b < w6.heap.size) → (w8.setCell ⟨g, 0, none⟩ (.slice A' (j + 1) c')).heap[b]? = w6.heap[b]? := fun b hb => keep b (by omega) hb.2 (fun e => by have := (ownlt b e).2; omega)
      exact hr.mono (fun c s hc => Cd.keep hS (fun b hb _ => hk b hb) m c s hc) hS (fun b hb o ho => up b o ho (hk b hb))
    · obtain ⟨g0, gb, chk', wr', rd', g1, g2, g3, g4, g5, g6⟩ := h.slot j u hu (by omega)
      have e : ∀ q v, q < 5 → xs[j * 5 + q]? = some v → (xs ++ [.int .i64 t.no, .int .i64 (wt t.kind : Nat), chk, wr, rd])[j * 5 + q]? = some v := fun q v hq hv => by
        rw [List.getElem?_append_left (by omega)]; exact hv
      refine ⟨g0, gb, chk', wr', rd', e 0 _ (by omega) g1, e 1 _ (by omega) g2, e 2 _ (by omega) g3, e 3 _ (by omega) g4, e 4 _ (by omega) g5, ?_⟩
      have hS : ∀ b, (g < b ∧ b < w.heap.size ∧ (Value.slice A i c).ownBlock ≠ some b) → (g < b ∧ b < (w8.setCell ⟨g, 0, none⟩ (.slice A' (i + 1) c')).heap.size ∧ (Value.slice A' (i + 1) c').ownBlock ≠ some b) := fun b hb => ⟨hb.1, by rw [hsz]; omega, ne' b (by omega) hb.2.2⟩
      have hk : ∀ b, (g < b ∧ b < w.heap.size ∧ (Value.slice A i c).ownBlock ≠ some b) → (w8.setCell ⟨g, 0, none⟩ (.slice A' (i + 1) c')).heap[b]? = w.heap[b]? := fun b hb => (keep b hb.1 (by omega) hb.2.2).trans (h6 b hb.2.1)
      exact g6.mono (fun c s hc => Cd.keep hS (fun b hb _ => hk b hb) m c s hc) hS (fun b hb o ho => by unfold hp at *; rw [hk b hb]; exact ho)
theorem Up.done {w0 w : World} {m g : Nat} {l : List Slot} {A : Option Addr} {c : Nat} {xs : List Value} (h : Up w m g l l.length A c xs (pSpan (m + 1) l).1 (pSpan (m + 1) l).2) (hg : w0.heap.size ≤ g) : Cd w (Bt w0 w) (m + 1) g l := by
  have hgl : g < w.heap.size := (Array.getElem?_eq_some_iff.1 h.head).1
  refine ⟨⟨hg, hgl⟩, A, c, h.head, fun h0 => ?_⟩
  rcases h.row.2 with ⟨-, h1⟩ | ⟨b, cap, cur, e, hb, hbb, -⟩
  · omega
  · simp only [Value.slice.injEq] at e
    obtain ⟨rfl, -, rfl⟩ := e
    have hbl : b < w.heap.size := (Array.getElem?_eq_some_iff.1 hbb).1
    refine ⟨b, rfl, ⟨by omega, hbl⟩, fun i t ht => ?_⟩
    have hi : i < l.length := (List.getElem?_eq_some_iff.1 ht).1
    obtain ⟨g0, gb, chk, wr, rd, g1, g2, g3, g4, g5, g6⟩ := h.slot i t ht hi
    have k : ∀ o v, xs[o]? = some v → w.cell? ⟨b, o, none⟩ = some v := fun o v hv => by
      have := World.ownsRow.cells h.row (g := b) rfl o v hv
      rwa [Hs.add0] at this
    have hS : ∀ q, (g < q ∧ q < w.heap.size ∧ (Value.slice (some ⟨b, 0, none⟩) l.length c).ownBlock ≠ some q) → Bt w0 w q := fun q hq => ⟨by omega, hq.2.1⟩
    exact ⟨g0, gb, chk, wr, rd, k _ _ g1, k _ _ g2, k _ _ g3, k _ _ g4, k _ _ g5, g6.mono (fun c s hc => Cd.keep hS (fun _ _ _ => rfl) m c s hc) hS (fun _ _ _ ho => ho)⟩
theorem Up.below {w w' : World} {m g : Nat} {l : List Slot} {i : Nat} {A : Option Addr} {c : Nat} {xs : List Value} {a b : Nat} (h : Up w m g l i A c xs a b) (hb : Below w.heap.size w w') : Up w' m g l i A c xs a b := by
  have hgl : g < w.heap.size := (Array.getElem?_eq_some_iff.1 h.head).1
  refine ⟨(hb.hp g hgl).trans h.head, h.row.kept (grown_below hb none) (by cases (Value.slice A i c).ownBlock <;> simp), fun j u hu hj => ?_⟩
  obtain ⟨g0, gb, chk', wr', rd', g1, g2, g3, g4, g5, g6⟩ := h.slot j u hu hj
  have hS : ∀ q, (g < q ∧ q < w.heap.size ∧ (Value.slice A i c).ownBlock ≠ some q) → (g < q ∧ q < w'.heap.size ∧ (Value.slice A i c).ownBlock ≠ some q) := fun q hq => ⟨hq.1, Nat.lt_of_lt_of_le hq.2.1 hb.size, hq.2.2⟩
  exact ⟨g0, gb, chk', wr', rd', g1, g2, g3, g4, g5, g6.mono (fun c s hc => Cd.keep hS (fun q hq _ => hb.block q hq.2.1) m c s hc) hS (fun q hq o ho => by unfold hp at *; rw [hb.block q hq.2.1]; exact ho)⟩
set_option maxHeartbeats 4000000 in
set_option maxRecDepth 100000 in
theorem compile : ∀ (m : Nat), CompSaid m := by
  intro m
  induction m with
  | zero => exact fun k v l W w h _ _ => h.elim
  | succ m ih =>
    intro k v l W w h hok hb
    obtain ⟨A, c, rfl, hlc, hcm⟩ := h.slice
    cases k with
    | zero => exact hok.elim
    | succ k =>
    have hspan := span (m + 1) (k + 1) _ l W (w.alloc (.cells #[.slice none 0 0, .int .i64 0, .int .i64 0] 81)) h hok (hb.trans (((Below.refl _ _).alloc (Nat.le_refl _) _).mono hb.size))
    obtain ⟨h16, hall⟩ := hok
    have IH := Lib.hid ih; clear ih
    have H := Lib.hid h; have HA := Lib.hid hall; have HSP := Lib.hid hspan; clear h hall hspan hlc hcm
    have hq := pSpan_le (m + 1) l
    have HQ := Lib.hid hq; clear hq
    go_enter Tryd.func30, Tryd.ntmps30
    go_wp2_with (go_at_call 9999)
    go_at_call 43
    refine HSP.out.mono ?_
    generalize hp1 : (pSpan (m + 1) l).1 = a1 at *
    generalize hp2 : (pSpan (m + 1) l).2 = a2 at *
    have HP1 := Lib.hid hp1; have HP2 := Lib.hid hp2; clear hp1 hp2
    rintro _ w2 ⟨rfl, b2⟩
    have hg2 : hp w2 w.heap.size = some (.cells #[.slice none 0 0, .int .i64 0, .int .i64 0] 81 (0, 0)) := (b2.hp _ (by simp)).trans (hp_alloc_at _ _ rfl)
    have hC2 := fun i => hp_cell hg2 i
    have hF2 := fun i => hp_frozen hg2 i
    have B2 := Lib.hid (((Below.refl w.heap.size w).alloc (Nat.le_refl _) (.cells #[.slice none 0 0, .int .i64 0, .int .i64 0] 81)).trans (b2.mono (by simp)))
    have G2 := Lib.hid hg2
    clear hg2 b2
    go_wp2_with fail
    clear hC2 hF2
    have h0 := heap_setCell_same _ w.heap.size 2 _ _ (.int .i64 (a2 : Int)) (heap_setCell_same _ w.heap.size 1 _ _ (.int .i64 (a1 : Int)) G2.out)
    have hb0 : Below w.heap.size w ((w2.setCell ⟨w.heap.size, 1, none⟩ (.int .i64 (a1 : Int))).setCell ⟨w.heap.size, 2, none⟩ (.int .i64 (a2 : Int))) := (B2.out.setCell (Nat.le_refl _) _).setCell (Nat.le_refl _) _
    have U0 := Lib.hid (show Up ((w2.setCell ⟨w.heap.size, 1, none⟩ (.int .i64 (a1 : Int))).setCell ⟨w.heap.size, 2, none⟩ (.int .i64 (a2 : Int))) m w.heap.size l 0 none 0 [] a1 a2 from ⟨h0, World.ownsRow_nil _ _ _ _, fun j t _ hj => absurd hj (by omega)⟩)
    have BB0 := Lib.hid hb0
    clear h0 hb0
    go_loopw [21] (fun s wr => ∃ (i : Nat) (A' : Option Addr) (c' : Nat) (xs : List Value), i ≤ l.length ∧ s = .int .i64 i ∧ Up wr m w.heap.size l i A' c' xs a1 a2 ∧ Below w.heap.size w wr) (fun s _ => l.length - (intOf s).toNat)
    case atStart => exact ⟨0, none, 0, [], by omega, rfl, U0.out, BB0.out⟩
    case round =>
      obtain ⟨i, A', c', xs, hi, rfl, hu, hbw⟩ := hrel
      have HU := Lib.hid hu; have HBW := Lib.hid hbw; clear hu hbw U0 BB0
      by_cases hil : i < l.length
      · obtain ⟨ad, rfl, hwf, sv, hsl, hrd⟩ := H.out.at_ i hil
        have hbr : Below W.heap.size W wr := hb.trans (HBW.out.mono hb.size)
        replace hsl := hsl.keep (hbr.block _ hsl.lt)
        obtain ⟨p, hpa⟩ : ∃ p, ad.add (i * 5) = p := ⟨_, rfl⟩
        rw [hpa] at hsl
        have hit := HA.out l[i] (List.getElem_mem hil)
        have hti : l[i]? = some l[i] := by simp [hil]
        generalize l[i] = t at hwf hsl hrd hit hti
        obtain ⟨no, kind, least, most, sub⟩ := t
        obtain ⟨c0, c1, c2, c3, c4⟩ := hsl
        obtain ⟨i1, i2, i3, i4, i5⟩ := hit
        simp only [Slot.no, Slot.kind, Slot.least, Slot.most, Slot.sub] at c0 c1 c2 c3 c4 hrd i1 i2 i4 i5
        obtain ⟨A2, cc2, rfl, hlc2, hcm2⟩ := hrd.slice
        clear hlc2 hcm2
        have HRD := Lib.hid hrd; have I3 := Lib.hid i3; have I4 := Lib.hid i4; have HTI := Lib.hid hti; have HWF := Lib.hid hwf; have HBR := Lib.hid hbr
        clear hrd i1 i2 i3 i4 i5 hti hwf hbr
        go_wp2_with fail
        obtain ⟨wx, hwx⟩ : ∃ x, x = wr.alloc (.cells #[.int .i64 no, .int .i64 kind, .int .u64 least, .int .u64 most, .slice A2 sub.length cc2] 53) := ⟨_, rfl⟩
        rw [← hwx]
        have hbx : Below wr.heap.size wr wx.drew := by rw [hwx]; exact ((Below.refl _ _).alloc (Nat.le_refl _) _).drew
        have hux := HU.out.below hbx
        have hgx := hux.head
        have hgl : w.heap.size < wr.heap.size := (Array.getElem?_eq_some_iff.1 HU.out.head).1
        have hsx : wx.heap.size = wr.heap.size + 1 := by rw [hwx]; simp
        have hCg : ∀ j, wx.cell? ⟨w.heap.size, j, none⟩ = (#[.slice A' i c', .int .i64 (a1 : Int), .int .i64 (a2 : Int)] : Array Value)[j]? := fun j => (World.cell?_of_block (w' := wx) (w := wx.drew) rfl).trans (hp_cell hgx j)
        have hCs : ∀ j, wx.cell? ⟨wr.heap.size, j, none⟩ = (#[.int .i64 no, .int .i64 kind, .int .u64 least, .int .u64 most, .slice A2 sub.length cc2] : Array Value)[j]? := fun j => by rw [hwx]; exact hp_cell (hp_alloc_at _ _ rfl) j
        have hry := ready m k IH.out no kind least most sub (.slice A2 sub.length cc2) W wx.drew rfl I3.out (fun hn => ⟨HRD.out, I4.out hn⟩) (HBR.out.trans (hbx.mono HBR.out.size))
        unfold ReadySaid at hry
        simp only [Slot.no, Slot.kind, Slot.least, Slot.most] at hry
        have HRY := Lib.hid hry; have HUX := Lib.hid hux; have HBX := Lib.hid hbx; have HGL := Lib.hid hgl; have HSX := Lib.hid hsx
        clear hry hux hbx hgx hwx hsx
        have hstep : ∀ (w6 : World) (chk wr6 rd : Value), Below wx.drew.heap.size wx.drew w6 → (chk.oneCell' = true ∧ wr6.oneCell' = true ∧ rd.oneCell' = true) →
            (w.heap.size < w6.heap.size ∧ (∀ j, w6.cell? ⟨w.heap.size, j, none⟩ = (#[.slice A' i c', .int .i64 (a1 : Int), .int .i64 (a2 : Int)] : Array Value)[j]?)) ∧ ∃ A8 c8 w8, (appX #[79, 79] 79 #[.slice A' i c', .slice (some ⟨w6.heap.size, 0, none⟩) 1 1]).run Tryd.prog (w6.alloc (.cells #[.int .i64 no, .int .i64 (wt kind : Nat), chk, wr6, rd] 101)) = .ok (.slice A8 (i + 1) c8) w8 ∧
              (∀ j, w8.cell? ⟨w.heap.size, j, none⟩ = (#[.slice A' i c', .int .i64 (a1 : Int), .int .i64 (a2 : Int)] : Array Value)[j]?) ∧ (∀ j, w8.frozen? ⟨w.heap.size, j, none⟩ = false) ∧
              (∀ t, l[i]? = some t → WfS t → bnd t = true → t.no = no → t.kind = kind → Rdy (Cd w6 (fun b => wx.drew.heap.size ≤ b ∧ b < w6.heap.size) m) w6 (fun b => wx.drew.heap.size ≤ b ∧ b < w6.heap.size) t chk wr6 rd →
                ∃ xs', Up (w8.setCell ⟨w.heap.size, 0, none⟩ (.slice A8 (i + 1) c8)) m w.heap.size l (i + 1) A8 c8 xs' a1 a2) ∧ Below w.heap.size w w8 := by
          intro w6 chk wr6 rd b6 h1
          have hu6 := HUX.out.below b6
          have hsz := b6.size
          have e1 := HSX.out
          have e2 := HGL.out
          have e3 : wx.drew.heap.size = wx.heap.size := rfl
          have hl6 : w.heap.size < w6.heap.size := by omega
          obtain ⟨A8, c8, w8, hap, o8, z8, e81, e82, e83, k8, ow8⟩ := pushS hu6.row (by omega) (by omega) (.int .i64 no) (.int .i64 (wt kind : Nat)) chk wr6 rd (by
            intro u hu
            simp only [List.mem_cons, List.not_mem_nil, or_false] at hu
            rcases hu with rfl | rfl | rfl | rfl | rfl
            · rfl
            · rfl
            · exact h1.1
            · exact h1.2.1
            · exact h1.2.2)
          have hg8 : hp w8 w.heap.size = some (.cells #[.slice A' i c', .int .i64 (a1 : Int), .int .i64 (a2 : Int)] 81 (0, 0)) := (k8 _ hl6 (fun e => by have := (hu6.row.lt _ e).1; omega)).trans hu6.head
          refine ⟨⟨hl6, fun j => hp_cell hu6.head j⟩, A8, c8, w8, hap, fun j => hp_cell hg8 j, fun j => hp_frozen hg8 j, ?_, ?_⟩
          · intro t ht hwf hbd hno hki hr
            subst hno; subst hki
            exact ⟨_, HUX.out.step ht hwf hbd (by omega) (fun q hq => b6.block q hq) hsz hr o8 z8 k8 ow8 hg8⟩
          · have hb0 : Below w.heap.size w wx.drew := HBW.out.trans (HBX.out.mono (by omega))
            have hb6 : Below w.heap.size w w6 := hb0.trans (b6.mono (by omega))
            have hb68 : Below w.heap.size w6 w8 := ⟨e81, e82, e83, by omega, fun q hq => k8 q (by omega) (fun e => by have := (hu6.row.lt _ e).1; omega)⟩
            exact hb6.trans hb68
        have HST := Lib.hid hstep; clear hstep
        go_region_with (go_at_call 44; refine HRY.out.mono ?_; rintro _ w6 ⟨chk, wr6, rd, rfl, hr6, b6⟩; obtain ⟨⟨hl6, hC6⟩, A8, c8, w8, hap, hC8, hF8, hup, hbw8⟩ := HST.out w6 chk wr6 rd b6 (rdy_one hr6); have hn6 : ¬ w.heap.size = w6.heap.size := (by omega); have hm6 : ¬ w6.heap.size = w.heap.size := (by omega))
        all_goals
          obtain ⟨xs', hup'⟩ := hup _ HTI.out HWF.out I3.out rfl rfl hr6
          have HUP := Lib.hid hup'; have HB8 := Lib.hid (Below.setCell hbw8 (p := ⟨w.heap.size, 0, none⟩) (Nat.le_refl _) (.slice A8 (i + 1) c8))
          clear hup hup' hbw8 hr6 b6 hap hC8 hF8 hC6
          go_wp2_with fail
          go_roundw
          case rel => exact ⟨i + 1, A8, c8, xs', by omega, by go_num, HUP.out, HB8.out⟩
          case measure => simp [intOf]; omega
      · obtain rfl : i = l.length := by omega
        go_wp2_with fail
        go_ret
        have hd := HU.out
        rw [← HP1.out, ← HP2.out] at hd
        exact ⟨_, rfl, hd.done (Nat.le_refl _), HBW.out⟩
end Go.Proofs.YtinngljphjdpoaaDoor.Ce
/- Values as plain data, how they lie in memory, and what is wrong with them. -/
namespace Go.Proofs.YtinngljphjdpoaaDoor.Vu
open Go Go.RowKit Go.Proofs.YtinngljphjdpoaaDoor.Pa Go.Proofs.YtinngljphjdpoaaDoor.Pb Go.Proofs.YtinngljphjdpoaaDoor.Pf Go.Proofs.YtinngljphjdpoaaDoor.Sc Go.Proofs.YtinngljphjdpoaaDoor.Rs Go.Proofs.YtinngljphjdpoaaDoor.Hs Go.Proofs.YtinngljphjdpoaaDoor.Ca
set_option linter.unusedVariables false
set_option linter.unusedSimpArgs false
/-- A value: its number, its bytes, its parts. -/
inductive Va where
  | mk (num : Nat) (data : List UInt8) (parts : List Va)
def Va.num : Va → Nat | .mk n _ _ => n
def Va.data : Va → List UInt8 | .mk _ d _ => d
def Va.parts : Va → List Va | .mk _ _ p => p
/-- The slice v reads as the values l, less than n levels deep. -/
def RdP (w : World) : Nat → Value → List Va → Prop
  | 0, _, _ => False
  | n + 1, v, l => ∃ (A : Option Addr) (c : Nat), v = .slice A l.length c ∧ l.length ≤ c ∧ c ≤ maxLen ∧
      (0 < l.length → ∃ ad, A = some ad ∧ ∀ i x, l[i]? = some x → x.num < 18446744073709551616 ∧ ∃ dv pv, w.cell? (ad.add (i * 3)) = some (.int .u64 x.num) ∧ w.cell? (ad.add (i * 3 + 1)) = some dv ∧ w.cell? (ad.add (i * 3 + 2)) = some pv ∧ Rd w dv x.data ∧ RdP w n pv x.parts)
/-- The three cells of a value. -/
def RdV (w : World) (n : Nat) (nv dv pv : Value) (x : Va) : Prop := x.num < 18446744073709551616 ∧ nv = .int .u64 x.num ∧ Rd w dv x.data ∧ RdP w n pv x.parts
theorem rd_keep {w w' : World} (hk : ∀ k, k < w.heap.size → w'.heap[k]? = w.heap[k]?) {v : Value} {l : List UInt8} (h : Rd w v l) : Rd w' v l := by
  obtain ⟨A, c, e, h1, h2, h3⟩ := h
  refine ⟨A, c, e, h1, h2, fun h0 => ?_⟩
  obtain ⟨ad, ha, hc⟩ := h3 h0
  exact ⟨ad, ha, fun j u hu => by
    have := hc j u hu
    exact (World.cell?_of_block (hk _ (World.block_lt_of_cell? w _ this))).trans this⟩
theorem RdP.keep {w w' : World} (hk : ∀ k, k < w.heap.size → w'.heap[k]? = w.heap[k]?) : ∀ (n : Nat) (v : Value) (l : List Va), RdP w n v l → RdP w' n v l
  | 0, _, _, h => h.elim
  | n + 1, v, l, h => by
    obtain ⟨A, c, e, h1, h2, h3⟩ := h
    refine ⟨A, c, e, h1, h2, fun h0 => ?_⟩
    obtain ⟨ad, ha, hc⟩ := h3 h0
    refine ⟨ad, ha, fun i x hx => ?_⟩
    obtain ⟨g0, dv, pv, g1, g2, g3, g4, g5⟩ := hc i x hx
    have k : ∀ a u, w.cell? a = some u → w'.cell? a = some u := fun a u hu => (World.cell?_of_block (hk _ (World.block_lt_of_cell? w _ hu))).trans hu
    exact ⟨g0, dv, pv, k _ _ g1, k _ _ g2, k _ _ g3, rd_keep hk g4, RdP.keep hk n pv x.parts g5⟩
theorem RdP.below {w w' : World} {n : Nat} {v : Value} {l : List Va} (h : RdP w n v l) (hb : Below w.heap.size w w') : RdP w' n v l := RdP.keep hb.block n v l h
theorem RdV.below {w w' : World} {n : Nat} {nv dv pv : Value} {x : Va} (h : RdV w n nv dv pv x) (hb : Below w.heap.size w w') : RdV w' n nv dv pv x := ⟨h.1, h.2.1, rd_keep hb.block h.2.2.1, h.2.2.2.below hb⟩
theorem RdP.slice {w : World} {n : Nat} {v : Value} {l : List Va} (h : RdP w n v l) : ∃ A c, v = .slice A l.length c ∧ l.length ≤ c ∧ c ≤ maxLen := by
  cases n with
  | zero => exact h.elim
  | succ n => obtain ⟨A, c, e, h1, h2, _⟩ := h; exact ⟨A, c, e, h1, h2⟩
theorem RdP.pos {w : World} {n : Nat} {v : Value} {l : List Va} (h : RdP w n v l) : ∃ m, n = m + 1 := by
  cases n with
  | zero => exact h.elim
  | succ n => exact ⟨n, rfl⟩
theorem RdP.at_ {w : World} {n : Nat} {A : Option Addr} {m c : Nat} {l : List Va} (h : RdP w (n + 1) (.slice A m c) l) (i : Nat) (hi : i < l.length) :
    ∃ ad, A = some ad ∧ ∃ dv pv, w.cell? (ad.add (i * 3)) = some (.int .u64 l[i].num) ∧ w.cell? (ad.add (i * 3 + 1)) = some dv ∧ w.cell? (ad.add (i * 3 + 2)) = some pv ∧ RdV w n (.int .u64 l[i].num) dv pv l[i] := by
  obtain ⟨A', c', e, h1, h2, h3⟩ := h
  simp only [Value.slice.injEq] at e
  obtain ⟨rfl, rfl, rfl⟩ := e
  obtain ⟨ad, ha, hc⟩ := h3 (by omega)
  obtain ⟨g0, dv, pv, g1, g2, g3, g4, g5⟩ := hc i l[i] (by simp [hi])
  exact ⟨ad, ha, dv, pv, g1, g2, g3, g0, rfl, g4, g5⟩
/-- A fault: line, place, reason (0: none). -/
abbrev Flt := Int × Int × Int
/-- What stands a float's bits: the reason, by the program's tests; F tells. What text: U tells. -/
def within (n least most : Nat) : Int := if n < least ∨ most < n then 83 else 0
/-- Has a value what its shape has? -/
def isOf (t : Slot) (x : Va) : Bool :=
  if t.kind = 5 ∨ t.kind = 6 then decide (x.num = 0) && decide (x.parts.length = 0)
  else if t.kind = 8 ∨ t.kind = 9 then decide (x.num = 0) && decide (x.data.length = 0)
  else decide (x.data.length = 0) && decide (x.parts.length = 0)
/-- What is wrong with its bounds. -/
def badOf (F : Nat → Nat → Int) (U : List UInt8 → Bool) (t : Slot) (x : Va) (items : Nat) : Int :=
  if t.kind = 4 then within x.num 0 1
  else if t.kind = 7 then F x.num t.most
  else if t.kind = 5 ∨ t.kind = 6 then (if within x.data.length t.least t.most ≠ 0 then 83 else if t.kind = 6 ∧ U x.data = false then 84 else 0)
  else if t.kind = 9 then within items t.least t.most
  else if t.kind = 8 then 0
  else within x.num t.least t.most
/-- The first that is wrong with the values of some slots. -/
def chkGo (f : Slot → Va → Flt) : List Slot → List Va → Flt
  | t :: s, x :: p => if (f t x).2.2 ≠ 0 then f t x else chkGo f s p
  | _, _ => (0, 0, 0)
/-- The first that is wrong with items. -/
def itemsGo (f : Va → Flt) : List Va → Flt
  | x :: p => if (f x).2.2 ≠ 0 then f x else itemsGo f p
  | [] => (0, 0, 0)
/-- The first that is wrong with a message of less than n levels, so deep. -/
def chk (F : Nat → Nat → Int) (U : List UInt8 → Bool) : Nat → List Slot → Va → Int → Flt
  | 0, _, _, _ => (0, 0, 0)
  | n + 1, s, v, deep =>
    if v.num ≠ 0 ∨ v.data.length ≠ 0 then (deep, 0, 84)
    else if v.parts.length ≠ s.length then (deep, 0, 81)
    else chkGo (fun t x =>
      if t.kind = 8 then chk F U n t.sub x (deep + 1)
      else if isOf t x = false then (deep, t.no, 84)
      else if badOf F U t x x.parts.length ≠ 0 then (deep, t.no, badOf F U t x x.parts.length)
      else if t.kind = 9 then itemsGo (fun y => chk F U n t.sub y (deep + 1)) x.parts
      else (0, 0, 0)) s v.parts
end Go.Proofs.YtinngljphjdpoaaDoor.Vu
/- give, within, the shapes' is. -/
namespace Go.Proofs.YtinngljphjdpoaaDoor.Vg
open Go Go.RowKit Go.Proofs.YtinngljphjdpoaaDoor.Pa Go.Proofs.YtinngljphjdpoaaDoor.Pb Go.Proofs.YtinngljphjdpoaaDoor.Pf Go.Proofs.YtinngljphjdpoaaDoor.Pq Go.Proofs.YtinngljphjdpoaaDoor.Sc Go.Proofs.YtinngljphjdpoaaDoor.Rs Go.Proofs.YtinngljphjdpoaaDoor.Hs Go.Proofs.YtinngljphjdpoaaDoor.Ca Go.Proofs.YtinngljphjdpoaaDoor.Cb Go.Proofs.YtinngljphjdpoaaDoor.Vu
set_option linter.unusedVariables false
set_option linter.unusedSimpArgs false
/-- A panic of a fault. -/
def gave (f : Flt) : Ending := .panicked [{ v := .iface 94 (.agg #[.int .i64 f.1, .int .i64 f.2.1, .int .i64 f.2.2]), recovered := false }]
set_option maxRecDepth 100000 in
theorem give (line at_ why : Int) (w : World) : Calls Tryd.prog 46 #[.int .i64 line, .int .i64 at_, .int .i64 why] w fun e w' => e = gave (line, at_, why) ∧ w' = w := by
  go_enter Tryd.func46, Tryd.ntmps46
  go_wp2_with fail
  exact ⟨rfl, rfl, rfl⟩
set_option maxRecDepth 100000 in
theorem within (n least most : Nat) (w : World) : Calls Tryd.prog 75 #[.int .u64 (n : Int), .int .u64 (least : Int), .int .u64 (most : Int)] w fun e w' => e = .returned (.int .i64 (Vu.within n least most)) ∧ w' = w := by
  go_enter Tryd.func75, Tryd.ntmps75
  by_cases h1 : (n : Int) < least
  · have e : Vu.within n least most = 83 := by unfold Vu.within; rw [if_pos (.inl (by omega))]
    rw [e]
    go_wp2_with fail
    go_ret
    exact ⟨rfl, rfl⟩
  · by_cases h2 : (most : Int) < n
    · have e : Vu.within n least most = 83 := by unfold Vu.within; rw [if_pos (.inr (by omega))]
      rw [e]
      go_wp2_with fail
      go_ret
      exact ⟨rfl, rfl⟩
    · have e : Vu.within n least most = 0 := by unfold Vu.within; rw [if_neg (by omega)]
      rw [e]
      go_wp2_with fail
      go_ret
      exact ⟨rfl, rfl⟩
set_option maxRecDepth 100000 in
theorem is_number (a b : Nat) (num dl pl c c2 : Nat) (A B : Option Addr) (w : World) : Calls Tryd.prog 122 #[.agg #[.int .u64 (a : Int), .int .u64 (b : Int)], .agg #[.int .u64 (num : Int), .slice A dl c, .slice B pl c2]] w fun e w' => e = .returned (.bool (decide (dl = 0) && decide (pl = 0))) ∧ Below w.heap.size w w' := by
  have al : ∀ (w : World) (o : Obj), Below w.heap.size w (w.alloc o) := fun w o => (Below.refl _ _).alloc (Nat.le_refl _) _
  have bb : ∀ (o o' : Obj), Below w.heap.size w ((w.alloc o).alloc o') := fun o o' => (al w o).trans ((al _ o').mono (by simp))
  have BB := Lib.hid bb; clear al bb
  by_cases h1 : dl = 0
  · subst h1
    by_cases h2 : pl = 0
    · subst h2
      go_enter Tryd.func122, Tryd.ntmps122
      go_wp2_with fail
      go_ret
      exact ⟨rfl, BB.out _ _⟩
    · have h2' : ¬ (pl : Int) = 0 := by omega
      have h2b : ((pl : Int) == 0) = false := by simp; omega
      have e : decide (pl = 0) = false := decide_eq_false h2
      rw [e]
      go_enter Tryd.func122, Tryd.ntmps122
      go_wp2_with fail
      go_ret
      exact ⟨rfl, BB.out _ _⟩
  · have h1' : ¬ (dl : Int) = 0 := by omega
    have h1b : ((dl : Int) == 0) = false := by simp; omega
    have e : decide (dl = 0) = false := decide_eq_false h1
    rw [e, Bool.false_and]
    go_enter Tryd.func122, Tryd.ntmps122
    go_wp2_with fail
    go_ret
    exact ⟨rfl, BB.out _ _⟩
set_option maxRecDepth 100000 in
theorem is_float (fb : Nat) (num dl pl c c2 : Nat) (A B : Option Addr) (w : World) : Calls Tryd.prog 123 #[.agg #[.float .f64 fb], .agg #[.int .u64 (num : Int), .slice A dl c, .slice B pl c2]] w fun e w' => e = .returned (.bool (decide (dl = 0) && decide (pl = 0))) ∧ Below w.heap.size w w' := by
  have al : ∀ (w : World) (o : Obj), Below w.heap.size w (w.alloc o) := fun w o => (Below.refl _ _).alloc (Nat.le_refl _) _
  have bb : ∀ (o o' : Obj), Below w.heap.size w ((w.alloc o).alloc o') := fun o o' => (al w o).trans ((al _ o').mono (by simp))
  have BB := Lib.hid bb; clear al bb
  by_cases h1 : dl = 0
  · subst h1
    by_cases h2 : pl = 0
    · subst h2
      go_enter Tryd.func123, Tryd.ntmps123
      go_wp2_with fail
      go_ret
      exact ⟨rfl, BB.out _ _⟩
    · have h2' : ¬ (pl : Int) = 0 := by omega
      have h2b : ((pl : Int) == 0) = false := by simp; omega
      have e : decide (pl = 0) = false := decide_eq_false h2
      rw [e]
      go_enter Tryd.func123, Tryd.ntmps123
      go_wp2_with fail
      go_ret
      exact ⟨rfl, BB.out _ _⟩
  · have h1' : ¬ (dl : Int) = 0 := by omega
    have h1b : ((dl : Int) == 0) = false := by simp; omega
    have e : decide (dl = 0) = false := decide_eq_false h1
    rw [e, Bool.false_and]
    go_enter Tryd.func123, Tryd.ntmps123
    go_wp2_with fail
    go_ret
    exact ⟨rfl, BB.out _ _⟩
set_option maxRecDepth 100000 in
theorem is_data (a b : Nat) (tx : Bool) (num dl pl c c2 : Nat) (A B : Option Addr) (w : World) : Calls Tryd.prog 124 #[.agg #[.int .u64 (a : Int), .int .u64 (b : Int), .bool tx], .agg #[.int .u64 (num : Int), .slice A dl c, .slice B pl c2]] w fun e w' => e = .returned (.bool (decide (num = 0) && decide (pl = 0))) ∧ Below w.heap.size w w' := by
  have al : ∀ (w : World) (o : Obj), Below w.heap.size w (w.alloc o) := fun w o => (Below.refl _ _).alloc (Nat.le_refl _) _
  have bb : ∀ (o o' : Obj), Below w.heap.size w ((w.alloc o).alloc o') := fun o o' => (al w o).trans ((al _ o').mono (by simp))
  have BB := Lib.hid bb; clear al bb
  by_cases h1 : num = 0
  · subst h1
    by_cases h2 : pl = 0
    · subst h2
      go_enter Tryd.func124, Tryd.ntmps124
      go_wp2_with fail
      go_ret
      exact ⟨rfl, BB.out _ _⟩
    · have h2' : ¬ (pl : Int) = 0 := by omega
      have h2b : ((pl : Int) == 0) = false := by simp; omega
      have e : decide (pl = 0) = false := decide_eq_false h2
      rw [e]
      go_enter Tryd.func124, Tryd.ntmps124
      go_wp2_with fail
      go_ret
      exact ⟨rfl, BB.out _ _⟩
  · have h1' : ¬ (num : Int) = 0 := by omega
    have h1b : ((num : Int) == 0) = false := by simp; omega
    have e : decide (num = 0) = false := decide_eq_false h1
    rw [e, Bool.false_and]
    go_enter Tryd.func124, Tryd.ntmps124
    go_wp2_with fail
    go_ret
    exact ⟨rfl, BB.out _ _⟩
set_option maxRecDepth 100000 in
theorem is_list (g a b : Nat) (num dl pl c c2 : Nat) (A B : Option Addr) (w : World) : Calls Tryd.prog 121 #[.agg #[ptr g, .int .u64 (a : Int), .int .u64 (b : Int)], .agg #[.int .u64 (num : Int), .slice A dl c, .slice B pl c2]] w fun e w' => e = .returned (.bool (decide (num = 0) && decide (dl = 0))) ∧ Below w.heap.size w w' := by
  have al : ∀ (w : World) (o : Obj), Below w.heap.size w (w.alloc o) := fun w o => (Below.refl _ _).alloc (Nat.le_refl _) _
  have bb : ∀ (o o' : Obj), Below w.heap.size w ((w.alloc o).alloc o') := fun o o' => (al w o).trans ((al _ o').mono (by simp))
  have BB := Lib.hid bb; clear al bb
  unfold ptr
  by_cases h1 : num = 0
  · subst h1
    by_cases h2 : dl = 0
    · subst h2
      go_enter Tryd.func121, Tryd.ntmps121
      go_wp2_with fail
      go_ret
      exact ⟨rfl, BB.out _ _⟩
    · have h2' : ¬ (dl : Int) = 0 := by omega
      have h2b : ((dl : Int) == 0) = false := by simp; omega
      have e : decide (dl = 0) = false := decide_eq_false h2
      rw [e]
      go_enter Tryd.func121, Tryd.ntmps121
      go_wp2_with fail
      go_ret
      exact ⟨rfl, BB.out _ _⟩
  · have h1' : ¬ (num : Int) = 0 := by omega
    have h1b : ((num : Int) == 0) = false := by simp; omega
    have e : decide (num = 0) = false := decide_eq_false h1
    rw [e, Bool.false_and]
    go_enter Tryd.func121, Tryd.ntmps121
    go_wp2_with fail
    go_ret
    exact ⟨rfl, BB.out _ _⟩
end Go.Proofs.YtinngljphjdpoaaDoor.Vg
