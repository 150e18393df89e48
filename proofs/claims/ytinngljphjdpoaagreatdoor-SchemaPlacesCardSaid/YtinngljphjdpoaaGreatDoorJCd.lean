/- compile. -/
import Derived.Test.YtinngljphjdpoaaGreatDoorJCc
import Derived.Test.YtinngljphjdpoaaGreatDoorJHt
import Derived.Test.YtinngljphjdpoaaGreatDoorJGv
namespace Go.Proofs.YtinngljphjdpoaaGreatDoor.Ce
open Go Go.RowKit Go.Proofs.YtinngljphjdpoaaGreatDoor.Pa Go.Proofs.YtinngljphjdpoaaGreatDoor.Pb Go.Proofs.YtinngljphjdpoaaGreatDoor.Pf Go.Proofs.YtinngljphjdpoaaGreatDoor.Pq Go.Proofs.YtinngljphjdpoaaGreatDoor.Sc Go.Proofs.YtinngljphjdpoaaGreatDoor.Rs Go.Proofs.YtinngljphjdpoaaGreatDoor.Va Go.Proofs.YtinngljphjdpoaaGreatDoor.Vc Go.Proofs.YtinngljphjdpoaaGreatDoor.Vd Go.Proofs.YtinngljphjdpoaaGreatDoor.Ca Go.Proofs.YtinngljphjdpoaaGreatDoor.Cb Go.Proofs.YtinngljphjdpoaaGreatDoor.Cc
set_option linter.unusedVariables false
set_option linter.unusedSimpArgs false
set_option maxRecDepth 100000 in
theorem slot_info : (Tryz.prog.info? 149).map (fun i => (i.zero, i.size, i.bytes)) = some (some (.agg #[.int .i64 0, .int .i64 0, .nilFunc, .nilFunc, .nilFunc]), 5, 40) := by kernel_rfl
theorem pushS {w : World} {base : Nat} {A : Option Addr} {i c : Nat} {xs : List Value} (ho : w.ownsRow base 149 5 (.slice A i c) i xs) (hb : base ≤ w.heap.size) (hi : i ≤ 1000) (v0 v1 v2 v3 v4 : Value)
    (h1 : ∀ u ∈ [v0, v1, v2, v3, v4], u.oneCell' = true) :
    ∃ A' c' w', (appX #[112, 112] 112 #[.slice A i c, .slice (some ⟨w.heap.size, 0, none⟩) 1 1]).run Tryz.prog (w.alloc (.cells #[v0, v1, v2, v3, v4] 149)) = .ok (.slice A' (i + 1) c') w' ∧
      w'.ownsRow base 149 5 (.slice A' (i + 1) c') (i + 1) (xs ++ [v0, v1, v2, v3, v4]) ∧ w.heap.size < w'.heap.size ∧ w'.os = w.os ∧ w'.tape = w.tape ∧ w'.output = w.output ∧
      (∀ b, b < w.heap.size → (Value.slice A i c).ownBlock ≠ some b → w'.heap[b]? = w.heap[b]?) ∧ ((Value.slice A' (i + 1) c').ownBlock = (Value.slice A i c).ownBlock ∨ (Value.slice A' (i + 1) c').ownBlock = some (w.heap.size + 1)) := by
  obtain ⟨ti, hi', hzz⟩ := Option.map_eq_some_iff.1 slot_info
  simp only [Prod.mk.injEq] at hzz
  obtain ⟨hz0, hz1, hz2⟩ := hzz
  have hcell : ∀ j u, [v0, v1, v2, v3, v4][j]? = some u → (w.alloc (.cells #[v0, v1, v2, v3, v4] 149)).cell? ((⟨w.heap.size, 0, none⟩ : Addr).add j) = some u := by
    intro j u hu
    have hj := (List.getElem?_eq_some_iff.1 hu).1
    rw [Hs.add0]
    have := hp_cell (hp_alloc_at (.cells #[v0, v1, v2, v3, v4] 149) w.heap.size (w := w) rfl) j
    rw [this]
    simpa using hu
  obtain ⟨v', w', hr, h2, h3, _, h5⟩ := run_append_own_at (P := Tryz.prog) (w.alloc (.cells #[v0, v1, v2, v3, v4] 149)) base 112 112 149 ti _ 5 40 Tryz.underlying112 hi' hz0 hz1 hz2 rfl (by omega)
    (.slice A i c) i xs (ho.alloc _) ⟨w.heap.size, 0, none⟩ 1 1 [v0, v1, v2, v3, v4] rfl hcell h1 (by simp only [maxLen]; omega) (by omega) (by simp; omega)
  have hsl : ∃ A' c', v' = .slice A' (i + 1) c' := by
    rcases h2.2 with ⟨-, h0⟩ | ⟨g, cap, cur, e, -⟩
    · omega
    · exact ⟨_, _, e⟩
  obtain ⟨A', c', rfl⟩ := hsl
  have hz := h3.size
  simp at hz
  refine ⟨A', c', w', hr, h2, by omega, h3.os, h3.tape, h3.output, fun b hb hne => ?_, ?_⟩
  · rw [h3.block b (by simp; omega) (fun e => hne e.symm)]
    exact hp_alloc_past _ _ hb
  · rcases h5 with h | h
    · exact .inl h
    · exact .inr (by simpa using h)
theorem rdy_one {C : Nat → List Slot → Prop} {w : World} {S : Pl} {t : Slot} {chk wr rd : Value} (h : Rdy C w S t chk wr rd) : chk.oneCell' = true ∧ wr.oneCell' = true ∧ rd.oneCell' = true := by
  unfold Rdy at h
  split at h
  · obtain ⟨c, b5, b9, _, _, _, _, _, rfl, rfl, rfl⟩ := h
    exact ⟨rfl, rfl, rfl⟩
  · obtain ⟨sh, b4, b1, sv, _, _, _, _, _, rfl, h⟩ := h
    split at h
    · obtain ⟨c, _, rfl, rfl⟩ := h; exact ⟨rfl, rfl, rfl⟩
    · split at h
      · obtain ⟨rfl, rfl⟩ := h; exact ⟨rfl, rfl, rfl⟩
      · obtain ⟨rfl, rfl⟩ := h; exact ⟨rfl, rfl, rfl⟩
/-- What stands of i slots. -/
structure Up (w : World) (m : Nat) (g : Nat) (l : List Slot) (i : Nat) (A : Option Addr) (c : Nat) (xs : List Value) (a b : Nat) : Prop where
  head : hp w g = some (.cells #[.slice A i c, .int .i64 (a : Int), .int .i64 (b : Int)] 114 (0, 0))
  row : w.ownsRow (g + 1) 149 5 (.slice A i c) i xs
  slot : ∀ j t, l[j]? = some t → j < i → WfS t ∧ bnd t = true ∧ ∃ chk wr rd, xs[j * 5]? = some (.int .i64 t.no) ∧ xs[j * 5 + 1]? = some (.int .i64 (wt t.kind : Nat)) ∧ xs[j * 5 + 2]? = some chk ∧ xs[j * 5 + 3]? = some wr ∧ xs[j * 5 + 4]? = some rd ∧
    Rdy (Cd w (fun b => g < b ∧ b < w.heap.size ∧ (Value.slice A i c).ownBlock ≠ some b) m) w (fun b => g < b ∧ b < w.heap.size ∧ (Value.slice A i c).ownBlock ≠ some b) t chk wr rd
theorem Up.len {w : World} {m g : Nat} {l : List Slot} {i : Nat} {A : Option Addr} {c : Nat} {xs : List Value} {a b : Nat} (h : Up w m g l i A c xs a b) : xs.length = i * 5 := h.row.1
/-- One more. -/
theorem Up.step {w w6 w8 : World} {m g : Nat} {l : List Slot} {i : Nat} {A A' : Option Addr} {c c' : Nat} {xs : List Value} {a b : Nat} (h : Up w m g l i A c xs a b) {t : Slot} {chk wr rd : Value} (ht : l[i]? = some t) (hwf : WfS t) (hbd : bnd t = true)
    (hgw : g < w.heap.size) (h6 : ∀ k, k < w.heap.size → w6.heap[k]? = w.heap[k]?) (hs6 : w.heap.size ≤ w6.heap.size) (hr : Rdy (Cd w6 (fun b => w.heap.size ≤ b ∧ b < w6.heap.size) m) w6 (fun b => w.heap.size ≤ b ∧ b < w6.heap.size) t chk wr rd)
    (h8 : w8.ownsRow (g + 1) 149 5 (.slice A' (i + 1) c') (i + 1) (xs ++ [.int .i64 t.no, .int .i64 (wt t.kind : Nat), chk, wr, rd])) (hs8 : w6.heap.size < w8.heap.size)
    (h68 : ∀ b, b < w6.heap.size → (Value.slice A i c).ownBlock ≠ some b → w8.heap[b]? = w6.heap[b]?) (hown : (Value.slice A' (i + 1) c').ownBlock = (Value.slice A i c).ownBlock ∨ (Value.slice A' (i + 1) c').ownBlock = some (w6.heap.size + 1))
    (hg9 : hp w8 g = some (.cells #[.slice A i c, .int .i64 (a : Int), .int .i64 (b : Int)] 114 (0, 0))) :
    Up (w8.setCell ⟨g, 0, none⟩ (.slice A' (i + 1) c')) m g l (i + 1) A' c' (xs ++ [.int .i64 t.no, .int .i64 (wt t.kind : Nat), chk, wr, rd]) a b := by
  have hlen := h.len
  have ownlt : ∀ k, (Value.slice A i c).ownBlock = some k → g + 1 ≤ k ∧ k < w.heap.size := h.row.lt
  have hsz : (w8.setCell ⟨g, 0, none⟩ (.slice A' (i + 1) c')).heap.size = w8.heap.size := by simp [World.setCell]
  have keep : ∀ b, g < b → b < w6.heap.size → (Value.slice A i c).ownBlock ≠ some b → (w8.setCell ⟨g, 0, none⟩ (.slice A' (i + 1) c')).heap[b]? = w6.heap[b]? := fun b h1 h2 h3 => (heap_setCell_other _ _ _ _ (show b ≠ g by omega)).trans (h68 b h2 h3)
  have ne' : ∀ b, b < w6.heap.size → (Value.slice A i c).ownBlock ≠ some b → (Value.slice A' (i + 1) c').ownBlock ≠ some b := fun b h1 h2 e => by
    rcases hown with h | h
    · exact h2 (h.symm.trans e)
    · rw [h] at e; simp at e; omega
  have up : ∀ b o, hp w6 b = some o → (w8.setCell ⟨g, 0, none⟩ (.slice A' (i + 1) c')).heap[b]? = w6.heap[b]? → hp (w8.setCell ⟨g, 0, none⟩ (.slice A' (i + 1) c')) b = some o := fun b o h1 h2 => by unfold hp at *; rw [h2]; exact h1
  refine ⟨?_, ownsRow_setCell_below h8 (show g < g + 1 by omega) _, fun j u hu hj => ?_⟩
  · have := heap_setCell_same w8 g 0 _ _ (.slice A' (i + 1) c') hg9
    exact this
  · by_cases hji : j = i
    · subst hji
      obtain rfl : t = u := Option.some.inj (ht.symm.trans hu)
      have e : ∀ q, q < 5 → (xs ++ [.int .i64 t.no, .int .i64 (wt t.kind : Nat), chk, wr, rd])[j * 5 + q]? = [Value.int .i64 t.no, .int .i64 (wt t.kind : Nat), chk, wr, rd][q]? := fun q hq => by
        rw [List.getElem?_append_right (by omega)]; congr 1; omega
      refine ⟨hwf, hbd, chk, wr, rd, e 0 (by omega), e 1 (by omega), e 2 (by omega), e 3 (by omega), e 4 (by omega), ?_⟩
      have hS : ∀ b, (w.heap.size ≤ b ∧ b < w6.heap.size) → (g < b ∧ b < (w8.setCell ⟨g, 0, none⟩ (.slice A' (j + 1) c')).heap.size ∧ (Value.slice A' (j + 1) c').ownBlock ≠ some b) := fun b hb => ⟨by omega, by rw [hsz]; omega, ne' b hb.2 (fun e => by have := (ownlt b e).2; omega)⟩
      have hk : ∀ b, (w.heap.size ≤ b ∧ b < w6.heap.size) → (w8.setCell ⟨g, 0, none⟩ (.slice A' (j + 1) c')).heap[b]? = w6.heap[b]? := fun b hb => keep b (by omega) hb.2 (fun e => by have := (ownlt b e).2; omega)
      exact hr.mono (fun c s hc => Cd.keep hS (fun b hb _ => hk b hb) m c s hc) hS (fun b hb o ho => up b o ho (hk b hb))
    · obtain ⟨g0, gb, chk', wr', rd', g1, g2, g3, g4, g5, g6⟩ := h.slot j u hu (by omega)
      have e : ∀ q v, q < 5 → xs[j * 5 + q]? = some v → (xs ++ [.int .i64 t.no, .int .i64 (wt t.kind : Nat), chk, wr, rd])[j * 5 + q]? = some v := fun q v hq hv => by
        rw [List.getElem?_append_left (by omega)]; exact hv
      refine ⟨g0, gb, chk', wr', rd', e 0 _ (by omega) g1, e 1 _ (by omega) g2, e 2 _ (by omega) g3, e 3 _ (by omega) g4, e 4 _ (by omega) g5, ?_⟩
      have hS : ∀ b, (g < b ∧ b < w.heap.size ∧ (Value.slice A i c).ownBlock ≠ some b) → (g < b ∧ b < (w8.setCell ⟨g, 0, none⟩ (.slice A' (i + 1) c')).heap.size ∧ (Value.slice A' (i + 1) c').ownBlock ≠ some b) := fun b hb => ⟨hb.1, by rw [hsz]; omega, ne' b (by omega) hb.2.2⟩
      have hk : ∀ b, (g < b ∧ b < w.heap.size ∧ (Value.slice A i c).ownBlock ≠ some b) → (w8.setCell ⟨g, 0, none⟩ (.slice A' (i + 1) c')).heap[b]? = w.heap[b]? := fun b hb => (keep b hb.1 (by omega) hb.2.2).trans (h6 b hb.2.1)
      exact g6.mono (fun c s hc => Cd.keep hS (fun b hb _ => hk b hb) m c s hc) hS (fun b hb o ho => by unfold hp at *; rw [hk b hb]; exact ho)
theorem Up.done {w0 w : World} {m g : Nat} {l : List Slot} {A : Option Addr} {c : Nat} {xs : List Value} (h : Up w m g l l.length A c xs (pSpan (m + 1) l).1 (pSpan (m + 1) l).2) (hg : w0.heap.size ≤ g) : Cd w (Bt w0 w) (m + 1) g l := by
  have hgl : g < w.heap.size := (Array.getElem?_eq_some_iff.1 h.head).1
  refine ⟨⟨hg, hgl⟩, A, c, h.head, fun h0 => ?_⟩
  rcases h.row.2 with ⟨-, h1⟩ | ⟨b, cap, cur, e, hb, hbb, -⟩
  · omega
  · simp only [Value.slice.injEq] at e
    obtain ⟨rfl, -, rfl⟩ := e
    have hbl : b < w.heap.size := (Array.getElem?_eq_some_iff.1 hbb).1
    refine ⟨b, rfl, ⟨by omega, hbl⟩, fun i t ht => ?_⟩
    have hi : i < l.length := (List.getElem?_eq_some_iff.1 ht).1
    obtain ⟨g0, gb, chk, wr, rd, g1, g2, g3, g4, g5, g6⟩ := h.slot i t ht hi
    have k : ∀ o v, xs[o]? = some v → w.cell? ⟨b, o, none⟩ = some v := fun o v hv => by
      have := World.ownsRow.cells h.row (g := b) rfl o v hv
      rwa [Hs.add0] at this
    have hS : ∀ q, (g < q ∧ q < w.heap.size ∧ (Value.slice (some ⟨b, 0, none⟩) l.length c).ownBlock ≠ some q) → Bt w0 w q := fun q hq => ⟨by omega, hq.2.1⟩
    exact ⟨g0, gb, chk, wr, rd, k _ _ g1, k _ _ g2, k _ _ g3, k _ _ g4, k _ _ g5, g6.mono (fun c s hc => Cd.keep hS (fun _ _ _ => rfl) m c s hc) hS (fun _ _ _ ho => ho)⟩
theorem Up.below {w w' : World} {m g : Nat} {l : List Slot} {i : Nat} {A : Option Addr} {c : Nat} {xs : List Value} {a b : Nat} (h : Up w m g l i A c xs a b) (hb : Below w.heap.size w w') : Up w' m g l i A c xs a b := by
  have hgl : g < w.heap.size := (Array.getElem?_eq_some_iff.1 h.head).1
  refine ⟨(hb.hp g hgl).trans h.head, h.row.kept (grown_below hb none) (by cases (Value.slice A i c).ownBlock <;> simp), fun j u hu hj => ?_⟩
  obtain ⟨g0, gb, chk', wr', rd', g1, g2, g3, g4, g5, g6⟩ := h.slot j u hu hj
  have hS : ∀ q, (g < q ∧ q < w.heap.size ∧ (Value.slice A i c).ownBlock ≠ some q) → (g < q ∧ q < w'.heap.size ∧ (Value.slice A i c).ownBlock ≠ some q) := fun q hq => ⟨hq.1, Nat.lt_of_lt_of_le hq.2.1 hb.size, hq.2.2⟩
  exact ⟨g0, gb, chk', wr', rd', g1, g2, g3, g4, g5, g6.mono (fun c s hc => Cd.keep hS (fun q hq _ => hb.block q hq.2.1) m c s hc) hS (fun q hq o ho => by unfold hp at *; rw [hb.block q hq.2.1]; exact ho)⟩
set_option maxHeartbeats 4000000 in
set_option maxRecDepth 100000 in
theorem compile : ∀ (m : Nat), CompSaid m := by
  intro m
  induction m with
  | zero => exact fun k v l W w h _ _ => h.elim
  | succ m ih =>
    intro k v l W w h hok hb
    obtain ⟨A, c, rfl, hlc, hcm⟩ := h.slice
    cases k with
    | zero => exact hok.elim
    | succ k =>
    have hspan := span (m + 1) (k + 1) _ l W (w.alloc (.cells #[.slice none 0 0, .int .i64 0, .int .i64 0] 114)) h hok (hb.trans (((Below.refl _ _).alloc (Nat.le_refl _) _).mono hb.size))
    obtain ⟨h16, hall⟩ := hok
    have IH := Lib.hid ih; clear ih
    have H := Lib.hid h; have HA := Lib.hid hall; have HSP := Lib.hid hspan; clear h hall hspan hlc hcm
    have hq := pSpan_le (m + 1) l
    have HQ := Lib.hid hq; clear hq
    go_enter Tryz.func64, Tryz.ntmps64
    go_wp2_with (go_at_call 9999)
    go_at_call 92
    refine HSP.out.mono ?_
    generalize hp1 : (pSpan (m + 1) l).1 = a1 at *
    generalize hp2 : (pSpan (m + 1) l).2 = a2 at *
    have HP1 := Lib.hid hp1; have HP2 := Lib.hid hp2; clear hp1 hp2
    rintro _ w2 ⟨rfl, b2⟩
    have hg2 : hp w2 w.heap.size = some (.cells #[.slice none 0 0, .int .i64 0, .int .i64 0] 114 (0, 0)) := (b2.hp _ (by simp)).trans (hp_alloc_at _ _ rfl)
    have hC2 := fun i => hp_cell hg2 i
    have hF2 := fun i => hp_frozen hg2 i
    have B2 := Lib.hid (((Below.refl w.heap.size w).alloc (Nat.le_refl _) (.cells #[.slice none 0 0, .int .i64 0, .int .i64 0] 114)).trans (b2.mono (by simp)))
    have G2 := Lib.hid hg2
    clear hg2 b2
    go_wp2_with fail
    clear hC2 hF2
    have h0 := heap_setCell_same _ w.heap.size 2 _ _ (.int .i64 (a2 : Int)) (heap_setCell_same _ w.heap.size 1 _ _ (.int .i64 (a1 : Int)) G2.out)
    have hb0 : Below w.heap.size w ((w2.setCell ⟨w.heap.size, 1, none⟩ (.int .i64 (a1 : Int))).setCell ⟨w.heap.size, 2, none⟩ (.int .i64 (a2 : Int))) := (B2.out.setCell (Nat.le_refl _) _).setCell (Nat.le_refl _) _
    have U0 := Lib.hid (show Up ((w2.setCell ⟨w.heap.size, 1, none⟩ (.int .i64 (a1 : Int))).setCell ⟨w.heap.size, 2, none⟩ (.int .i64 (a2 : Int))) m w.heap.size l 0 none 0 [] a1 a2 from ⟨h0, World.ownsRow_nil _ _ _ _, fun j t _ hj => absurd hj (by omega)⟩)
    have BB0 := Lib.hid hb0
    clear h0 hb0
    go_loopw [21] (fun s wr => ∃ (i : Nat) (A' : Option Addr) (c' : Nat) (xs : List Value), i ≤ l.length ∧ s = .int .i64 i ∧ Up wr m w.heap.size l i A' c' xs a1 a2 ∧ Below w.heap.size w wr) (fun s _ => l.length - (intOf s).toNat)
    case atStart => exact ⟨0, none, 0, [], by omega, rfl, U0.out, BB0.out⟩
    case round =>
      obtain ⟨i, A', c', xs, hi, rfl, hu, hbw⟩ := hrel
      have HU := Lib.hid hu; have HBW := Lib.hid hbw; clear hu hbw U0 BB0
      by_cases hil : i < l.length
      · obtain ⟨ad, rfl, hwf, sv, hsl, hrd⟩ := H.out.at_ i hil
        have hbr : Below W.heap.size W wr := hb.trans (HBW.out.mono hb.size)
        replace hsl := hsl.keep (hbr.block _ hsl.lt)
        obtain ⟨p, hpa⟩ : ∃ p, ad.add (i * 5) = p := ⟨_, rfl⟩
        rw [hpa] at hsl
        have hit := HA.out l[i] (List.getElem_mem hil)
        have hti : l[i]? = some l[i] := by simp [hil]
        generalize l[i] = t at hwf hsl hrd hit hti
        obtain ⟨no, kind, least, most, sub⟩ := t
        obtain ⟨c0, c1, c2, c3, c4⟩ := hsl
        obtain ⟨i1, i2, i3, i4, i5⟩ := hit
        simp only [Slot.no, Slot.kind, Slot.least, Slot.most, Slot.sub] at c0 c1 c2 c3 c4 hrd i1 i2 i4 i5
        obtain ⟨A2, cc2, rfl, hlc2, hcm2⟩ := hrd.slice
        clear hlc2 hcm2
        have HRD := Lib.hid hrd; have I3 := Lib.hid i3; have I4 := Lib.hid i4; have HTI := Lib.hid hti; have HWF := Lib.hid hwf; have HBR := Lib.hid hbr
        clear hrd i1 i2 i3 i4 i5 hti hwf hbr
        go_wp2_with fail
        obtain ⟨wx, hwx⟩ : ∃ x, x = wr.alloc (.cells #[.int .i64 no, .int .i64 kind, .int .u64 least, .int .u64 most, .slice A2 sub.length cc2] 117) := ⟨_, rfl⟩
        rw [← hwx]
        have hbx : Below wr.heap.size wr wx.drew := by rw [hwx]; exact ((Below.refl _ _).alloc (Nat.le_refl _) _).drew
        have hux := HU.out.below hbx
        have hgx := hux.head
        have hgl : w.heap.size < wr.heap.size := (Array.getElem?_eq_some_iff.1 HU.out.head).1
        have hsx : wx.heap.size = wr.heap.size + 1 := by rw [hwx]; simp
        have hCg : ∀ j, wx.cell? ⟨w.heap.size, j, none⟩ = (#[.slice A' i c', .int .i64 (a1 : Int), .int .i64 (a2 : Int)] : Array Value)[j]? := fun j => (World.cell?_of_block (w' := wx) (w := wx.drew) rfl).trans (hp_cell hgx j)
        have hCs : ∀ j, wx.cell? ⟨wr.heap.size, j, none⟩ = (#[.int .i64 no, .int .i64 kind, .int .u64 least, .int .u64 most, .slice A2 sub.length cc2] : Array Value)[j]? := fun j => by rw [hwx]; exact hp_cell (hp_alloc_at _ _ rfl) j
        have hry := ready m k IH.out no kind least most sub (.slice A2 sub.length cc2) W wx.drew rfl I3.out (fun hn => ⟨HRD.out, I4.out hn⟩) (HBR.out.trans (hbx.mono HBR.out.size))
        unfold ReadySaid at hry
        simp only [Slot.no, Slot.kind, Slot.least, Slot.most] at hry
        have HRY := Lib.hid hry; have HUX := Lib.hid hux; have HBX := Lib.hid hbx; have HGL := Lib.hid hgl; have HSX := Lib.hid hsx
        clear hry hux hbx hgx hwx hsx
        have hstep : ∀ (w6 : World) (chk wr6 rd : Value), Below wx.drew.heap.size wx.drew w6 → (chk.oneCell' = true ∧ wr6.oneCell' = true ∧ rd.oneCell' = true) →
            (w.heap.size < w6.heap.size ∧ (∀ j, w6.cell? ⟨w.heap.size, j, none⟩ = (#[.slice A' i c', .int .i64 (a1 : Int), .int .i64 (a2 : Int)] : Array Value)[j]?)) ∧ ∃ A8 c8 w8, (appX #[112, 112] 112 #[.slice A' i c', .slice (some ⟨w6.heap.size, 0, none⟩) 1 1]).run Tryz.prog (w6.alloc (.cells #[.int .i64 no, .int .i64 (wt kind : Nat), chk, wr6, rd] 149)) = .ok (.slice A8 (i + 1) c8) w8 ∧
              (∀ j, w8.cell? ⟨w.heap.size, j, none⟩ = (#[.slice A' i c', .int .i64 (a1 : Int), .int .i64 (a2 : Int)] : Array Value)[j]?) ∧ (∀ j, w8.frozen? ⟨w.heap.size, j, none⟩ = false) ∧
              (∀ t, l[i]? = some t → WfS t → bnd t = true → t.no = no → t.kind = kind → Rdy (Cd w6 (fun b => wx.drew.heap.size ≤ b ∧ b < w6.heap.size) m) w6 (fun b => wx.drew.heap.size ≤ b ∧ b < w6.heap.size) t chk wr6 rd →
                ∃ xs', Up (w8.setCell ⟨w.heap.size, 0, none⟩ (.slice A8 (i + 1) c8)) m w.heap.size l (i + 1) A8 c8 xs' a1 a2) ∧ Below w.heap.size w w8 := by
          intro w6 chk wr6 rd b6 h1
          have hu6 := HUX.out.below b6
          have hsz := b6.size
          have e1 := HSX.out
          have e2 := HGL.out
          have e3 : wx.drew.heap.size = wx.heap.size := rfl
          have hl6 : w.heap.size < w6.heap.size := by omega
          obtain ⟨A8, c8, w8, hap, o8, z8, e81, e82, e83, k8, ow8⟩ := pushS hu6.row (by omega) (by omega) (.int .i64 no) (.int .i64 (wt kind : Nat)) chk wr6 rd (by
            intro u hu
            simp only [List.mem_cons, List.not_mem_nil, or_false] at hu
            rcases hu with rfl | rfl | rfl | rfl | rfl
            · rfl
            · rfl
            · exact h1.1
            · exact h1.2.1
            · exact h1.2.2)
          have hg8 : hp w8 w.heap.size = some (.cells #[.slice A' i c', .int .i64 (a1 : Int), .int .i64 (a2 : Int)] 114 (0, 0)) := (k8 _ hl6 (fun e => by have := (hu6.row.lt _ e).1; omega)).trans hu6.head
          refine ⟨⟨hl6, fun j => hp_cell hu6.head j⟩, A8, c8, w8, hap, fun j => hp_cell hg8 j, fun j => hp_frozen hg8 j, ?_, ?_⟩
          · intro t ht hwf hbd hno hki hr
            subst hno; subst hki
            exact ⟨_, HUX.out.step ht hwf hbd (by omega) (fun q hq => b6.block q hq) hsz hr o8 z8 k8 ow8 hg8⟩
          · have hb0 : Below w.heap.size w wx.drew := HBW.out.trans (HBX.out.mono (by omega))
            have hb6 : Below w.heap.size w w6 := hb0.trans (b6.mono (by omega))
            have hb68 : Below w.heap.size w6 w8 := ⟨e81, e82, e83, by omega, fun q hq => k8 q (by omega) (fun e => by have := (hu6.row.lt _ e).1; omega)⟩
            exact hb6.trans hb68
        have HST := Lib.hid hstep; clear hstep
        go_region_with (go_at_call 93; refine HRY.out.mono ?_; rintro _ w6 ⟨chk, wr6, rd, rfl, hr6, b6⟩; obtain ⟨⟨hl6, hC6⟩, A8, c8, w8, hap, hC8, hF8, hup, hbw8⟩ := HST.out w6 chk wr6 rd b6 (rdy_one hr6); have hn6 : ¬ w.heap.size = w6.heap.size := (by omega); have hm6 : ¬ w6.heap.size = w.heap.size := (by omega))
        all_goals
          obtain ⟨xs', hup'⟩ := hup _ HTI.out HWF.out I3.out rfl rfl hr6
          have HUP := Lib.hid hup'; have HB8 := Lib.hid (Below.setCell hbw8 (p := ⟨w.heap.size, 0, none⟩) (Nat.le_refl _) (.slice A8 (i + 1) c8))
          clear hup hup' hbw8 hr6 b6 hap hC8 hF8 hC6
          go_wp2_with fail
          go_roundw
          case rel => exact ⟨i + 1, A8, c8, xs', by omega, by go_num, HUP.out, HB8.out⟩
          case measure => simp [intOf]; omega
      · obtain rfl : i = l.length := by omega
        go_wp2_with fail
        go_ret
        have hd := HU.out
        rw [← HP1.out, ← HP2.out] at hd
        exact ⟨_, rfl, hd.done (Nat.le_refl _), HBW.out⟩
end Go.Proofs.YtinngljphjdpoaaGreatDoor.Ce
