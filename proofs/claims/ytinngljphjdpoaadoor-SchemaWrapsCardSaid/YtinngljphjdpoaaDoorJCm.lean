/- The reference's twin: a schema in new memory. -/
import Derived.Test.YtinngljphjdpoaaDoorJVg
import Derived.Test.YtinngljphjdpoaaDoorJLs
namespace Go.Proofs.YtinngljphjdpoaaDoor.Tw
open Go Go.RowKit Go.Proofs.YtinngljphjdpoaaDoor.Pa Go.Proofs.YtinngljphjdpoaaDoor.Pb Go.Proofs.YtinngljphjdpoaaDoor.Pf Go.Proofs.YtinngljphjdpoaaDoor.Sc Go.Proofs.YtinngljphjdpoaaDoor.Rs Go.Proofs.YtinngljphjdpoaaDoor.Hs Go.Proofs.YtinngljphjdpoaaDoor.Va Go.Proofs.YtinngljphjdpoaaDoor.Vc Go.Proofs.YtinngljphjdpoaaDoor.Vd Go.Proofs.YtinngljphjdpoaaDoor.Ca Go.Proofs.YtinngljphjdpoaaDoor.Cb Go.Proofs.YtinngljphjdpoaaDoor.Cc Go.Proofs.YtinngljphjdpoaaDoor.Ce
set_option linter.unusedVariables false
set_option linter.unusedSimpArgs false
/-- The slice v reads as the slots l, in blocks of S. -/
def Tw (w : World) (S : Pl) : Nat → Value → List Slot → Prop
  | 0, _, _ => False
  | n + 1, v, l => ∃ (A : Option Addr) (c : Nat), v = .slice A l.length c ∧ l.length ≤ c ∧ c ≤ maxLen ∧
      (0 < l.length → ∃ b, A = some ⟨b, 0, none⟩ ∧ S b ∧ ∀ i t, l[i]? = some t → WfS t ∧ ∃ sv, SlotAt w ⟨b, i * 5, none⟩ t sv ∧ Tw w S n sv t.sub)
theorem Tw.rd {w : World} {S : Pl} : ∀ (n : Nat) (v : Value) (l : List Slot), Tw w S n v l → RdS w n v l
  | 0, _, _, h => h.elim
  | n + 1, v, l, h => by
    obtain ⟨A, c, e, h1, h2, h3⟩ := h
    refine ⟨A, c, e, h1, h2, fun h0 => ?_⟩
    obtain ⟨b, hA, hb, hc⟩ := h3 h0
    refine ⟨_, hA, fun i t ht => ?_⟩
    obtain ⟨g0, sv, g1, g2⟩ := hc i t ht
    exact ⟨g0, sv, by rw [add0]; exact g1, Tw.rd n sv t.sub g2⟩
theorem Tw.keep {w w' : World} {S S' : Pl} (hS : ∀ b, S b → S' b) (hk : ∀ b, S b → b < w.heap.size → w'.heap[b]? = w.heap[b]?) : ∀ (n : Nat) (v : Value) (l : List Slot), Tw w S n v l → Tw w' S' n v l
  | 0, _, _, h => h.elim
  | n + 1, v, l, h => by
    obtain ⟨A, c, e, h1, h2, h3⟩ := h
    refine ⟨A, c, e, h1, h2, fun h0 => ?_⟩
    obtain ⟨b, hA, hb, hc⟩ := h3 h0
    refine ⟨b, hA, hS b hb, fun i t ht => ?_⟩
    obtain ⟨g0, sv, g1, g2⟩ := hc i t ht
    exact ⟨g0, sv, g1.keep (hk b hb g1.lt), Tw.keep hS hk n sv t.sub g2⟩
set_option maxRecDepth 100000 in
theorem slot_info : (Tryd.prog.info? 53).map (fun i => (i.zero, i.size, i.bytes)) = some (some (.agg #[.int .i64 0, .int .i64 0, .int .u64 0, .int .u64 0, .slice none 0 0]), 5, 56) := by kernel_rfl
theorem pushT {w : World} {base : Nat} {A : Option Addr} {i c : Nat} {xs : List Value} (ho : w.ownsRow base 53 5 (.slice A i c) i xs) (hb : base ≤ w.heap.size) (hi : i ≤ 20000) (v0 v1 v2 v3 v4 : Value)
    (h1 : ∀ u ∈ [v0, v1, v2, v3, v4], u.oneCell' = true) :
    ∃ A' c' w', (appX #[22, 22] 22 #[.slice A i c, .slice (some ⟨w.heap.size, 0, none⟩) 1 1]).run Tryd.prog (w.alloc (.cells #[v0, v1, v2, v3, v4] 53)) = .ok (.slice A' (i + 1) c') w' ∧
      w'.ownsRow base 53 5 (.slice A' (i + 1) c') (i + 1) (xs ++ [v0, v1, v2, v3, v4]) ∧ w.heap.size < w'.heap.size ∧ w'.os = w.os ∧ w'.tape = w.tape ∧ w'.output = w.output ∧
      (∀ b, b < w.heap.size → (Value.slice A i c).ownBlock ≠ some b → w'.heap[b]? = w.heap[b]?) ∧ ((Value.slice A' (i + 1) c').ownBlock = (Value.slice A i c).ownBlock ∨ (Value.slice A' (i + 1) c').ownBlock = some (w.heap.size + 1)) := by
  obtain ⟨ti, hi', hzz⟩ := Option.map_eq_some_iff.1 slot_info
  simp only [Prod.mk.injEq] at hzz
  obtain ⟨hz0, hz1, hz2⟩ := hzz
  have hcell : ∀ j u, [v0, v1, v2, v3, v4][j]? = some u → (w.alloc (.cells #[v0, v1, v2, v3, v4] 53)).cell? ((⟨w.heap.size, 0, none⟩ : Addr).add j) = some u := by
    intro j u hu
    have hj := (List.getElem?_eq_some_iff.1 hu).1
    rw [Hs.add0]
    have := hp_cell (hp_alloc_at (.cells #[v0, v1, v2, v3, v4] 53) w.heap.size (w := w) rfl) j
    rw [this]
    simpa using hu
  obtain ⟨v', w', hr, h2, h3, _, h5⟩ := run_append_own_at (P := Tryd.prog) (w.alloc (.cells #[v0, v1, v2, v3, v4] 53)) base 22 22 53 ti _ 5 56 Tryd.underlying22 hi' hz0 hz1 hz2 rfl (by omega)
    (.slice A i c) i xs (ho.alloc _) ⟨w.heap.size, 0, none⟩ 1 1 [v0, v1, v2, v3, v4] rfl hcell h1 (by simp only [maxLen]; omega) (by omega) (by simp; omega)
  have hsl : ∃ A' c', v' = .slice A' (i + 1) c' := by
    rcases h2.2 with ⟨-, h0⟩ | ⟨g, cap, cur, e, -⟩
    · omega
    · exact ⟨_, _, e⟩
  obtain ⟨A', c', rfl⟩ := hsl
  have hz := h3.size
  simp at hz
  refine ⟨A', c', w', hr, h2, by omega, h3.os, h3.tape, h3.output, fun b hb hne => ?_, ?_⟩
  · rw [h3.block b (by simp; omega) (fun e => hne e.symm)]
    exact hp_alloc_past _ _ hb
  · rcases h5 with h | h
    · exact .inl h
    · exact .inr (by simpa using h)
/-- What stands of i slots. -/
structure Ut (w : World) (m : Nat) (g : Nat) (l : List Slot) (i : Nat) (A : Option Addr) (c : Nat) (xs : List Value) : Prop where
  row : w.ownsRow g 53 5 (.slice A i c) i xs
  slot : ∀ j t, l[j]? = some t → j < i → WfS t ∧ ∃ sv, xs[j * 5]? = some (.int .i64 t.no) ∧ xs[j * 5 + 1]? = some (.int .i64 t.kind) ∧ xs[j * 5 + 2]? = some (.int .u64 t.least) ∧ xs[j * 5 + 3]? = some (.int .u64 t.most) ∧ xs[j * 5 + 4]? = some sv ∧
    Tw w (fun b => g ≤ b ∧ b < w.heap.size ∧ (Value.slice A i c).ownBlock ≠ some b) m sv t.sub
theorem Ut.below {w w' : World} {m g : Nat} {l : List Slot} {i : Nat} {A : Option Addr} {c : Nat} {xs : List Value} (h : Ut w m g l i A c xs) (hb : Below w.heap.size w w') : Ut w' m g l i A c xs := by
  refine ⟨h.row.kept (grown_below hb none) (by cases (Value.slice A i c).ownBlock <;> simp), fun j u hu hj => ?_⟩
  obtain ⟨g0, sv, g1, g2, g3, g4, g5, g6⟩ := h.slot j u hu hj
  exact ⟨g0, sv, g1, g2, g3, g4, g5, Tw.keep (fun q hq => ⟨hq.1, Nat.lt_of_lt_of_le hq.2.1 hb.size, hq.2.2⟩) (fun q hq _ => hb.block q hq.2.1) m sv u.sub g6⟩
theorem Ut.step {w w6 w8 : World} {m g : Nat} {l : List Slot} {i : Nat} {A A' : Option Addr} {c c' : Nat} {xs : List Value} (h : Ut w m g l i A c xs) {t : Slot} {sv : Value} (ht : l[i]? = some t) (hwf : WfS t)
    (hgw : g ≤ w.heap.size) (h6 : ∀ k, k < w.heap.size → w6.heap[k]? = w.heap[k]?) (hs6 : w.heap.size ≤ w6.heap.size) (hr : Tw w6 (fun b => w.heap.size ≤ b ∧ b < w6.heap.size) m sv t.sub)
    (h8 : w8.ownsRow g 53 5 (.slice A' (i + 1) c') (i + 1) (xs ++ [.int .i64 t.no, .int .i64 t.kind, .int .u64 t.least, .int .u64 t.most, sv])) (hs8 : w6.heap.size < w8.heap.size)
    (h68 : ∀ b, b < w6.heap.size → (Value.slice A i c).ownBlock ≠ some b → w8.heap[b]? = w6.heap[b]?) (hown : (Value.slice A' (i + 1) c').ownBlock = (Value.slice A i c).ownBlock ∨ (Value.slice A' (i + 1) c').ownBlock = some (w6.heap.size + 1)) :
    Ut w8 m g l (i + 1) A' c' (xs ++ [.int .i64 t.no, .int .i64 t.kind, .int .u64 t.least, .int .u64 t.most, sv]) := by
  have hlen : xs.length = i * 5 := h.row.1
  have ownlt : ∀ k, (Value.slice A i c).ownBlock = some k → g ≤ k ∧ k < w.heap.size := h.row.lt
  have ne' : ∀ b, b < w6.heap.size → (Value.slice A i c).ownBlock ≠ some b → (Value.slice A' (i + 1) c').ownBlock ≠ some b := fun b h1 h2 e => by
    rcases hown with h | h
    · exact h2 (h.symm.trans e)
    · rw [h] at e; simp at e; omega
  refine ⟨h8, fun j u hu hj => ?_⟩
  by_cases hji : j = i
  · subst hji
    obtain rfl : t = u := Option.some.inj (ht.symm.trans hu)
    have e : ∀ q, q < 5 → (xs ++ [.int .i64 t.no, .int .i64 t.kind, .int .u64 t.least, .int .u64 t.most, sv])[j * 5 + q]? = [Value.int .i64 t.no, .int .i64 t.kind, .int .u64 t.least, .int .u64 t.most, sv][q]? := fun q hq => by
      rw [List.getElem?_append_right (by omega)]; congr 1; omega
    refine ⟨hwf, sv, e 0 (by omega), e 1 (by omega), e 2 (by omega), e 3 (by omega), e 4 (by omega), Tw.keep (fun b hb => ⟨by omega, by omega, ne' b hb.2 (fun e => by have := (ownlt b e).2; omega)⟩) (fun b hb _ => h68 b hb.2 (fun e => by have := (ownlt b e).2; omega)) m sv t.sub hr⟩
  · obtain ⟨g0, sv', g1, g2, g3, g4, g5, g6⟩ := h.slot j u hu (by omega)
    have e : ∀ q v, q < 5 → xs[j * 5 + q]? = some v → (xs ++ [.int .i64 t.no, .int .i64 t.kind, .int .u64 t.least, .int .u64 t.most, sv])[j * 5 + q]? = some v := fun q v hq hv => by
      rw [List.getElem?_append_left (by omega)]; exact hv
    exact ⟨g0, sv', e 0 _ (by omega) g1, e 1 _ (by omega) g2, e 2 _ (by omega) g3, e 3 _ (by omega) g4, e 4 _ (by omega) g5, Tw.keep (fun b hb => ⟨hb.1, by omega, ne' b (by omega) hb.2.2⟩) (fun b hb _ => (h68 b (by omega) hb.2.2).trans (h6 b hb.2.1)) m sv' u.sub g6⟩
theorem Ut.done {w0 w : World} {m : Nat} {l : List Slot} {A : Option Addr} {c : Nat} {xs : List Value} (h : Ut w m w0.heap.size l l.length A c xs) : Tw w (Bt w0 w) (m + 1) (.slice A l.length c) l := by
  rcases h.row.2 with ⟨e, h1⟩ | ⟨b, cap, cur, e, hb, hbb, h1, h2, -⟩
  · simp only [Value.slice.injEq] at e
    obtain ⟨rfl, -, rfl⟩ := e
    exact ⟨none, 0, by rw [h1], by omega, by simp [maxLen], fun h0 => by omega⟩
  · simp only [Value.slice.injEq] at e
    obtain ⟨rfl, -, rfl⟩ := e
    have hbl : b < w.heap.size := (Array.getElem?_eq_some_iff.1 hbb).1
    refine ⟨_, c, rfl, h1, h2, fun h0 => ⟨b, rfl, ⟨hb, hbl⟩, fun i t ht => ?_⟩⟩
    have hi : i < l.length := (List.getElem?_eq_some_iff.1 ht).1
    obtain ⟨g0, sv, g1, g2, g3, g4, g5, g6⟩ := h.slot i t ht hi
    have k : ∀ o v, xs[o]? = some v → w.cell? ⟨b, o, none⟩ = some v := fun o v hv => by
      have := World.ownsRow.cells h.row (g := b) rfl o v hv
      rwa [Hs.add0] at this
    exact ⟨g0, sv, ⟨k _ _ g1, k _ _ g2, k _ _ g3, k _ _ g4, k _ _ g5⟩, Tw.keep (fun q hq => ⟨hq.1, hq.2.1⟩) (fun _ _ _ => rfl) m sv t.sub g6⟩
end Go.Proofs.YtinngljphjdpoaaDoor.Tw
/- wipe: a schema in memory of its own, written over. -/
namespace Go.Proofs.YtinngljphjdpoaaDoor.Wi
open Go Go.RowKit Go.Proofs.YtinngljphjdpoaaDoor.Pa Go.Proofs.YtinngljphjdpoaaDoor.Pb Go.Proofs.YtinngljphjdpoaaDoor.Pf Go.Proofs.YtinngljphjdpoaaDoor.Sc Go.Proofs.YtinngljphjdpoaaDoor.Rs Go.Proofs.YtinngljphjdpoaaDoor.Hs Go.Proofs.YtinngljphjdpoaaDoor.Va Go.Proofs.YtinngljphjdpoaaDoor.Vc Go.Proofs.YtinngljphjdpoaaDoor.Vd Go.Proofs.YtinngljphjdpoaaDoor.Ca Go.Proofs.YtinngljphjdpoaaDoor.Ce
set_option linter.unusedVariables false
set_option linter.unusedSimpArgs false
/-- What can be written over, in the blocks of S, less than n levels deep. -/
def Wp (w : World) (S : Pl) : Nat → Value → Prop
  | 0, _ => False
  | n + 1, v => v = .slice none 0 0 ∨ ∃ (b len cap q : Nat) (f : Nat → Value), v = .slice (some ⟨b, 0, none⟩) len cap ∧ len ≤ 20000 ∧ S b ∧ w.rowIs b 53 q f ∧ len * 5 ≤ q ∧ ∀ j, j < len → Wp w S n (f (j * 5 + 4))
/-- From one world to another where some of S was written over. -/
structure Over (S : Pl) (w w' : World) : Prop where
  os : w'.os = w.os
  tape : w'.tape = w.tape
  output : w'.output = w.output
  size : w'.heap.size = w.heap.size
  keep : ∀ b, ¬ S b → w'.heap[b]? = w.heap[b]?
  row : ∀ b q f, w.rowIs b 53 q f → ∃ f', w'.rowIs b 53 q f' ∧ ∀ j, f' (j * 5 + 4) = f (j * 5 + 4) ∨ f' (j * 5 + 4) = .slice none 0 0
theorem Over.refl (S : Pl) (w : World) : Over S w w := ⟨rfl, rfl, rfl, rfl, fun _ _ => rfl, fun b q f h => ⟨f, h, fun _ => .inl rfl⟩⟩
theorem Over.trans {S : Pl} {w w' w'' : World} (h : Over S w w') (k : Over S w' w'') : Over S w w'' :=
  ⟨k.os.trans h.os, k.tape.trans h.tape, k.output.trans h.output, k.size.trans h.size, fun b hb => (k.keep b hb).trans (h.keep b hb), fun b q f hr => by
    obtain ⟨f1, h1, e1⟩ := h.row b q f hr
    obtain ⟨f2, h2, e2⟩ := k.row b q f1 h1
    refine ⟨f2, h2, fun j => ?_⟩
    rcases e2 j with e | e
    · rw [e]; exact e1 j
    · exact .inr e⟩
theorem Wp.nil (w : World) (S : Pl) (n : Nat) : Wp w S (n + 1) (.slice none 0 0) := .inl rfl
theorem Wp.pos {w : World} {S : Pl} {n : Nat} {v : Value} (h : Wp w S n v) : ∃ m, n = m + 1 := by
  cases n with
  | zero => exact h.elim
  | succ m => exact ⟨m, rfl⟩
theorem Wp.over {S : Pl} {w w' : World} (ho : Over S w w') : ∀ (n : Nat) (v : Value), Wp w S n v → Wp w' S n v
  | 0, _, h => h.elim
  | n + 1, v, h => by
    rcases h with h | ⟨b, len, cap, q, f, e, hl, hb, hr, hq, hc⟩
    · exact .inl h
    · obtain ⟨f', hr', hf⟩ := ho.row b q f hr
      refine .inr ⟨b, len, cap, q, f', e, hl, hb, hr', hq, fun j hj => ?_⟩
      have := hc j hj
      rcases hf j with e | e
      · rw [e]; exact Wp.over ho n _ this
      · rw [e]
        obtain ⟨m, rfl⟩ := this.pos
        exact Wp.nil _ _ _
theorem over_cell {S : Pl} {w : World} {b o : Nat} (hb : S b) (v : Value) (h4 : o % 5 = 4 → v = .slice none 0 0) : Over S w (w.setCell ⟨b, o, none⟩ v) := by
  refine ⟨rfl, rfl, rfl, by simp [World.setCell], fun k hk => heap_setCell_other _ _ _ _ (fun e => hk (by rw [e]; exact hb)), fun k q f hr => ?_⟩
  by_cases e : k = b
  · subst e
    refine ⟨_, hr.set o v, fun j => ?_⟩
    by_cases ej : j * 5 + 4 = o
    · right; rw [if_pos ej]; exact h4 (by omega)
    · left; rw [if_neg ej]
  · exact ⟨f, hr.of_block (heap_setCell_other _ _ _ _ e), fun _ => .inl rfl⟩
theorem wp_of_hd {w : World} {base : Nat} {S : Pl} (hS : ∀ b, base ≤ b → b < w.heap.size → S b) : ∀ (n : Nat) (v : Value) (l : List Slot), Hd w base n v l → Few n l → Wp w S n v
  | 0, _, _, h, _ => h.elim
  | n + 1, v, l, h, hf => by
    obtain ⟨b, f, e, hb, hr, h1, h2⟩ := h
    refine .inr ⟨b, l.length, l.length + 3, (l.length + 3) * 5, f, e, by have := hf.1; omega, hS b hb hr.lt, hr, by omega, fun j hj => ?_⟩
    obtain ⟨g0, g1, g2, g3, g4, g5⟩ := h1 j l[j] (by simp [hj])
    exact wp_of_hd hS n _ _ g5 (hf.2 _ (List.getElem_mem hj))
end Go.Proofs.YtinngljphjdpoaaDoor.Wi
/- Compile on both sides, the range, made. -/
namespace Go.Proofs.YtinngljphjdpoaaDoor.Cm
open Go Go.RowKit Go.Proofs.YtinngljphjdpoaaDoor.Pa Go.Proofs.YtinngljphjdpoaaDoor.Pb Go.Proofs.YtinngljphjdpoaaDoor.Pf Go.Proofs.YtinngljphjdpoaaDoor.Nz Go.Proofs.YtinngljphjdpoaaDoor.Sc Go.Proofs.YtinngljphjdpoaaDoor.Rs Go.Proofs.YtinngljphjdpoaaDoor.Hs Go.Proofs.YtinngljphjdpoaaDoor.Ht Go.Proofs.YtinngljphjdpoaaDoor.Va Go.Proofs.YtinngljphjdpoaaDoor.Vc Go.Proofs.YtinngljphjdpoaaDoor.Vd Go.Proofs.YtinngljphjdpoaaDoor.Vl Go.Proofs.YtinngljphjdpoaaDoor.Vs Go.Proofs.YtinngljphjdpoaaDoor.Ls Go.Proofs.YtinngljphjdpoaaDoor.Ca Go.Proofs.YtinngljphjdpoaaDoor.Cb Go.Proofs.YtinngljphjdpoaaDoor.Ce Go.Proofs.YtinngljphjdpoaaDoor.Tw Go.Proofs.YtinngljphjdpoaaDoor.Wi
set_option linter.unusedVariables false
set_option linter.unusedSimpArgs false
theorem sz_mono : ∀ (b a : Nat), a ≤ b → sz a ≤ sz b := by
  intro b
  induction b using Nat.strongRecOn with
  | _ b ih =>
    intro a h
    by_cases ha : 128 ≤ a
    · rw [sz_step ha, sz_step (show 128 ≤ b by omega)]
      have := ih (b / 128) (by omega) (a / 128) (Nat.div_le_div_right h)
      omega
    · rw [sz_end ha]; exact sz_pos b
theorem fr_mono {a b : Nat} (h : a ≤ b) : fr a ≤ fr b := by
  have := sz_mono b a h
  unfold fr; omega
theorem exVal_le {f : List Slot → Nat × Nat} {t : Slot} (hb : bnd t = true) (h : nest t = true → (f t.sub).1 ≤ (f t.sub).2) : (exVal f t).1 ≤ (exVal f t).2 := by
  obtain ⟨no, kind, least, most, sub⟩ := t
  have hb' := hb
  have hle : (kind = 1 ∨ kind = 5 ∨ kind = 6 ∨ kind = 9) → least ≤ most := by
    intro hk
    unfold bnd at hb
    simp only [Slot.kind, Slot.least, Slot.most] at hb
    rcases hk with rfl | rfl | rfl | rfl <;> simp at hb
    · exact of_decide_eq_true hb
    · exact of_decide_eq_true hb.1
    · exact of_decide_eq_true hb.1
    · exact of_decide_eq_true hb.1
  unfold exVal
  simp only [Slot.kind, Slot.least, Slot.most, Slot.sub] at *
  rcases bnd_kind hb' with e | e | e | e | e | e | e | e | e <;> simp only [Slot.kind] at e <;> subst e <;> simp
  · exact sz_mono _ _ (hle (by decide))
  · exact fr_mono (hle (by decide))
  · exact fr_mono (hle (by decide))
  · exact fr_mono (h (by simp [nest, Slot.kind]))
  · exact fr_mono (Nat.mul_le_mul (hle (by decide)) (fr_mono (h (by simp [nest, Slot.kind]))))
theorem exGo_le {f : List Slot → Nat × Nat} : ∀ (s : List Slot) (p : Nat × Nat), p.1 ≤ p.2 → (∀ t ∈ s, bnd t = true ∧ (nest t = true → (f t.sub).1 ≤ (f t.sub).2)) →
    (s.foldl (fun p t => (p.1 + hd t + (exVal f t).1, p.2 + hd t + (exVal f t).2)) p).1 ≤ (s.foldl (fun p t => (p.1 + hd t + (exVal f t).1, p.2 + hd t + (exVal f t).2)) p).2
  | [], p, hp, _ => hp
  | t :: r, p, hp, h => by
    have ht := h t (by simp)
    have := exVal_le (f := f) ht.1 ht.2
    exact exGo_le r _ (by simp only; omega) (fun u hu => h u (by simp [hu]))
theorem exSpan_le : ∀ (n k : Nat) (s : List Slot), okL k s → (exSpan n s).1 ≤ (exSpan n s).2
  | 0, _, _, _ => Nat.le_refl _
  | n + 1, 0, _, h => h.elim
  | n + 1, k + 1, s, h => exGo_le s (0, 0) (Nat.le_refl _) (fun t ht => ⟨(h.2 t ht).2.2.1, fun hn => exSpan_le n k t.sub ((h.2 t ht).2.2.2.1 hn)⟩)
/-- Where a schema can be, both spans are one. -/
theorem spans_eq {n : Nat} {l : List Slot} (h : valid n l = 0) : (pSpan n l).1 = (rSpan n l).1 ∧ (pSpan n l).2 = (rSpan n l).2 ∧ okL 6 l ∧ (exSpan n l).2 ≤ 4194304 ∧ pSpan n l = exSpan n l := by
  unfold valid at h
  split at h
  · cases h
  · rename_i hc
    split at h
    · cases h
    · rename_i hm
      obtain ⟨r, hr⟩ : ∃ r, canL 6 l 256 = some r := by cases h : canL 6 l 256 with
        | none => exact absurd h hc
        | some r => exact ⟨r, rfl⟩
      have hok := canL_ok 6 l 256 r hr
      have hp := pSpan_al n l
      have hq := rSpan_al n 6 l hok
      have hle := exSpan_le n 6 l hok
      obtain ⟨hp1, hp2⟩ := hp
      obtain ⟨hq1, hq2⟩ := hq
      unfold Al at *
      refine ⟨by omega, by omega, hok, by omega, ?_⟩
      apply Prod.ext
      · omega
      · omega
theorem Wp.below {w w' : World} {S : Pl} (hb : Below w.heap.size w w') : ∀ (n : Nat) (v : Value), Wp w S n v → Wp w' S n v
  | 0, _, h => h.elim
  | n + 1, v, h => by
    rcases h with h | ⟨b, len, cap, q, f, e, hl, hs, hr, hq, hc⟩
    · exact .inl h
    · exact .inr ⟨b, len, cap, q, f, e, hl, hs, hr.of_block (hb.block b hr.lt), hq, fun j hj => Wp.below hb n _ (hc j hj)⟩
set_option maxRecDepth 100000 in
theorem pCompile {n : Nat} {v : Value} {l : List Slot} (w : World) (h : RdS w n v l) :
    Calls Tryd.prog 14 #[v] w fun e w' => ((valid n l ≠ 0 ∧ e = .returned (.tuple #[.pointer none, .int .i64 (valid n l)])) ∨ (valid n l = 0 ∧ ∃ c, e = .returned (.tuple #[ptr c, .int .i64 0]) ∧ Cd w' (Bt w w') n c l)) ∧ Below w.heap.size w w' := by
  obtain ⟨A, c, rfl, -⟩ := h.slice
  have H := Lib.hid h; clear h
  go_enter Tryd.func14, Tryd.ntmps14
  go_wp2_with (go_at_call 9999)
  go_at_call 29
  refine (pvalid w H.out).mono ?_
  rintro _ w1 ⟨rfl, b1⟩
  by_cases hv : valid n l = 0
  · rw [hv]
    obtain ⟨-, -, hok, -⟩ := spans_eq hv
    have HV := Lib.hid hv; have HOK := Lib.hid hok; have B1 := Lib.hid b1; clear hv hok b1
    go_wp2_with (go_at_call 9999)
    go_at_call 30
    refine (compile n 6 _ l w w1 H.out HOK.out B1.out).mono ?_
    rintro _ w2 ⟨c, rfl, hc, b2⟩
    have HC := Lib.hid hc; have B2 := Lib.hid b2; clear hc b2
    go_wp2_with fail
    go_ret2
    exact ⟨.inr ⟨HV.out, c, rfl, Cd.keep (Bt.sub B1.out.size (Nat.le_refl _)) (fun _ _ _ => rfl) n c l HC.out⟩, B1.out.trans (B2.out.mono B1.out.size)⟩
  · have B1 := Lib.hid b1; clear b1
    obtain ⟨V, hV⟩ : ∃ V, V = valid n l := ⟨_, rfl⟩
    rw [← hV] at hv ⊢
    have HV := Lib.hid hv; have HVV := Lib.hid hV; clear hV
    go_wp2_with fail
    go_ret2
    exact ⟨.inl ⟨by rw [← HVV.out]; exact HV.out, by rw [← HVV.out]; rfl⟩, B1.out⟩
end Go.Proofs.YtinngljphjdpoaaDoor.Cm
