/- The reference's low, known, fits, one. -/
import Derived.Test.YtinngljphjdpoaaDoorJEb
import Derived.Test.YtinngljphjdpoaaDoorJCm
import Derived.Test.YtinngljphjdpoaaDoorJRa
namespace Go.Proofs.YtinngljphjdpoaaDoor.Er
open Go Go.RowKit Go.Proofs.YtinngljphjdpoaaDoor.Pa Go.Proofs.YtinngljphjdpoaaDoor.Pb Go.Proofs.YtinngljphjdpoaaDoor.Pf Go.Proofs.YtinngljphjdpoaaDoor.Nz Go.Proofs.YtinngljphjdpoaaDoor.Ea Go.Proofs.YtinngljphjdpoaaDoor.Eb Go.Proofs.YtinngljphjdpoaaDoor.Hx
set_option linter.unusedVariables false
set_option linter.unusedSimpArgs false
/-- Is a wire type one? -/
def kn (ty : Int) : Bool := decide (ty = 0 ∨ ty = 1 ∨ ty = 2 ∨ ty = 5)
/-- Has a field what its type has? -/
def ft (ty : Int) (num dl : Nat) : Bool := if ty = 2 then decide (num = 0) else decide (dl = 0 ∧ (ty ≠ 5 ∨ num ≤ 4294967295))
/-- How both go together. -/
theorem wrong_ref (f : Ep.Fd) (last : Int) (h : ¬ (f.no < 1 ∨ 536870911 < f.no ∨ f.no ≤ last)) : Ep.wrong f last = if kn f.ty = false then 72 else if ft f.ty f.num f.data.length = false then 1 else 0 := by
  unfold Ep.wrong kn ft
  rw [if_neg h]
  by_cases t2 : f.ty = 2
  · by_cases n0 : f.num = 0 <;> simp [t2, n0]
  · by_cases t0 : f.ty = 0 ∨ f.ty = 1 ∨ f.ty = 5
    · have hk : f.ty = 0 ∨ f.ty = 1 ∨ f.ty = 2 ∨ f.ty = 5 := by omega
      rw [if_neg t2, if_pos t0, decide_eq_true hk]
      show (if f.data.length ≠ 0 ∨ f.ty = 5 ∧ 4294967296 ≤ f.num then (1 : Int) else 0) = (if (if f.ty = 2 then decide (f.num = 0) else decide (f.data.length = 0 ∧ (f.ty ≠ 5 ∨ f.num ≤ 4294967295))) = false then 1 else 0)
      rw [if_neg t2]
      by_cases hP : f.data.length = 0 ∧ (f.ty ≠ 5 ∨ f.num ≤ 4294967295)
      · rw [decide_eq_true hP, if_neg (by omega)]; rfl
      · rw [decide_eq_false hP, if_pos (by omega)]; rfl
    · have hk : ¬ (f.ty = 0 ∨ f.ty = 1 ∨ f.ty = 2 ∨ f.ty = 5) := by omega
      rw [if_neg t2, if_neg t0, decide_eq_false hk, if_pos rfl]
end Go.Proofs.YtinngljphjdpoaaDoor.Er
/- The reference's one, Encode, Join. -/
namespace Go.Proofs.YtinngljphjdpoaaDoor.Eu
open Go Go.RowKit Go.Proofs.YtinngljphjdpoaaDoor.Pa Go.Proofs.YtinngljphjdpoaaDoor.Pb Go.Proofs.YtinngljphjdpoaaDoor.Pf Go.Proofs.YtinngljphjdpoaaDoor.Nz Go.Proofs.YtinngljphjdpoaaDoor.Ea Go.Proofs.YtinngljphjdpoaaDoor.Eb Go.Proofs.YtinngljphjdpoaaDoor.Er Go.Proofs.YtinngljphjdpoaaDoor.Hx
set_option linter.unusedVariables false
set_option linter.unusedSimpArgs false
theorem sum_le (l : List Ep.Fd) (h : ∀ f ∈ l, f.data.length ≤ 5000000) : Ep.sumL l ≤ l.length * 5000000 := by
  induction l with
  | nil => simp [Ep.sumL]
  | cons f r ih =>
    have h1 := ih (fun g hg => h g (by simp [hg]))
    have h2 := h f (by simp)
    simp [Ep.sumL]; omega
theorem run_mk0 (n : Nat) (hn : n ≤ 281474976710656) (W : World) :
    (Instr.makeSlice 24 (.int .i64 0) (.int .i64 (n : Int))).run Tryd.prog W = .ok (.slice (some ⟨W.heap.size, 0, none⟩) 0 n) (W.alloc (.cells (cb (List.replicate n 0)).toArray 5)) := by
  obtain ⟨i, hi, hzz⟩ := Option.map_eq_some_iff.1 Nm.u8.info
  simp only [Prod.mk.injEq] at hzz
  obtain ⟨hz0, hz1, hz2⟩ := hzz
  have hr := run_make (P := Tryd.prog) W 24 5 i _ Tryd.underlying24 hi hz0 .i64 .i64 0 n (by omega) (by omega) (by rw [hz2]; omega) (by omega)
  simp only [Int.toNat_natCast, hz1] at hr
  have e : (madeCells (Value.int .u8 0).cells (n * 1)) = (cb (List.replicate n 0)).toArray := by
    apply Array.ext'
    simp [madeCells, cb, Value.cells]
    apply List.ext_getElem
    · simp
    · intro i h1 h2
      have : i % 1 = 0 := by omega
      simp [this]
  rw [e] at hr
  simpa using hr
end Go.Proofs.YtinngljphjdpoaaDoor.Eu
/- Lists of fields and of items that grow; what a message's bytes are. -/
namespace Go.Proofs.YtinngljphjdpoaaDoor.Eq
open Go Go.RowKit Go.Proofs.YtinngljphjdpoaaDoor.Pa Go.Proofs.YtinngljphjdpoaaDoor.Pb Go.Proofs.YtinngljphjdpoaaDoor.Pf Go.Proofs.YtinngljphjdpoaaDoor.Sc Go.Proofs.YtinngljphjdpoaaDoor.Rs Go.Proofs.YtinngljphjdpoaaDoor.Hs Go.Proofs.YtinngljphjdpoaaDoor.Va Go.Proofs.YtinngljphjdpoaaDoor.Ce Go.Proofs.YtinngljphjdpoaaDoor.Tw Go.Proofs.YtinngljphjdpoaaDoor.Ea Go.Proofs.YtinngljphjdpoaaDoor.Eb Go.Proofs.YtinngljphjdpoaaDoor.Eu Go.Proofs.YtinngljphjdpoaaDoor.Hx
set_option linter.unusedVariables false
set_option linter.unusedSimpArgs false
set_option maxRecDepth 100000 in
theorem infoF : (Tryd.prog.info? 85).map (fun i => (i.zero, i.size, i.bytes)) = some (some (.agg #[.int .i64 0, .int .i64 0, .int .u64 0, .slice none 0 0]), 4, 48) := by kernel_rfl
theorem pushF {w : World} {base : Nat} {A : Option Addr} {i c : Nat} {xs : List Value} (ho : w.ownsRow base 85 4 (.slice A i c) i xs) (hb : base ≤ w.heap.size) (hi : i ≤ 20000) (v0 v1 v2 v3 : Value)
    (h1 : ∀ u ∈ [v0, v1, v2, v3], u.oneCell' = true) :
    ∃ A' c' w', (appX #[46, 46] 46 #[.slice A i c, .slice (some ⟨w.heap.size, 0, none⟩) 1 1]).run Tryd.prog (w.alloc (.cells #[v0, v1, v2, v3] 85)) = .ok (.slice A' (i + 1) c') w' ∧
      w'.ownsRow base 85 4 (.slice A' (i + 1) c') (i + 1) (xs ++ [v0, v1, v2, v3]) ∧ w.heap.size < w'.heap.size ∧ w'.os = w.os ∧ w'.tape = w.tape ∧ w'.output = w.output ∧
      (∀ b, b < w.heap.size → (Value.slice A i c).ownBlock ≠ some b → w'.heap[b]? = w.heap[b]?) ∧ ((Value.slice A' (i + 1) c').ownBlock = (Value.slice A i c).ownBlock ∨ (Value.slice A' (i + 1) c').ownBlock = some (w.heap.size + 1)) := by
  obtain ⟨ti, hi', hzz⟩ := Option.map_eq_some_iff.1 infoF
  simp only [Prod.mk.injEq] at hzz
  obtain ⟨hz0, hz1, hz2⟩ := hzz
  have hcell : ∀ j u, [v0, v1, v2, v3][j]? = some u → (w.alloc (.cells #[v0, v1, v2, v3] 85)).cell? ((⟨w.heap.size, 0, none⟩ : Addr).add j) = some u := by
    intro j u hu
    have hj := (List.getElem?_eq_some_iff.1 hu).1
    rw [Hs.add0]
    have := hp_cell (hp_alloc_at (.cells #[v0, v1, v2, v3] 85) w.heap.size (w := w) rfl) j
    rw [this]
    simpa using hu
  obtain ⟨v', w', hr, h2, h3, _, h5⟩ := run_append_own_at (P := Tryd.prog) (w.alloc (.cells #[v0, v1, v2, v3] 85)) base 46 46 85 ti _ 4 48 Tryd.underlying46 hi' hz0 hz1 hz2 rfl (by omega)
    (.slice A i c) i xs (ho.alloc _) ⟨w.heap.size, 0, none⟩ 1 1 [v0, v1, v2, v3] rfl hcell h1 (by simp only [maxLen]; omega) (by omega) (by simp; omega)
  have hsl : ∃ A' c', v' = .slice A' (i + 1) c' := by
    rcases h2.2 with ⟨-, h0⟩ | ⟨g, cap, cur, e, -⟩
    · omega
    · exact ⟨_, _, e⟩
  obtain ⟨A', c', rfl⟩ := hsl
  have hz := h3.size
  simp at hz
  refine ⟨A', c', w', hr, h2, by omega, h3.os, h3.tape, h3.output, fun b hb hne => ?_, ?_⟩
  · rw [h3.block b (by simp; omega) (fun e => hne e.symm)]
    exact hp_alloc_past _ _ hb
  · rcases h5 with h | h
    · exact .inl h
    · exact .inr (by simpa using h)
set_option maxRecDepth 100000 in
theorem infoI : (Tryd.prog.info? 24).map (fun i => (i.zero, i.size, i.bytes)) = some (some (.slice none 0 0), 1, 24) := by kernel_rfl
theorem pushI {w : World} {base : Nat} {A : Option Addr} {i c : Nat} {xs : List Value} (ho : w.ownsRow base 24 1 (.slice A i c) i xs) (hb : base ≤ w.heap.size) (hi : i ≤ 20000) (v0 : Value)
    (h1 : ∀ u ∈ [v0], u.oneCell' = true) :
    ∃ A' c' w', (appX #[161, 161] 161 #[.slice A i c, .slice (some ⟨w.heap.size, 0, none⟩) 1 1]).run Tryd.prog (w.alloc (.cells #[v0] 24)) = .ok (.slice A' (i + 1) c') w' ∧
      w'.ownsRow base 24 1 (.slice A' (i + 1) c') (i + 1) (xs ++ [v0]) ∧ w.heap.size < w'.heap.size ∧ w'.os = w.os ∧ w'.tape = w.tape ∧ w'.output = w.output ∧
      (∀ b, b < w.heap.size → (Value.slice A i c).ownBlock ≠ some b → w'.heap[b]? = w.heap[b]?) ∧ ((Value.slice A' (i + 1) c').ownBlock = (Value.slice A i c).ownBlock ∨ (Value.slice A' (i + 1) c').ownBlock = some (w.heap.size + 1)) := by
  obtain ⟨ti, hi', hzz⟩ := Option.map_eq_some_iff.1 infoI
  simp only [Prod.mk.injEq] at hzz
  obtain ⟨hz0, hz1, hz2⟩ := hzz
  have hcell : ∀ j u, [v0][j]? = some u → (w.alloc (.cells #[v0] 24)).cell? ((⟨w.heap.size, 0, none⟩ : Addr).add j) = some u := by
    intro j u hu
    have hj := (List.getElem?_eq_some_iff.1 hu).1
    rw [Hs.add0]
    have := hp_cell (hp_alloc_at (.cells #[v0] 24) w.heap.size (w := w) rfl) j
    rw [this]
    simpa using hu
  obtain ⟨v', w', hr, h2, h3, _, h5⟩ := run_append_own_at (P := Tryd.prog) (w.alloc (.cells #[v0] 24)) base 161 161 24 ti _ 1 24 Tryd.underlying161 hi' hz0 hz1 hz2 rfl (by omega)
    (.slice A i c) i xs (ho.alloc _) ⟨w.heap.size, 0, none⟩ 1 1 [v0] rfl hcell h1 (by simp only [maxLen]; omega) (by omega) (by simp; omega)
  have hsl : ∃ A' c', v' = .slice A' (i + 1) c' := by
    rcases h2.2 with ⟨-, h0⟩ | ⟨g, cap, cur, e, -⟩
    · omega
    · exact ⟨_, _, e⟩
  obtain ⟨A', c', rfl⟩ := hsl
  have hz := h3.size
  simp at hz
  refine ⟨A', c', w', hr, h2, by omega, h3.os, h3.tape, h3.output, fun b hb hne => ?_, ?_⟩
  · rw [h3.block b (by simp; omega) (fun e => hne e.symm)]
    exact hp_alloc_past _ _ hb
  · rcases h5 with h | h
    · exact .inl h
    · exact .inr (by simpa using h)
/-- A slice that reads as bytes, apart from a row. -/
def Dt (w : World) (row : Option Nat) (v : Value) (d : List UInt8) : Prop := Rd w v d ∧ (0 < d.length → ∀ k, v.ownBlock = some k → row ≠ some k)
theorem Dt.keep {w w' : World} {row row' : Option Nat} {v : Value} {d : List UInt8} (h : Dt w row v d) (hk : ∀ b, b < w.heap.size → row ≠ some b → w'.heap[b]? = w.heap[b]?) (hr : row' = row ∨ ∃ b, row' = some b ∧ w.heap.size ≤ b) : Dt w' row' v d := by
  obtain ⟨⟨A, c, e, h1, h2, h3⟩, h4⟩ := h
  refine ⟨⟨A, c, e, h1, h2, fun h0 => ?_⟩, fun h0 k hv => ?_⟩
  · obtain ⟨ad, ha, hc⟩ := h3 h0
    refine ⟨ad, ha, fun j u hu => ?_⟩
    have hcl := hc j u hu
    have hb := World.block_lt_of_cell? w _ hcl
    rw [Rs.block_add] at hb
    have hne : row ≠ some ad.block := h4 h0 ad.block (by rw [e, ha]; rfl)
    exact (World.cell?_of_block (by rw [Rs.block_add]; exact hk _ hb hne)).trans hcl
  · obtain ⟨ad, ha, hc⟩ := h3 h0
    have hk' : k = ad.block := by rw [e, ha] at hv; exact (Option.some.inj hv).symm
    have hlt : ad.block < w.heap.size := by
      have h5 : (cb d)[0]? = some (.int .u8 (d[0].toNat : Int)) := cb_get d 0 h0
      have := World.block_lt_of_cell? w _ (hc 0 _ h5)
      rwa [Rs.block_add] at this
    rcases hr with rfl | ⟨b, rfl, hb⟩
    · exact h4 h0 k hv
    · intro e2; cases e2; omega
/-- The fields l stand in a row of the call's own. -/
structure Uf (w : World) (g : Nat) (l : List Ep.Fd) (A : Option Addr) (c : Nat) (xs : List Value) : Prop where
  row : w.ownsRow g 85 4 (.slice A l.length c) l.length xs
  fld : ∀ j f, l[j]? = some f → (f.num < 18446744073709551616 ∧ f.data.length ≤ 5000000) ∧ ∃ A' c', xs[j * 4]? = some (.int .i64 f.no) ∧ xs[j * 4 + 1]? = some (.int .i64 f.ty) ∧ xs[j * 4 + 2]? = some (.int .u64 (f.num : Int)) ∧ xs[j * 4 + 3]? = some (.slice A' f.data.length c') ∧
    Dt w (Value.slice A l.length c).ownBlock (.slice A' f.data.length c') f.data
theorem Uf.nil (w : World) (g : Nat) : Uf w g [] none 0 [] := ⟨World.ownsRow_nil _ _ _ _, fun j f h => by simp at h⟩
theorem Uf.below {w w' : World} {g : Nat} {l : List Ep.Fd} {A : Option Addr} {c : Nat} {xs : List Value} (h : Uf w g l A c xs) (hb : Below w.heap.size w w') : Uf w' g l A c xs := by
  refine ⟨h.row.kept (grown_below hb none) (by cases (Value.slice A l.length c).ownBlock <;> simp), fun j f hf => ?_⟩
  obtain ⟨g0, A', c', g1, g2, g3, g4, g5⟩ := h.fld j f hf
  exact ⟨g0, A', c', g1, g2, g3, g4, g5.keep (fun b hb' _ => hb.block b hb') (.inl rfl)⟩
theorem Uf.step {w w6 w8 : World} {g : Nat} {l : List Ep.Fd} {A A' : Option Addr} {c c' : Nat} {xs : List Value} (h : Uf w g l A c xs) (f : Ep.Fd) (Af : Option Addr) (cf : Nat) (hf : f.num < 18446744073709551616 ∧ f.data.length ≤ 5000000)
    (hb : Below w.heap.size w w6) (hd : Dt w6 (Value.slice A l.length c).ownBlock (.slice Af f.data.length cf) f.data)
    (h8 : w8.ownsRow g 85 4 (.slice A' (l.length + 1) c') (l.length + 1) (xs ++ [.int .i64 f.no, .int .i64 f.ty, .int .u64 (f.num : Int), .slice Af f.data.length cf])) (hs8 : w6.heap.size < w8.heap.size)
    (h68 : ∀ b, b < w6.heap.size → (Value.slice A l.length c).ownBlock ≠ some b → w8.heap[b]? = w6.heap[b]?) (hown : (Value.slice A' (l.length + 1) c').ownBlock = (Value.slice A l.length c).ownBlock ∨ (Value.slice A' (l.length + 1) c').ownBlock = some (w6.heap.size + 1)) :
    Uf w8 g (l ++ [f]) A' c' (xs ++ [.int .i64 f.no, .int .i64 f.ty, .int .u64 (f.num : Int), .slice Af f.data.length cf]) := by
  have hlen : xs.length = l.length * 4 := h.row.1
  have hl1 : (l ++ [f]).length = l.length + 1 := by simp
  have hown' : (Value.slice A' (l ++ [f]).length c').ownBlock = (Value.slice A l.length c).ownBlock ∨ ∃ b, (Value.slice A' (l ++ [f]).length c').ownBlock = some b ∧ w6.heap.size ≤ b := by
    rw [hl1]
    rcases hown with h | h
    · exact .inl h
    · exact .inr ⟨_, h, by omega⟩
  refine ⟨by rw [hl1]; exact h8, fun j u hu => ?_⟩
  by_cases hji : j = l.length
  · subst hji
    obtain rfl : u = f := by simpa using hu.symm
    have e : ∀ q, q < 4 → (xs ++ [Value.int .i64 u.no, .int .i64 u.ty, .int .u64 (u.num : Int), .slice Af u.data.length cf])[l.length * 4 + q]? = [Value.int .i64 u.no, .int .i64 u.ty, .int .u64 (u.num : Int), .slice Af u.data.length cf][q]? := fun q hq => by
      rw [List.getElem?_append_right (by omega)]; congr 1; omega
    exact ⟨hf, Af, cf, e 0 (by omega), e 1 (by omega), e 2 (by omega), e 3 (by omega), hd.keep h68 hown'⟩
  · have hjl : j < l.length := by
      have := (List.getElem?_eq_some_iff.1 hu).1
      simp at this
      omega
    rw [List.getElem?_append_left hjl] at hu
    obtain ⟨g0, Aj, cj, g1, g2, g3, g4, g5⟩ := h.fld j u hu
    have e : ∀ q v, q < 4 → xs[j * 4 + q]? = some v → (xs ++ [Value.int .i64 f.no, .int .i64 f.ty, .int .u64 (f.num : Int), .slice Af f.data.length cf])[j * 4 + q]? = some v := fun q v hq hv => by
      rw [List.getElem?_append_left (by omega)]; exact hv
    exact ⟨g0, Aj, cj, e 0 _ (by omega) g1, e 1 _ (by omega) g2, e 2 _ (by omega) g3, e 3 _ (by omega) g4, (g5.keep (fun b hb' _ => hb.block b hb') (.inl rfl)).keep h68 hown'⟩
theorem Uf.rd {w : World} {g : Nat} {l : List Ep.Fd} {A : Option Addr} {c : Nat} {xs : List Value} (h : Uf w g l A c xs) : RdF w (.slice A l.length c) l := by
  refine ⟨A, c, rfl, fun f hf => ?_, fun h0 => ?_⟩
  · obtain ⟨j, hj, rfl⟩ := List.getElem_of_mem hf
    exact (h.fld j l[j] (by simp [hj])).1
  · rcases h.row.2 with ⟨e, h1⟩ | ⟨b, cap, cur, e, hb, hbb, h1, h2, -⟩
    · omega
    · simp only [Value.slice.injEq] at e
      obtain ⟨rfl, -, rfl⟩ := e
      refine ⟨_, rfl, fun i f hf => ?_⟩
      obtain ⟨g0, A', c', g1, g2, g3, g4, g5⟩ := h.fld i f hf
      have k : ∀ o v, xs[o]? = some v → w.cell? ((⟨b, 0, none⟩ : Addr).add o) = some v := fun o v hv => World.ownsRow.cells h.row (g := b) rfl o v hv
      exact ⟨A', c', k _ _ g1, k _ _ g2, k _ _ g3, k _ _ g4, g5.1⟩
/-- The items l stand in a row of the call's own. -/
structure Ui (w : World) (g : Nat) (l : List (List UInt8)) (A : Option Addr) (c : Nat) (xs : List Value) : Prop where
  row : w.ownsRow g 24 1 (.slice A l.length c) l.length xs
  itm : ∀ (j : Nat) (x : List UInt8), l[j]? = some x → x.length ≤ 5000000 ∧ ∃ A' c', xs[j]? = some (Value.slice A' x.length c') ∧ Dt w (Value.slice A l.length c).ownBlock (.slice A' x.length c') x
theorem Ui.nil (w : World) (g : Nat) : Ui w g [] none 0 [] := ⟨World.ownsRow_nil _ _ _ _, fun j f h => by simp at h⟩
theorem Ui.below {w w' : World} {g : Nat} {l : List (List UInt8)} {A : Option Addr} {c : Nat} {xs : List Value} (h : Ui w g l A c xs) (hb : Below w.heap.size w w') : Ui w' g l A c xs := by
  refine ⟨h.row.kept (grown_below hb none) (by cases (Value.slice A l.length c).ownBlock <;> simp), fun j f hf => ?_⟩
  obtain ⟨g0, A', c', g4, g5⟩ := h.itm j f hf
  exact ⟨g0, A', c', g4, g5.keep (fun b hb' _ => hb.block b hb') (.inl rfl)⟩
theorem Ui.step {w w6 w8 : World} {g : Nat} {l : List (List UInt8)} {A A' : Option Addr} {c c' : Nat} {xs : List Value} (h : Ui w g l A c xs) (x : List UInt8) (Af : Option Addr) (cf : Nat) (hf : x.length ≤ 5000000)
    (hb : Below w.heap.size w w6) (hd : Dt w6 (Value.slice A l.length c).ownBlock (.slice Af x.length cf) x)
    (h8 : w8.ownsRow g 24 1 (.slice A' (l.length + 1) c') (l.length + 1) (xs ++ [.slice Af x.length cf])) (hs8 : w6.heap.size < w8.heap.size)
    (h68 : ∀ b, b < w6.heap.size → (Value.slice A l.length c).ownBlock ≠ some b → w8.heap[b]? = w6.heap[b]?) (hown : (Value.slice A' (l.length + 1) c').ownBlock = (Value.slice A l.length c).ownBlock ∨ (Value.slice A' (l.length + 1) c').ownBlock = some (w6.heap.size + 1)) :
    Ui w8 g (l ++ [x]) A' c' (xs ++ [.slice Af x.length cf]) := by
  have hlen : xs.length = l.length * 1 := h.row.1
  have hl1 : (l ++ [x]).length = l.length + 1 := by simp
  have hown' : (Value.slice A' (l ++ [x]).length c').ownBlock = (Value.slice A l.length c).ownBlock ∨ ∃ b, (Value.slice A' (l ++ [x]).length c').ownBlock = some b ∧ w6.heap.size ≤ b := by
    rw [hl1]
    rcases hown with h | h
    · exact .inl h
    · exact .inr ⟨_, h, by omega⟩
  refine ⟨by rw [hl1]; exact h8, fun j u hu => ?_⟩
  by_cases hji : j = l.length
  · subst hji
    obtain rfl : u = x := by simpa using hu.symm
    refine ⟨hf, Af, cf, ?_, hd.keep h68 hown'⟩
    rw [List.getElem?_append_right (by omega)]
    simp [hlen]
  · have hjl : j < l.length := by
      have := (List.getElem?_eq_some_iff.1 hu).1
      simp at this
      omega
    rw [List.getElem?_append_left hjl] at hu
    obtain ⟨g0, Aj, cj, g4, g5⟩ := h.itm j u hu
    exact ⟨g0, Aj, cj, by rw [List.getElem?_append_left (by omega)]; exact g4, (g5.keep (fun b hb' _ => hb.block b hb') (.inl rfl)).keep h68 hown'⟩
theorem Ui.rd {w : World} {g : Nat} {l : List (List UInt8)} {A : Option Addr} {c : Nat} {xs : List Value} (h : Ui w g l A c xs) : RdI w (.slice A l.length c) l := by
  refine ⟨A, c, rfl, fun f hf => ?_, fun h0 => ?_⟩
  · obtain ⟨j, hj, rfl⟩ := List.getElem_of_mem hf
    exact (h.itm j l[j] (by simp [hj])).1
  · rcases h.row.2 with ⟨e, h1⟩ | ⟨b, cap, cur, e, hb, hbb, h1, h2, -⟩
    · omega
    · simp only [Value.slice.injEq] at e
      obtain ⟨rfl, -, rfl⟩ := e
      refine ⟨_, rfl, fun i f hf => ?_⟩
      obtain ⟨g0, A', c', g4, g5⟩ := h.itm i f hf
      have k : ∀ o v, xs[o]? = some v → w.cell? ((⟨b, 0, none⟩ : Addr).add o) = some v := fun o v hv => World.ownsRow.cells h.row (g := b) rfl o v hv
      exact ⟨A', c', k _ _ g4, g5.1⟩
/-- Bytes in memory made behind a world lie apart from a row that stood. -/
theorem dt_own {w w' : World} {row : Option Nat} {v : Value} {d : List UInt8} (ho : Own w' w.heap.size 5 v d) (hr : ∀ k, row = some k → k < w.heap.size) : Dt w' row v d :=
  ⟨ho.rd, fun _ k hv e => by have := (ho.lt k hv).1; have := hr k e; omega⟩
/-- Bytes in old memory, too. -/
theorem dt_old {w w' : World} {W : World} {row : Option Nat} {v : Value} {d : List UInt8} (h : Rd W v d) (hb : Below W.heap.size W w') (hr : ∀ k, row = some k → W.heap.size ≤ k) : Dt w' row v d := by
  refine ⟨Vu.rd_keep hb.block h, fun h0 k hv e => ?_⟩
  obtain ⟨A, c, e1, h1, h2, h3⟩ := h
  obtain ⟨ad, ha, hc⟩ := h3 h0
  have hk' : k = ad.block := by rw [e1, ha] at hv; exact (Option.some.inj hv).symm
  have hlt : ad.block < W.heap.size := by
    have h5 : (cb d)[0]? = some (.int .u8 (d[0].toNat : Int)) := cb_get d 0 h0
    have := World.block_lt_of_cell? W _ (hc 0 _ h5)
    rwa [Rs.block_add] at this
  have := hr k e
  omega
end Go.Proofs.YtinngljphjdpoaaDoor.Eq
