/- Blocks of bytes known whole: make, copy, a byte stored, a slice of one read as a list; bytes as a string. No program in sight; no conditions. -/
import Derived.Test.YtinngljphjdpoaaGreatDoorJTeo
import Derived.Laws.CopyRow
import Derived.Laws.IdiomStrings
import Derived.Deep.OwnRows
namespace Go.Proofs.YtinngljphjdpoaaGreatDoor.Pc
open Go Go.RowKit Go.Proofs.YtinngljphjdpoaaGreatDoor.Pa Go.Proofs.YtinngljphjdpoaaGreatDoor.Pb
set_option linter.unusedVariables false

/-- Block g is just the bytes l. -/
def Arr (w : World) (g : Nat) (E : TypeId) (l : List UInt8) : Prop := hp w g = some (.cells (cb l).toArray E (0, 0))
section
variable {w w' : World} {g : Nat} {E : TypeId} {l : List UInt8}
theorem Arr.lt (h : Arr w g E l) : g < w.heap.size := by
  rcases Nat.lt_or_ge g w.heap.size with h1 | h1
  · exact h1
  · unfold Arr hp at h; rw [Array.getElem?_eq_none h1] at h; cases h
theorem Arr.cell (h : Arr w g E l) (i : Nat) : w.cell? ⟨g, i, none⟩ = (cb l)[i]? := by rw [hp_cell h]; simp
theorem Arr.cellAt (h : Arr w g E l) (i : Nat) (hi : i < l.length) : w.cell? ⟨g, i, none⟩ = some (.int .u8 (l[i].toNat : Int)) := (h.cell i).trans (cb_get l i hi)
theorem Arr.frozen (h : Arr w g E l) (i : Nat) : w.frozen? ⟨g, i, none⟩ = false := hp_frozen h i
theorem Arr.below (h : Arr w g E l) (hb : Below w.heap.size w w') : Arr w' g E l := (hb.hp g h.lt).trans h
theorem Arr.belowB {B : Nat} (h : Arr w g E l) (hb : Below B w w') (hg : g < B) : Arr w' g E l := (hb.hp g hg).trans h
theorem Arr.alloc (h : Arr w g E l) (o : Obj) : Arr (w.alloc o) g E l := (hp_alloc_past o g h.lt).trans h
theorem Arr.drew (h : Arr w g E l) : Arr w.drew g E l := h
theorem Arr.set (h : Arr w g E l) (i : Nat) (b : UInt8) {y : Int} (hy : y = (b.toNat : Int)) : Arr (w.setCell ⟨g, i, none⟩ (.int .u8 y)) g E (l.set i b) := by
  subst hy
  unfold Arr hp at *
  rw [heap_setCell_same w g i _ E _ h]
  congr 2
  apply Array.ext'
  simp [cb, List.map_set]
theorem Arr.far (h : Arr w g E l) (a : Addr) (hne : g ≠ a.block) (u : Value) : Arr (w.setCell a u) g E l := (hp_setCell_other a g u hne).trans h
theorem Arr.row (h : Arr w g E l) (m : List UInt8) : Arr (w.setRow g (cb m).toArray) g E m := hp_setRow_same g _ _ E _ h
theorem Arr.farRow (h : Arr w g E l) (n : Nat) (c : Array Value) (hne : g ≠ n) : Arr (w.setRow n c) g E l := (hp_setRow_other n g c hne).trans h
theorem Arr.new (w : World) (E : TypeId) (l : List UInt8) : Arr (w.alloc (.cells (cb l).toArray E)) w.heap.size E l := hp_alloc_at _ _ rfl
/-- A slice of it. -/
theorem Arr.rd (h : Arr w g E l) (o n c : Nat) (hn : o + n ≤ l.length) (hc : n ≤ c) (hm : c ≤ maxLen) : Rd w (.slice (some ⟨g, o, none⟩) n c) ((l.drop o).take n) := by
  have hl : ((l.drop o).take n).length = n := by simp; omega
  refine ⟨_, c, by rw [hl], by omega, hm, fun _ => ⟨_, rfl, fun j u hu => ?_⟩⟩
  have hadd : (⟨g, o, none⟩ : Addr).add j = ⟨g, o + j, none⟩ := by unfold Addr.add; split <;> simp_all
  rw [hadd, h.cell]
  have hj : j < n := by
    have := (List.getElem?_eq_some_iff.1 hu).1
    simp at this
    omega
  rw [← hu]
  simp [cb, hj]
theorem Arr.own (h : Arr w g E l) (base n : Nat) (hb : base ≤ g) (hn : n ≤ l.length) (hm : l.length ≤ maxLen) : Own w base E (.slice (some ⟨g, 0, none⟩) n l.length) (l.take n) := by
  have hl : (l.take n).length = n := by simp; omega
  refine ⟨by simp, .inr ⟨g, l.length, _, by rw [hl], hb, h, by omega, hm, by simp, ?_⟩⟩
  simp [cb, hl]
end

/-! ### Operations -/
section
variable {P : Program} {T E : TypeId}
/-- make([]byte, n). -/
theorem run_mk (hU : U8 P T E) (n : Nat) (hn : n ≤ 281474976710656) (W : World) :
    (Instr.makeSlice T (.int .i64 (n : Int)) (.int .i64 (n : Int))).run P W = .ok (.slice (some ⟨W.heap.size, 0, none⟩) n n) (W.alloc (.cells (cb (List.replicate n 0)).toArray E)) := by
  rw [run_make_row' T E (.int .u8 0) 1 hU.sl hU.info rfl .i64 .i64 n (by omega) (by omega) W]
  congr 3
  apply Array.ext'
  simp [madeCells, cb]
  apply List.ext_getElem
  · simp
  · intro i h1 h2
    simp [Nat.mod_one]
/-- string(b). -/
theorem run_str (hU : U8 P T E) (he : P.underlying E = some (.int .u8)) {D : TypeId} (hD : P.underlying D = some .string) {w : World} {v : Value} {l : List UInt8} (h : Rd w v l) : (convert T D v).run P w = .ok (.string ⟨l.toArray⟩) w := by
  obtain ⟨A, c, rfl, _, _, hc⟩ := h
  rcases Nat.eq_zero_or_pos l.length with h0 | h0
  · have : l = [] := List.eq_nil_of_length_eq_zero h0
    subst this
    cases A with
    | none => exact run_convert_bytes_nil w T E hU.sl he _ _ D hD
    | some ad => exact run_convert_bytes_back w T D E ad c [] hU.sl he hD (fun j hj => by simp at hj)
  · obtain ⟨ad, rfl, hcell⟩ := hc h0
    exact run_convert_bytes_back w T D E ad c l hU.sl he hD (fun j hj => hcell j _ (cb_get l j hj))
/-- The bytes m laid over those from o on. -/
def over (l : List UInt8) (o : Nat) (m : List UInt8) : List UInt8 := l.take o ++ m ++ l.drop (o + m.length)
theorem over_length (l : List UInt8) (o : Nat) (m : List UInt8) (h : o + m.length ≤ l.length) : (over l o m).length = l.length := by simp [over]; omega
theorem run_cp (hU : U8 P T E) (ty : TypeId) {w : World} {g o dl dc : Nat} {l m : List UInt8} {x : Value} (h : Arr w g E l) (hx : Rd w x m) (hfit : o + (min m.length dl) ≤ l.length) :
    (Builtin.copy_ #[T, T] ty #[.slice (some ⟨g, o, none⟩) dl dc, x]).run P w = .ok (goInt (min m.length dl : Nat)) (w.setRow g (cb (over l o (m.take dl))).toArray) := by
  obtain ⟨A, c, rfl, _, _, hc⟩ := hx
  have hi1 : (P.info? E).map (·.size) = some 1 := by
    obtain ⟨i, hi, hzz⟩ := Option.map_eq_some_iff.1 hU.info
    simp only [Prod.mk.injEq] at hzz
    simp [hi, hzz.2.1]
  have hself : over l o ([] : List UInt8) = l := by simp [over]
  rcases Nat.eq_zero_or_pos m.length with h0 | h0
  · have : m = [] := List.eq_nil_of_length_eq_zero h0
    subst this
    have hrow : w.setRow g (cb l).toArray = w := setRow_self w g (cb l).toArray E (0, 0) h
    simp only [List.take_nil, hself, hrow]
    obtain ⟨i, hi, hzz⟩ := Option.map_eq_some_iff.1 hU.info
    cases A with
    | none => simp [Builtin.copy_, run_underlying hU.sl, Builtin.lenOf, Builtin.firstCells, sizeOf, typeInfo, hi, storeCells]
    | some ad =>
      have hl : (loadCells ad 0).run P w = .ok #[] w := by simpa using run_loadCells_list (P := P) w ad [] (by simp)
      simp [Builtin.copy_, run_underlying hU.sl, Builtin.lenOf, Builtin.firstCells, sizeOf, typeInfo, hi, storeCells, hl]
  · obtain ⟨ad, rfl, hcell⟩ := hc h0
    have hlen : (cb (m.take dl)).length = Nat.min m.length dl := by simp [Nat.min_comm, Nat.min_def]
    have := run_copy_row (P := P) w T T ty E g o dl dc ad m.length c (cb l).toArray E (cb (m.take dl)) hU.sl hi1 h hlen (fun j u hu => hcell j u (by
      have hj := (List.getElem?_eq_some_iff.1 hu).1
      simp at hj
      rw [← hu]
      simp only [cb, List.map_take]
      rw [List.getElem?_take, if_pos (by omega)])) (by rw [hlen]; simpa [cb] using hfit) (cb_one _)
    rw [this, hlen]
    have hov : cb (over l o (m.take dl)) = (cb l).toArray.toList.take o ++ cb (m.take dl) ++ (cb l).toArray.toList.drop (o + (cb (m.take dl)).length) := by
      simp only [over, cb, List.map_append, List.map_take, List.map_drop, List.length_map, List.length_take]
    have hmin : (cb (m.take dl)).length = min m.length dl := by simp [Nat.min_comm]
    rw [hov, hmin]
end
end Go.Proofs.YtinngljphjdpoaaGreatDoor.Pc
/- A world that changed in named blocks alone; slices of the call's own under a store; a family of such slices, each in a block of its own. No program in sight. -/
namespace Go.Proofs.YtinngljphjdpoaaGreatDoor.Pf
open Go Go.RowKit Go.Proofs.YtinngljphjdpoaaGreatDoor.Pa Go.Proofs.YtinngljphjdpoaaGreatDoor.Pb Go.Proofs.YtinngljphjdpoaaGreatDoor.Pc
set_option linter.unusedVariables false
set_option linter.unusedSimpArgs false

/-- w' is w but for blocks of S, and new ones. -/
structure Chg (S : Nat → Prop) (w w' : World) : Prop where
  os : w'.os = w.os
  tape : w'.tape = w.tape
  output : w'.output = w.output
  size : w.heap.size ≤ w'.heap.size
  block : ∀ k, k < w.heap.size → ¬ S k → w'.heap[k]? = w.heap[k]?
section
variable {S S' : Nat → Prop} {w w' w'' w0 : World} {v : Value} {l : List UInt8} {base B : Nat} {E : TypeId}
theorem Chg.refl (S : Nat → Prop) (w : World) : Chg S w w := ⟨rfl, rfl, rfl, Nat.le_refl _, fun _ _ _ => rfl⟩
theorem Chg.trans (h : Chg S w w') (k : Chg S w' w'') : Chg S w w'' :=
  ⟨k.os.trans h.os, k.tape.trans h.tape, k.output.trans h.output, Nat.le_trans h.size k.size, fun i hi hs => (k.block i (Nat.lt_of_lt_of_le hi h.size) hs).trans (h.block i hi hs)⟩
theorem Chg.mono (h : Chg S w w') (hS : ∀ k, k < w.heap.size → S k → S' k) : Chg S' w w' := ⟨h.os, h.tape, h.output, h.size, fun i hi hs => h.block i hi (fun h1 => hs (hS i hi h1))⟩
theorem Chg.grown {row : Option Nat} (h : w.grownBy w' row) : Chg (fun k => row = some k) w w' := ⟨h.os, h.tape, h.output, h.size, fun i hi hs => h.block i hi (fun e => hs e.symm)⟩
theorem Chg.of_below (h : Below w.heap.size w w') : Chg S w w' := ⟨h.os, h.tape, h.output, h.size, fun i hi _ => h.block i hi⟩
theorem Chg.alloc (h : Chg S w w') (o : Obj) : Chg S w (w'.alloc o) := h.trans (.of_below ((Below.refl _ _).alloc (Nat.le_refl _) _))
theorem Chg.drew (h : Chg S w w') : Chg S w w'.drew := ⟨h.os, h.tape, h.output, h.size, h.block⟩
theorem Chg.store (w : World) (a : Addr) (u : Value) : Chg (fun k => k = a.block) w (w.setCell a u) := ⟨rfl, rfl, rfl, by simp [World.setCell], fun k hk hs => Below.heap_setCell _ _ _ _ hs⟩
theorem Chg.row (w : World) (g : Nat) (c : Array Value) : Chg (fun k => k = g) w (w.setRow g c) := ⟨rfl, rfl, rfl, by simp [World.setRow], fun k hk hs => hp_setRow_other g k c hs⟩
theorem Chg.below (h : Chg S w w') (hb : Below B w0 w) (hS : ∀ k, S k → B ≤ k) (hB : B ≤ w.heap.size) : Below B w0 w' :=
  hb.trans ⟨h.os, h.tape, h.output, h.size, fun k hk => h.block k (by omega) (fun hs => by have := hS k hs; omega)⟩
theorem _root_.Go.Proofs.YtinngljphjdpoaaGreatDoor.Pb.Own.chg (h : Own w base E v l) (hc : Chg S w w') (hn : ∀ k, v.ownBlock = some k → ¬ S k) : Own w' base E v l := by
  obtain ⟨h1, h2⟩ := h
  refine ⟨h1, h2.imp id ?_⟩
  rintro ⟨g, cap, cur, rfl, hg, hh, r⟩
  have hlt : g < w.heap.size := by
    rcases Nat.lt_or_ge g w.heap.size with h3 | h3
    · exact h3
    · rw [Array.getElem?_eq_none h3] at hh; cases hh
  exact ⟨g, cap, cur, rfl, hg, (hc.block g hlt (hn g rfl)).trans hh, r⟩
theorem _root_.Go.Proofs.YtinngljphjdpoaaGreatDoor.Pb.Rd.chg (h : Rd w v l) (hc : Chg S w w') (hn : ∀ k, v.ownBlock = some k → ¬ S k) : Rd w' v l := by
  obtain ⟨A, c, rfl, h1, h2, h3⟩ := h
  refine ⟨A, c, rfl, h1, h2, fun h0 => ?_⟩
  obtain ⟨ad, rfl, hcell⟩ := h3 h0
  refine ⟨ad, rfl, fun j u hu => ?_⟩
  have hb : (ad.add j).block = ad.block := by unfold Addr.add; split <;> rfl
  have hlt : (ad.add j).block < w.heap.size := World.block_lt_of_cell? w _ (hcell j u hu)
  refine Eq.trans (World.cell?_of_block (hc.block _ hlt (fun hs => hn ad.block rfl (hb ▸ hs)))) (hcell j u hu)
theorem _root_.Go.Proofs.YtinngljphjdpoaaGreatDoor.Pc.Arr.chg {g : Nat} (h : Arr w g E l) (hc : Chg S w w') (hn : ¬ S g) : Arr w' g E l := (hc.block g h.lt hn).trans h
theorem hp_chg {g : Nat} {o : Obj} (h : hp w g = some o) (hc : Chg S w w') (hn : ¬ S g) : hp w' g = some o := by
  have hlt : g < w.heap.size := by
    rcases Nat.lt_or_ge g w.heap.size with h3 | h3
    · exact h3
    · unfold hp at h; rw [Array.getElem?_eq_none h3] at h; cases h
  exact (hc.block g hlt hn).trans h
/-- A store into one's own. -/
theorem _root_.Go.Proofs.YtinngljphjdpoaaGreatDoor.Pb.Own.set {g n c : Nat} (h : Own w base E (.slice (some ⟨g, 0, none⟩) n c) l) (j : Nat) (b : UInt8) {y : Int} (hy : y = (b.toNat : Int)) : Own (w.setCell ⟨g, j, none⟩ (.int .u8 y)) base E (.slice (some ⟨g, 0, none⟩) n c) (l.set j b) := by
  subst hy
  obtain ⟨A, c', e, _⟩ := h.rd
  have hl : n = l.length := by simp only [Value.slice.injEq] at e; exact e.2.1
  subst hl
  have := (World.ownsRow.stored h j (.int .u8 (b.toNat : Int))).1
  unfold Own
  rw [List.length_set]
  simpa [cb, List.map_set] using this
theorem _root_.Go.Proofs.YtinngljphjdpoaaGreatDoor.Pb.Own.cellAt {g n c : Nat} (h : Own w base E (.slice (some ⟨g, 0, none⟩) n c) l) (j : Nat) (hj : j < l.length) : w.cell? ⟨g, j, none⟩ = some (.int .u8 (l[j].toNat : Int)) := by
  obtain ⟨A, c', e, _⟩ := h.rd
  have hl : n = l.length := by simp only [Value.slice.injEq] at e; exact e.2.1
  subst hl
  exact (World.ownsRow.cellAt h j (by simpa using hj)).trans (cb_get l j hj)
theorem _root_.Go.Proofs.YtinngljphjdpoaaGreatDoor.Pb.Own.frozen {g n c : Nat} (h : Own w base E (.slice (some ⟨g, 0, none⟩) n c) l) (j : Nat) : w.frozen? ⟨g, j, none⟩ = false := by
  obtain ⟨A, c', e, _⟩ := h.rd
  have hl : n = l.length := by simp only [Value.slice.injEq] at e; exact e.2.1
  subst hl
  exact World.ownsRow.frozenAt h j
/-- The two shapes. -/
theorem _root_.Go.Proofs.YtinngljphjdpoaaGreatDoor.Pb.Own.shape (h : Own w base E v l) : (v = .slice none 0 0 ∧ l = []) ∨ ∃ g c, v = .slice (some ⟨g, 0, none⟩) l.length c ∧ base ≤ g ∧ g < w.heap.size := by
  rcases h.2 with ⟨e, h0⟩ | ⟨g, cap, cur, e, hb, hh, _⟩
  · exact .inl ⟨e, List.eq_nil_of_length_eq_zero h0⟩
  · exact .inr ⟨g, cap, e, hb, (h.lt g (by rw [e]; rfl)).2⟩
/-- The head of one's own, of the same room, is one's own. -/
theorem _root_.Go.Proofs.YtinngljphjdpoaaGreatDoor.Pb.Own.head {g n n' c : Nat} {m : List UInt8} (h : Own w base E (.slice (some ⟨g, 0, none⟩) n c) (l ++ m)) (hn : n' = l.length) : Own w base E (.slice (some ⟨g, 0, none⟩) n' c) l := by
  subst hn
  rcases h.2 with ⟨e, _⟩ | ⟨g', cap, cur, e, hg, hh, hnc, hm, hs, ht⟩
  · cases e
  · simp only [Value.slice.injEq, Option.some.injEq, Addr.mk.injEq, and_true] at e
    obtain ⟨rfl, rfl, rfl⟩ := e
    rw [List.length_append] at hnc ht
    refine ⟨by simp, .inr ⟨g, c, cur, rfl, hg, hh, by omega, hm, hs, ?_⟩⟩
    have := congrArg (List.take l.length) ht
    rw [List.take_take] at this
    simp only [cb_append, Nat.mul_one] at this ⊢
    rw [Nat.min_eq_left (by omega)] at this
    rw [this, List.take_append_of_le_length (by simp)]
    exact List.take_of_length_le (by simp)
theorem take_set_succ {α : Type} (l : List α) (k : Nat) (x : α) (h : k < l.length) : (l.set k x).take (k + 1) = l.take k ++ [x] := by
  rw [List.take_set, List.take_succ_eq_append_getElem h, List.set_append_right _ _ (by simp; omega)]
  simp [Nat.min_eq_left (Nat.le_of_lt h)]
end
/-- copy(d, x): d a stretch of a block known whole. -/
theorem run_cp' {P : Program} {T E : TypeId} (hU : U8 P T E) (ty : TypeId) {w : World} {g o dl dc : Nat} {l m : List UInt8} {x : Value} (h : Arr w g E l) (hx : Rd w x m) (hfit : o + (min m.length dl) ≤ l.length) :
    ∃ w', (Builtin.copy_ #[T, T] ty #[.slice (some ⟨g, o, none⟩) dl dc, x]).run P w = .ok (goInt (min m.length dl : Nat)) w' ∧ Arr w' g E (over l o (m.take dl)) ∧ Chg (fun k => k = g) w w' :=
  ⟨_, run_cp hU ty h hx hfit, h.row _, Chg.row w g _⟩
end Go.Proofs.YtinngljphjdpoaaGreatDoor.Pf
/- append, kept whole. -/
namespace Go.Proofs.YtinngljphjdpoaaGreatDoor.Ce
open Go Go.RowKit
/-- append, kept whole. -/
def appX (a : Array TypeId) (ty : TypeId) (args : Array Value) : Sem Value := Builtin.append_ a ty args
theorem app_x (a : Array TypeId) (ty : TypeId) (args : Array Value) : Builtin.append_ a ty args = appX a ty args := by rw [appX]
@[go_sem ↓] theorem app_y (a : Array TypeId) (ty : TypeId) (args : Array Value) : Builtin.append_ a ty args = appX a ty args := app_x a ty args
end Go.Proofs.YtinngljphjdpoaaGreatDoor.Ce
