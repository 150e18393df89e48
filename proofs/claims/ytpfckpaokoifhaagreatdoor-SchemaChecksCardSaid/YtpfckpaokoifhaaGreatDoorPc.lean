/- Blocks of bytes known whole: make, copy, a byte stored, a slice of one read as a list; bytes as a string. No program in sight; no conditions. -/
import Derived.Test.YtpfckpaokoifhaaGreatDoorPb
import Derived.Laws.CopyRow
import Derived.Laws.IdiomStrings
import Derived.Deep.OwnRows
namespace Go.Proofs.YtpfckpaokoifhaaGreatDoor.Pc
open Go Go.RowKit Go.Proofs.YtpfckpaokoifhaaGreatDoor.Pa Go.Proofs.YtpfckpaokoifhaaGreatDoor.Pb
set_option linter.unusedVariables false

/-- Block g is just the bytes l. -/
def Arr (w : World) (g : Nat) (E : TypeId) (l : List UInt8) : Prop := hp w g = some (.cells (cb l).toArray E (0, 0))
section
variable {w w' : World} {g : Nat} {E : TypeId} {l : List UInt8}
theorem Arr.lt (h : Arr w g E l) : g < w.heap.size := by
  rcases Nat.lt_or_ge g w.heap.size with h1 | h1
  · exact h1
  · unfold Arr hp at h; rw [Array.getElem?_eq_none h1] at h; cases h
theorem Arr.cell (h : Arr w g E l) (i : Nat) : w.cell? ⟨g, i, none⟩ = (cb l)[i]? := by rw [hp_cell h]; simp
theorem Arr.cellAt (h : Arr w g E l) (i : Nat) (hi : i < l.length) : w.cell? ⟨g, i, none⟩ = some (.int .u8 (l[i].toNat : Int)) := (h.cell i).trans (cb_get l i hi)
theorem Arr.frozen (h : Arr w g E l) (i : Nat) : w.frozen? ⟨g, i, none⟩ = false := hp_frozen h i
theorem Arr.below (h : Arr w g E l) (hb : Below w.heap.size w w') : Arr w' g E l := (hb.hp g h.lt).trans h
theorem Arr.belowB {B : Nat} (h : Arr w g E l) (hb : Below B w w') (hg : g < B) : Arr w' g E l := (hb.hp g hg).trans h
theorem Arr.alloc (h : Arr w g E l) (o : Obj) : Arr (w.alloc o) g E l := (hp_alloc_past o g h.lt).trans h
theorem Arr.drew (h : Arr w g E l) : Arr w.drew g E l := h
theorem Arr.set (h : Arr w g E l) (i : Nat) (b : UInt8) {y : Int} (hy : y = (b.toNat : Int)) : Arr (w.setCell ⟨g, i, none⟩ (.int .u8 y)) g E (l.set i b) := by
  subst hy
  unfold Arr hp at *
  rw [heap_setCell_same w g i _ E _ h]
  congr 2
  apply Array.ext'
  simp [cb, List.map_set]
theorem Arr.far (h : Arr w g E l) (a : Addr) (hne : g ≠ a.block) (u : Value) : Arr (w.setCell a u) g E l := (hp_setCell_other a g u hne).trans h
theorem Arr.row (h : Arr w g E l) (m : List UInt8) : Arr (w.setRow g (cb m).toArray) g E m := hp_setRow_same g _ _ E _ h
theorem Arr.farRow (h : Arr w g E l) (n : Nat) (c : Array Value) (hne : g ≠ n) : Arr (w.setRow n c) g E l := (hp_setRow_other n g c hne).trans h
theorem Arr.new (w : World) (E : TypeId) (l : List UInt8) : Arr (w.alloc (.cells (cb l).toArray E)) w.heap.size E l := hp_alloc_at _ _ rfl
/-- A slice of it. -/
theorem Arr.rd (h : Arr w g E l) (o n c : Nat) (hn : o + n ≤ l.length) (hc : n ≤ c) (hm : c ≤ maxLen) : Rd w (.slice (some ⟨g, o, none⟩) n c) ((l.drop o).take n) := by
  have hl : ((l.drop o).take n).length = n := by simp; omega
  refine ⟨_, c, by rw [hl], by omega, hm, fun _ => ⟨_, rfl, fun j u hu => ?_⟩⟩
  have hadd : (⟨g, o, none⟩ : Addr).add j = ⟨g, o + j, none⟩ := by unfold Addr.add; split <;> simp_all
  rw [hadd, h.cell]
  have hj : j < n := by
    have := (List.getElem?_eq_some_iff.1 hu).1
    simp at this
    omega
  rw [← hu]
  simp [cb, hj]
theorem Arr.own (h : Arr w g E l) (base n : Nat) (hb : base ≤ g) (hn : n ≤ l.length) (hm : l.length ≤ maxLen) : Own w base E (.slice (some ⟨g, 0, none⟩) n l.length) (l.take n) := by
  have hl : (l.take n).length = n := by simp; omega
  refine ⟨by simp, .inr ⟨g, l.length, _, by rw [hl], hb, h, by omega, hm, by simp, ?_⟩⟩
  simp [cb, hl]
end

/-! ### Operations -/
section
variable {P : Program} {T E : TypeId}
/-- make([]byte, n). -/
theorem run_mk (hU : U8 P T E) (n : Nat) (hn : n ≤ 281474976710656) (W : World) :
    (Instr.makeSlice T (.int .i64 (n : Int)) (.int .i64 (n : Int))).run P W = .ok (.slice (some ⟨W.heap.size, 0, none⟩) n n) (W.alloc (.cells (cb (List.replicate n 0)).toArray E)) := by
  rw [run_make_row' T E (.int .u8 0) 1 hU.sl hU.info rfl .i64 .i64 n (by omega) (by omega) W]
  congr 3
  apply Array.ext'
  simp [madeCells, cb]
  apply List.ext_getElem
  · simp
  · intro i h1 h2
    simp [Nat.mod_one]
/-- string(b). -/
theorem run_str (hU : U8 P T E) (he : P.underlying E = some (.int .u8)) {D : TypeId} (hD : P.underlying D = some .string) {w : World} {v : Value} {l : List UInt8} (h : Rd w v l) : (convert T D v).run P w = .ok (.string ⟨l.toArray⟩) w := by
  obtain ⟨A, c, rfl, _, _, hc⟩ := h
  rcases Nat.eq_zero_or_pos l.length with h0 | h0
  · have : l = [] := List.eq_nil_of_length_eq_zero h0
    subst this
    cases A with
    | none => exact run_convert_bytes_nil w T E hU.sl he _ _ D hD
    | some ad => exact run_convert_bytes_back w T D E ad c [] hU.sl he hD (fun j hj => by simp at hj)
  · obtain ⟨ad, rfl, hcell⟩ := hc h0
    exact run_convert_bytes_back w T D E ad c l hU.sl he hD (fun j hj => hcell j _ (cb_get l j hj))
/-- The bytes m laid over those from o on. -/
def over (l : List UInt8) (o : Nat) (m : List UInt8) : List UInt8 := l.take o ++ m ++ l.drop (o + m.length)
theorem over_length (l : List UInt8) (o : Nat) (m : List UInt8) (h : o + m.length ≤ l.length) : (over l o m).length = l.length := by simp [over]; omega
theorem run_cp (hU : U8 P T E) (ty : TypeId) {w : World} {g o dl dc : Nat} {l m : List UInt8} {x : Value} (h : Arr w g E l) (hx : Rd w x m) (hfit : o + (min m.length dl) ≤ l.length) :
    (Builtin.copy_ #[T, T] ty #[.slice (some ⟨g, o, none⟩) dl dc, x]).run P w = .ok (goInt (min m.length dl : Nat)) (w.setRow g (cb (over l o (m.take dl))).toArray) := by
  obtain ⟨A, c, rfl, _, _, hc⟩ := hx
  have hi1 : (P.info? E).map (·.size) = some 1 := by
    obtain ⟨i, hi, hzz⟩ := Option.map_eq_some_iff.1 hU.info
    simp only [Prod.mk.injEq] at hzz
    simp [hi, hzz.2.1]
  have hself : over l o ([] : List UInt8) = l := by simp [over]
  rcases Nat.eq_zero_or_pos m.length with h0 | h0
  · have : m = [] := List.eq_nil_of_length_eq_zero h0
    subst this
    have hrow : w.setRow g (cb l).toArray = w := setRow_self w g (cb l).toArray E (0, 0) h
    simp only [List.take_nil, hself, hrow]
    obtain ⟨i, hi, hzz⟩ := Option.map_eq_some_iff.1 hU.info
    cases A with
    | none => simp [Builtin.copy_, run_underlying hU.sl, Builtin.lenOf, Builtin.firstCells, sizeOf, typeInfo, hi, storeCells]
    | some ad =>
      have hl : (loadCells ad 0).run P w = .ok #[] w := by simpa using run_loadCells_list (P := P) w ad [] (by simp)
      simp [Builtin.copy_, run_underlying hU.sl, Builtin.lenOf, Builtin.firstCells, sizeOf, typeInfo, hi, storeCells, hl]
  · obtain ⟨ad, rfl, hcell⟩ := hc h0
    have hlen : (cb (m.take dl)).length = Nat.min m.length dl := by simp [Nat.min_comm, Nat.min_def]
    have := run_copy_row (P := P) w T T ty E g o dl dc ad m.length c (cb l).toArray E (cb (m.take dl)) hU.sl hi1 h hlen (fun j u hu => hcell j u (by
      have hj := (List.getElem?_eq_some_iff.1 hu).1
      simp at hj
      rw [← hu]
      simp only [cb, List.map_take]
      rw [List.getElem?_take, if_pos (by omega)])) (by rw [hlen]; simpa [cb] using hfit) (cb_one _)
    rw [this, hlen]
    have hov : cb (over l o (m.take dl)) = (cb l).toArray.toList.take o ++ cb (m.take dl) ++ (cb l).toArray.toList.drop (o + (cb (m.take dl)).length) := by
      simp only [over, cb, List.map_append, List.map_take, List.map_drop, List.length_map, List.length_take]
    have hmin : (cb (m.take dl)).length = min m.length dl := by simp [Nat.min_comm]
    rw [hov, hmin]
end
end Go.Proofs.YtpfckpaokoifhaaGreatDoor.Pc
