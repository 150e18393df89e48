/- Lemmas on memory for the walks of this seat: whole arrays and structs read from and written into a block, whatever their cells. No program in sight; no conditions. -/
import Derived.WalkKit
import Derived.Deep.WholeRow
import Derived.Deep.Draws
import Derived.Deep.QuietTactic
import Derived.BigQuiet
import Derived.ChangeKeysEq
namespace Go.Proofs.YtinngljphjdpoaaDoor.Pa
open Go Go.RowKit

/-- A number within the bounds of an int isn't wrapped. -/
theorem w64 {n : Int} (h0 : -9223372036854775808 ≤ n) (h1 : n ≤ 9223372036854775807) : wrap64 n = n := by unfold wrap64; omega

theorem wu64 {n : Int} (h0 : 0 ≤ n) (h1 : n < 18446744073709551616) : IntKind.u64.wrap n = n := by
  simp only [IntKind.wrap, IntKind.signed, IntKind.bits]
  simp
  omega
theorem wu8 {n : Int} (h0 : 0 ≤ n) (h1 : n < 256) : IntKind.u8.wrap n = n := by
  simp only [IntKind.wrap, IntKind.signed, IntKind.bits]
  simp
  omega
theorem wu32 {n : Int} (h0 : 0 ≤ n) (h1 : n < 4294967296) : IntKind.u32.wrap n = n := by
  simp only [IntKind.wrap, IntKind.signed, IntKind.bits]
  simp
  omega

theorem ret_int {k : IntKind} {a b : Int} (h : a = b) : Ending.returned (.int k a) = .returned (.int k b) := by rw [h]
theorem ret_pair {j k : IntKind} {a b c d : Int} (h : a = b) (h' : c = d) : Ending.returned (.tuple #[.int k a, .int j c]) = .returned (.tuple #[.int k b, .int j d]) := by rw [h, h']
theorem ret_bool {a b : Bool} (h : a = b) : Ending.returned (.bool a) = .returned (.bool b) := by rw [h]

/-! ### 1. Cells -/
/-- The cells c with those from o on replaced by v. -/
def putR (c : Array Value) (o : Nat) (v : Array Value) : Array Value := (c.toList.take o ++ v.toList ++ c.toList.drop (o + v.size)).toArray
theorem putR_size (c : Array Value) (o : Nat) (v : Array Value) (h : o + v.size ≤ c.size) : (putR c o v).size = c.size := by
  simp [putR]; omega
/-- Is each of them one cell? -/
def ones (c : Array Value) : Bool := c.all (·.oneCell')

/-- The bytes' cells; the numbers'. -/
def bv {n : Nat} (k : Vector UInt8 n) : Array Value := k.toArray.map fun b => Value.int .u8 (b.toNat : Int)
def wv {n : Nat} (t : IntKind) (k : Vector Int n) : Array Value := k.toArray.map fun b => Value.int t b
@[simp, go_sem] theorem bv_size {n : Nat} (k : Vector UInt8 n) : (bv k).size = n := by simp [bv]
@[simp, go_sem] theorem wv_size {n : Nat} (t : IntKind) (k : Vector Int n) : (wv t k).size = n := by simp [wv]
@[simp, go_sem] theorem bv_ones {n : Nat} (k : Vector UInt8 n) : ones (bv k) = true := by
  simp only [ones, Array.all_eq_true_iff_forall_mem, bv, Array.mem_map]
  rintro x ⟨b, _, rfl⟩
  rfl
@[simp, go_sem] theorem wv_ones {n : Nat} (t : IntKind) (k : Vector Int n) : ones (wv t k) = true := by
  simp only [ones, Array.all_eq_true_iff_forall_mem, wv, Array.mem_map]
  rintro x ⟨b, _, rfl⟩
  rfl
@[simp, go_sem] theorem ones_append (a b : Array Value) : ones (a ++ b) = (ones a && ones b) := by simp [ones]
def o1 (v : Value) : Array Value := #[v]
@[simp, go_sem] theorem o1_size (v : Value) : (o1 v).size = 1 := by simp [o1]
@[simp, go_sem] theorem o1_ones (v : Value) : ones (o1 v) = v.oneCell' := by simp [ones, o1]
def cx : Value → Array Value
  | .agg cs => cs
  | v => o1 v
theorem cx_eq (v : Value) : v.cells = cx v := by cases v <;> rfl
@[go_sem] theorem cx_agg (c : Array Value) : cx (.agg c) = c := rfl
@[go_sem] theorem cx_int (k : IntKind) (n : Int) : cx (.int k n) = o1 (.int k n) := rfl
@[go_sem] theorem cx_bool (b : Bool) : cx (.bool b) = o1 (.bool b) := rfl
@[go_sem] theorem cx_string (b : ByteArray) : cx (.string b) = o1 (.string b) := rfl
@[go_sem] theorem cx_pointer (b : Option Addr) : cx (.pointer b) = o1 (.pointer b) := rfl
@[go_sem] theorem cx_slice (b : Option Addr) (n c : Nat) : cx (.slice b n c) = o1 (.slice b n c) := rfl
@[go_sem] theorem cx_map (b : Option Nat) : cx (.map b) = o1 (.map b) := rfl
@[go_sem] theorem cx_func (f : Fn) (a b : Array Value) : cx (.func f a b) = o1 (.func f a b) := rfl
@[go_sem] theorem cx_nilFunc : cx .nilFunc = o1 .nilFunc := rfl
@[go_sem] theorem cx_nilIface : cx .nilIface = o1 .nilIface := rfl
@[go_sem] theorem cx_iface (t : TypeId) (v : Value) : cx (.iface t v) = o1 (.iface t v) := rfl

theorem bv_inj {n : Nat} {a b : Vector UInt8 n} (h : bv a = bv b) : a = b := by
  have h2 := Array.map_inj_right (f := fun b : UInt8 => Value.int .u8 (b.toNat : Int)) (fun x y e => by
    simp only [Value.int.injEq, true_and] at e
    exact UInt8.toNat_inj.1 (by omega)) |>.1 h
  exact Vector.toArray_inj.1 h2

/-! Parts of joined cells. -/
theorem ex_head (a b : Array Value) (n : Nat) (h : a.size = n) : (a ++ b).extract 0 n = a := by
  subst h; simp [Array.extract_append]
theorem ex_tail (a b : Array Value) (i j : Nat) (h : a.size ≤ i) : (a ++ b).extract i j = b.extract (i - a.size) (j - a.size) := by
  rw [Array.extract_append, Array.extract_empty_of_size_le_start h, Array.empty_append]
theorem ex_all (a : Array Value) (n : Nat) (h : a.size ≤ n) : a.extract 0 n = a := Array.extract_eq_self_of_le h
theorem at_one (v : Value) : (o1 v)[0]? = some v := by simp [o1]
theorem set_one (v u : Value) : (o1 v).setIfInBounds 0 u = o1 u := by simp [o1]
theorem at_head (v : Value) (b : Array Value) : (o1 v ++ b)[0]? = some v := by rw [Array.getElem?_append_left (by simp [o1])]; rfl
theorem at_tail (a b : Array Value) (i : Nat) (h : a.size ≤ i) : (a ++ b)[i]? = b[i - a.size]? := Array.getElem?_append_right h
theorem set_head (v u : Value) (b : Array Value) : (o1 v ++ b).setIfInBounds 0 u = o1 u ++ b := by
  rw [Array.setIfInBounds_append, if_pos (by simp)]; rfl
theorem set_tail (a b : Array Value) (i : Nat) (u : Value) (h : a.size ≤ i) : (a ++ b).setIfInBounds i u = a ++ b.setIfInBounds (i - a.size) u := by
  rw [Array.setIfInBounds_append, if_neg (by omega)]
theorem put_head (a b v : Array Value) (h : a.size = v.size) : putR (a ++ b) 0 v = v ++ b := by
  apply Array.ext'
  simp [putR, ← h]
theorem put_all (a v : Array Value) (h : a.size = v.size) : putR a 0 v = v := by
  apply Array.ext'
  simp [putR, ← h]
theorem put_tail (a b : Array Value) (o : Nat) (v : Array Value) (h : a.size ≤ o) : putR (a ++ b) o v = a ++ putR b (o - a.size) v := by
  obtain ⟨d, rfl⟩ := Nat.exists_eq_add_of_le h
  apply Array.ext'
  have e : a.size + d + v.size = a.toList.length + (d + v.size) := by simp; omega
  have e2 : a.toList.drop (a.toList.length + (d + v.size)) = [] := List.drop_eq_nil_of_le (by omega)
  have e3 : a.toList.take (a.size + d) = a.toList := List.take_of_length_le (by simp)
  simp only [putR, Array.toList_append, e, List.drop_append, List.take_append, e2, e3]
  simp

/-! ### 2. Reading a variable of many cells -/
section
variable {P : Program} (w : World)

/-- A load and a store that the walk doesn't open cell by cell. -/
def loadX (t : TypeId) (x : Value) : Sem Value := Instr.loadAt t x
def storeX (t : TypeId) (x v : Value) : Sem Unit := Instr.storeAt t x v
/-- What isn't known. -/
def loadZ (t : TypeId) (x : Value) : Sem Value := Instr.loadAt t x
def storeZ (t : TypeId) (x v : Value) : Sem Unit := Instr.storeAt t x v

/-- A block, under a word that the walk's simp doesn't open. -/
def hp (w : World) (b : Nat) : Option Obj := w.heap[b]?

/-- What is read: of a block of cells; else 'alt'. -/
def readR (w : World) (b o n : Nat) (alt : Result Value) : Result Value :=
  match hp w b with
  | some (.cells C _ _) => if o + n ≤ C.size then .ok (.agg (C.extract o (o + n))) w else alt
  | _ => alt

theorem load_agg (t : TypeId) (n : Nat) (d : TypeDesc) (hu : P.underlying t = some d) (hd : (match d with | .struct _ | .array _ _ => true | _ => false) = true)
    (hi : (P.info? t).map (·.size) = some n) (b o : Nat) :
    (loadX t (.pointer (some ⟨b, o, none⟩))).run P w = readR w b o n ((loadZ t (.pointer (some ⟨b, o, none⟩))).run P w) := by
  unfold readR
  split
  · rename_i C t' fr hb
    split
    · rename_i hle
      have hl : (loadCells ⟨b, o, none⟩ n).run P w = .ok (C.extract o (o + n)) w := by
        have hsz : (C.extract o (o + n)).toList.length = n := by simp; omega
        have := run_loadCells_list (P := P) w ⟨b, o, none⟩ (C.extract o (o + n)).toList (fun j v hv => by
          have hadd : (⟨b, o, none⟩ : Addr).add j = ⟨b, o + j, none⟩ := by unfold Addr.add; split <;> simp_all
          rw [hadd, cell_of_row w b (o + j) C t' fr hb]
          simp only [Array.getElem?_toList, Array.getElem?_extract] at hv
          split at hv
          · exact hv
          · cases hv)
        rw [hsz] at this
        exact this
      cases hq : P.info? t with
      | none => simp [hq] at hi
      | some i =>
        have hs : i.size = n := by simpa [hq] using hi
        have hagg : (isAgg t).run P w = .ok true w := by
          unfold isAgg
          rw [Sem.run_bind, run_underlying hu w]
          cases d <;> simp_all
        simp [loadX, Instr.loadAt, Instr.sureAddr, loadVar, Sem.run_bind, hagg, sizeOf, typeInfo, hq, hs, hl]
    · rfl
  · rfl

/-- What is written. -/
def writeR (w : World) (b o n : Nat) (v : Array Value) (alt : Result Unit) : Result Unit :=
  match hp w b with
  | some (.cells C _ (lo, hi)) => if lo = 0 ∧ hi = 0 ∧ o + n ≤ C.size ∧ v.size = n ∧ ones v = true then .ok () (w.setRow b (putR C o v)) else alt
  | _ => alt

attribute [go_sem] readR writeR

theorem store_agg (t : TypeId) (n : Nat) (hi : (P.info? t).map (·.size) = some n) (b o : Nat) (v : Array Value) :
    (storeX t (.pointer (some ⟨b, o, none⟩)) (.agg v)).run P w = writeR w b o n v ((storeZ t (.pointer (some ⟨b, o, none⟩)) (.agg v)).run P w) := by
  unfold writeR
  split
  · rename_i C t' lo hi' hb
    split
    · rename_i hh
      obtain ⟨rfl, rfl, hle, hsz, h1⟩ := hh
      have h1' : ∀ x ∈ v.toList, x.oneCell' = true := fun x hx => (Array.all_eq_true_iff_forall_mem.1 h1) x (by simpa using hx)
      have := run_storeCells_at P b o t' v.toList 0 C w hb (by simp; omega) h1'
      cases hq : P.info? t with
      | none => simp [hq] at hi
      | some i =>
        have hs : v.size = i.size := by simp [hq] at hi; omega
        simp only [Nat.add_zero, Array.length_toList] at this
        simp [storeX, Instr.storeAt, Instr.sureAddr, storeVar, sizeOf, typeInfo, hq, Value.cells, hs, this, putR]
    · rfl
  · rfl
end

/-! ### 2b. Zero values and built structs -/
def zeroX (t : TypeId) : Sem Value := zeroValue t
def buildX (t : TypeId) (x : Array (Nat × Value)) : Sem Value := Instr.build t x
def fillX (pl : Nat → Option (Nat × Nat)) (cells : Array Value) : List (Nat × Value) → Option (Array Value)
  | [] => some cells
  | (i, v) :: rest =>
    match pl i with
    | none => none
    | some (off, size) => if (cx v).size = size ∧ off + size ≤ cells.size then fillX pl (putR cells off (cx v)) rest else none
def buildR (w : World) : Option (Array Value) → Result Value
  | some c => .ok (.agg c) w
  | none => .halt (.stuck "build: no such field, or a part of the wrong size") w

theorem fold_put (v : List Value) : ∀ (cells : Array Value) (off k : Nat), off + k + v.length ≤ cells.size →
    (v.zipIdx k).foldl (fun cs (x : Value × Nat) => cs.setIfInBounds (off + x.2) x.1) cells = putR cells (off + k) v.toArray := by
  induction v with
  | nil => intro cells off k _; simp [putR]
  | cons x r ih =>
    intro cells off k h
    simp only [List.zipIdx_cons, List.foldl_cons]
    rw [ih _ _ _ (by simp at h ⊢; omega)]
    apply Array.ext'
    have := list_seg_step cells.toList (off + k) x r (by simp at h ⊢; omega)
    simpa [putR, Nat.add_assoc] using this

theorem fill_eq (pl : Nat → Option (Nat × Nat)) : ∀ (parts : List (Nat × Value)) (cells : Array Value), Instr.fill pl cells parts = fillX pl cells parts
  | [], cells => rfl
  | (i, v) :: rest, cells => by
    simp only [Instr.fill, fillX]
    cases pl i with
    | none => rfl
    | some p =>
      obtain ⟨off, size⟩ := p
      dsimp only
      rw [← cx_eq]
      by_cases hs : v.cells.size = size
      · by_cases hle : off + size ≤ cells.size
        · have h1 : (v.cells.size ≠ size || decide (off + v.cells.size > cells.size)) = false := by simp [hs]; omega
          rw [if_neg (by simpa using h1), if_pos ⟨hs, hle⟩, fill_eq pl rest]
          congr 1
          have := fold_put v.cells.toList cells off 0 (by simp; omega)
          rw [← Array.foldl_toList, Array.toList_zipIdx]
          simpa using this
        · rw [if_pos (by simp; omega), if_neg (by omega)]
      · rw [if_pos (by simp [hs]), if_neg (by simp [hs])]

theorem build_struct {P : Program} (w : World) (t : TypeId) (fs : Array Field) (pl : Array (Nat × Nat)) (z : Array Value) (x : Array (Nat × Value)) (hu : P.underlying t = some (.struct fs))
    (hz : (zeroX t).run P w = .ok (.agg z) w) (hp : (fs.mapM fun f => (do pure (f.offset, ← sizeOf f.type) : Sem (Nat × Nat))).run P w = .ok pl w) :
    (buildX t x).run P w = buildR w (fillX (fun i => pl[i]?) z x.toList) := by
  unfold zeroX at hz
  simp only [buildX, Instr.build, Sem.run_bind, hz, Result.andThen_ok, run_underlying hu, hp, Value.cells, fill_eq]
  cases fillX (fun i => pl[i]?) z x.toList <;> rfl
attribute [go_sem] fillX buildR

/-! ### 3. Blocks -/
variable {w : World}
@[go_sem] theorem hp_alloc_at (o : Obj) (n : Nat) (hn : n = w.heap.size) : hp (w.alloc o) n = some o := by subst hn; exact heap_alloc_new w o
@[go_sem] theorem hp_alloc_past (o : Obj) (n : Nat) (hn : n < w.heap.size) : hp (w.alloc o) n = hp w n := Below.heap_alloc w o n hn
@[go_sem] theorem hp_drew (n : Nat) : hp w.drew n = hp w n := rfl
@[go_sem] theorem hp_drewN (n k : Nat) : hp (w.drewN n) k = hp w k := by
  induction n generalizing w with
  | zero => rfl
  | succ n ih => rw [← World.drew_drewN]; exact ih
@[go_sem] theorem hp_setRow_same (n : Nat) (c c' : Array Value) (t : TypeId) (fr : Nat × Nat) (h : hp w n = some (.cells c t fr)) : hp (w.setRow n c') n = some (.cells c' t fr) := setRow_heap w n c c' t fr h
@[go_sem] theorem hp_setRow_other (n k : Nat) (c : Array Value) (h : k ≠ n) : hp (w.setRow n c) k = hp w k := setRow_other w n k c h
@[go_sem] theorem hp_setCell_other (a : Addr) (k : Nat) (v : Value) (h : k ≠ a.block) : hp (w.setCell a v) k = hp w k := heap_setCell_other w a k v h
theorem _root_.Go.RowKit.Below.hp {B : Nat} {w w' : World} (h : Below B w w') : ∀ k, k < B → hp w' k = hp w k := h.block
theorem hp_cell {b : Nat} {C : Array Value} {t : TypeId} {fr : Nat × Nat} (h : hp w b = some (.cells C t fr)) (i : Nat) : w.cell? ⟨b, i, none⟩ = C[i]? := cell_of_row w b i C t fr h
theorem hp_frozen {b : Nat} {C : Array Value} {t : TypeId} (h : hp w b = some (.cells C t (0, 0))) (i : Nat) : w.frozen? ⟨b, i, none⟩ = false := frozen_of_row w b i C t h
@[go_sem] theorem setRow_alloc_at (c c' : Array Value) (t : TypeId) (n : Nat) (hn : n = w.heap.size) : (w.alloc (.cells c t)).setRow n c' = w.alloc (.cells c' t) := by
  subst hn; exact World.setRow_alloc_new w c c' t
@[go_sem] theorem setRow_alloc_past (o : Obj) (n : Nat) (c' : Array Value) (hn : n < w.heap.size) : (w.alloc o).setRow n c' = (w.setRow n c').alloc o := by
  unfold World.setRow World.alloc
  congr 1
  apply Array.ext_getElem?
  intro k
  simp only [Array.getElem?_modify, Array.getElem?_push, Array.size_modify]
  by_cases hk : k = w.heap.size
  · subst hk
    simp [Nat.ne_of_lt hn]
  · simp [hk]
@[go_sem] theorem setRow_drew (n : Nat) (c : Array Value) : w.drew.setRow n c = (w.setRow n c).drew := rfl

theorem Below.setRow {B : Nat} {a w : World} (h : Below B a w) {n : Nat} (hp : B ≤ n) (c : Array Value) : Below B a (w.setRow n c) :=
  h.trans ⟨rfl, rfl, rfl, by simp [World.setRow], fun k hk => setRow_other w n k c (by omega)⟩

/-! ### 3b. Arrays of bytes and structs, compared -/
def eqX (t : TypeId) (x y : Value) : Sem Value := binOp .eql t x y
def neX (t : TypeId) (x y : Value) : Sem Value := binOp .neq t x y
section
variable {P : Program} (w : World)
theorem bv_at {n : Nat} (a : Vector UInt8 n) (i : Nat) (h : i < n) : (bv a)[i]? = some (.int .u8 (a[i].toNat : Int)) := by
  simp [bv, h]
theorem run_eqItems_bytes (d : Nat) {e : TypeId} (he : P.underlying e = some (.int .u8)) {n : Nat} (a b : Vector UInt8 n) : ∀ is : List Nat, (∀ i ∈ is, i < n) →
    (Op.eqItems (d + 1) e 1 (bv a) (bv b) is).run P w = .ok (is.all fun i => (a.toArray[i]? == b.toArray[i]?)) w
  | [], _ => by simp [Op.eqItems]
  | i :: is, h => by
    have hi : i < n := h i (by simp)
    have hp : P.plainKey e = true := by simp [Program.plainKey, he]
    have ih := run_eqItems_bytes d he a b is (fun j hj => h j (by simp [hj]))
    simp only [Op.eqItems, Sem.run_bind, Nat.mul_one, run_part_plain w hp (bv_at a i hi), run_part_plain w hp (bv_at b i hi), Result.andThen_ok, run_equalIn_int w d e .u8 .u8 _ _ he, List.all_cons]
    have e1 : a.toArray[i]? = some a[i] := by simp [hi]
    have e2 : b.toArray[i]? = some b[i] := by simp [hi]
    rw [e1, e2]
    by_cases hab : a[i] = b[i]
    · simp [hab, ih]
    · have : ((a[i].toNat : Int) == (b[i].toNat : Int)) = false := by
        rw [beq_eq_false_iff_ne]
        intro hh
        exact hab (UInt8.toNat_inj.1 (by omega))
      simp [this, hab]
theorem run_equalIn_bytes (d : Nat) {t e : TypeId} {n : Nat} (ht : P.underlying t = some (.array n e)) (he : P.underlying e = some (.int .u8)) (hi : (P.info? e).map (·.size) = some 1) (a b : Vector UInt8 n) :
    (Op.equalIn (d + 2) t (.agg (bv a)) (.agg (bv b))).run P w = .ok (decide (a = b)) w := by
  cases hq : P.info? e with
  | none => simp [hq] at hi
  | some i =>
    have hs : i.size = 1 := by simpa [hq] using hi
    have hc : P.cellsOf e = 1 := by simp [Program.cellsOf, hq, hs]
    rw [run_equalIn_array w (d + 1) (bv a) (bv b) ht hq, hc, run_eqItems_bytes w d he a b (List.range n) (by simp)]
    congr 1
    rw [Bool.eq_iff_iff]
    simp only [List.all_eq_true, List.mem_range, beq_iff_eq, decide_eq_true_eq]
    constructor
    · intro h
      apply Vector.toArray_inj.1
      apply Array.ext_getElem?
      intro j
      by_cases hj : j < n
      · exact h j hj
      · simp [hj]
    · rintro rfl _ _
      rfl
theorem part_agg {t : TypeId} {d : TypeDesc} {n : Nat} (hu : P.underlying t = some d) (hd : (match d with | .struct _ | .array _ _ => true | _ => false) = true) (hi : (P.info? t).map (·.size) = some n) (c : Array Value) (o : Nat) :
    (part t c o).run P w = .ok (.agg (c.extract o (o + n))) w := by
  cases hq : P.info? t with
  | none => simp [hq] at hi
  | some i =>
    have hs : i.size = n := by simpa [hq] using hi
    have hagg : (isAgg t).run P w = .ok true w := by
      unfold isAgg
      rw [Sem.run_bind, run_underlying hu w]
      cases d <;> simp_all
    simp [part, Sem.run_bind, hagg, sizeOf, typeInfo, hq, hs]
theorem eqFields_step {d : Nat} {xs ys : Array Value} {f : Field} {fs : List Field} {vx vy : Value} {b r : Bool} (hn : (f.name == "_") = false) (hx : (part f.type xs f.offset).run P w = .ok vx w) (hy : (part f.type ys f.offset).run P w = .ok vy w)
    (he : (Op.equalIn d f.type vx vy).run P w = .ok b w) (hr : (Op.eqFields d xs ys fs).run P w = .ok r w) : (Op.eqFields d xs ys (f :: fs)).run P w = .ok (b && r) w := by
  have hn' : f.name ≠ "_" := by simpa using hn
  simp only [Op.eqFields, if_pos hn', Sem.run_bind, hx, hy, he, Result.andThen_ok]
  cases b
  · simp
  · simpa using hr
theorem eqFields_end {d : Nat} {xs ys : Array Value} : (Op.eqFields d xs ys []).run P w = .ok true w := by simp [Op.eqFields]
theorem equalIn_str (d : Nat) (t : TypeId) (a b : ByteArray) (h : P.underlying t = some .string) : (Op.equalIn (d + 1) t (.string a) (.string b)).run P w = .ok (decide (a = b)) w := by
  rw [run_equalIn_string w d t a b h]
  congr 1
  rw [Bool.eq_iff_iff]
  simp [ByteArray.toList_eq, ByteArray.ext_iff]
theorem equalIn_int (d : Nat) (t : TypeId) (k k' : IntKind) (a b : Int) (h : P.underlying t = some (.int k')) : (Op.equalIn (d + 1) t (.int k a) (.int k b)).run P w = .ok (decide (a = b)) w := by
  rw [run_equalIn_int w d t k k' a b h]
  congr 1
theorem equalIn_bool (d : Nat) (t : TypeId) (a b : Bool) (h : P.underlying t = some .bool) : (Op.equalIn (d + 1) t (.bool a) (.bool b)).run P w = .ok (decide (a = b)) w := by
  rw [run_equalIn_bool w d t a b h]
  congr 1
theorem run_eqX (t : TypeId) (x y : Array Value) {b : Bool} (h : (Op.equalIn 10000 t (.agg x) (.agg y)).run P w = .ok b w) : (eqX t (.agg x) (.agg y)).run P w = .ok (.bool b) w := by
  rw [eqX, run_eql_struct, h]; rfl
theorem run_neX (t : TypeId) (x y : Array Value) {b : Bool} (h : (Op.equalIn 10000 t (.agg x) (.agg y)).run P w = .ok b w) : (neX t (.agg x) (.agg y)).run P w = .ok (.bool (!b)) w := by
  rw [neX, run_neq_struct, h]; rfl
end

/-! ### 4. A region that draws its order, each operation of which yields one value in every world that meets S -/
/-- The end of a function whose one result lies in a block of its own. -/
theorem ret_row {P : Program} {fn : Func} {R : Ending → World → Prop} {a : Act} {w : World} {p : Tmp} {ty t : TypeId} {g : Nat} {cs : Array Value} {fr : Nat × Nat} {d : TypeDesc} (h : fn.results = #[.cell p ty])
    (hu : P.underlying ty = some d) (hd : (match d with | .struct _ | .array _ _ => true | _ => false) = true) (hi : (P.info? ty).map (·.size) = some cs.size)
    (ht : a.tmps.getD p undef = .pointer (some ⟨g, 0, none⟩)) (hg : hp w g = some (.cells cs t fr)) (hdf : a.defers = []) (hR : R (.returned (.agg cs)) w) : bodyPost P fn R .ret a w :=
  bodyPost_ret (v := .agg cs) (results_cell_row h a.tmps w g t cs fr d ht hg hu hd hi) hdf hR
/-- A world that meets S. -/
structure Held (S : World → Prop) where
  w : World
  h : S w
theorem wp_region_calm {P : Program} {S : World → Prop} {id : Nat} {Q : Exit → Act → World → Prop} {a : Act} {w : World} {l : List Oper} (hm : P.follows .mixedOrders = true) (hB : Region.lexB .any l.toArray = true)
    (hS : S w.drew) (h : Nonempty (Held S) → wpQuiet P l.toArray (fun W => ∃ u : Held S, W = u.w) (fun a' => ∀ u : Held S, Q .normal a' u.w) l a) : (Code.region id l.toArray true).wp P Q a w :=
  wp_region_quiet (C := fun W => ∃ u : Held S, W = u.w) hm hB ⟨⟨w.drew, hS⟩, rfl⟩ (by
    have e : (fun a' => ∀ u : Held S, Q .normal a' u.w) = (fun a' => ∀ W, (∃ u : Held S, W = u.w) → Q .normal a' W) := by
      funext a'
      apply propext
      exact ⟨fun h W ⟨u, hu⟩ => hu ▸ h u, fun h u => h _ ⟨u, rfl⟩⟩
    have h' := h ⟨⟨w.drew, hS⟩⟩
    rw [e] at h'
    simpa using h')
/-- A call in such a region. -/
theorem calm_call {P : Program} {S : World → Prop} {f : FuncId} {args : Array Value} {u : Held S} {v : Value} {R : World → Prop} (h : Calls P f args u.w fun e w' => e = .returned v ∧ R w') (hS : ∀ w', S u.w → R w' → S w') :
    Calls P f args u.w fun e w'' => e = .returned v ∧ ∃ u' : Held S, w'' = u'.w :=
  h.mono fun _ w' ⟨he, hr⟩ => ⟨he, ⟨w', hS w' u.h hr⟩, rfl⟩
end Go.Proofs.YtinngljphjdpoaaDoor.Pa
