/- Lemmas on memory for the walks of this seat: whole arrays and structs read from and written into a block, whatever their cells. No program in sight; no conditions. -/
import Derived.WalkKit
import Derived.Deep.WholeRow
import Derived.Deep.Draws
import Derived.Deep.QuietTactic
import Derived.BigQuiet
import Derived.ChangeKeysEq
import Derived.StillTailTactics
import Derived.Deep.RegionHeld3
namespace Go.Proofs.YtinngljphjdpoaaGreatDoor.Pa
open Go Go.RowKit

/-- A number within the bounds of an int isn't wrapped. -/
theorem w64 {n : Int} (h0 : -9223372036854775808 ≤ n) (h1 : n ≤ 9223372036854775807) : wrap64 n = n := by unfold wrap64; omega

theorem wu64 {n : Int} (h0 : 0 ≤ n) (h1 : n < 18446744073709551616) : IntKind.u64.wrap n = n := by
  simp only [IntKind.wrap, IntKind.signed, IntKind.bits]
  simp
  omega
theorem wu8 {n : Int} (h0 : 0 ≤ n) (h1 : n < 256) : IntKind.u8.wrap n = n := by
  simp only [IntKind.wrap, IntKind.signed, IntKind.bits]
  simp
  omega
theorem wu32 {n : Int} (h0 : 0 ≤ n) (h1 : n < 4294967296) : IntKind.u32.wrap n = n := by
  simp only [IntKind.wrap, IntKind.signed, IntKind.bits]
  simp
  omega

theorem ret_int {k : IntKind} {a b : Int} (h : a = b) : Ending.returned (.int k a) = .returned (.int k b) := by rw [h]
theorem ret_pair {j k : IntKind} {a b c d : Int} (h : a = b) (h' : c = d) : Ending.returned (.tuple #[.int k a, .int j c]) = .returned (.tuple #[.int k b, .int j d]) := by rw [h, h']
theorem ret_bool {a b : Bool} (h : a = b) : Ending.returned (.bool a) = .returned (.bool b) := by rw [h]

/-! ### 1. Cells -/
/-- The cells c with those from o on replaced by v. -/
def putR (c : Array Value) (o : Nat) (v : Array Value) : Array Value := (c.toList.take o ++ v.toList ++ c.toList.drop (o + v.size)).toArray
theorem putR_size (c : Array Value) (o : Nat) (v : Array Value) (h : o + v.size ≤ c.size) : (putR c o v).size = c.size := by
  simp [putR]; omega
/-- Is each of them one cell? -/
def ones (c : Array Value) : Bool := c.all (·.oneCell')

/-- The bytes' cells; the numbers'. -/
def bv {n : Nat} (k : Vector UInt8 n) : Array Value := k.toArray.map fun b => Value.int .u8 (b.toNat : Int)
def wv {n : Nat} (t : IntKind) (k : Vector Int n) : Array Value := k.toArray.map fun b => Value.int t b
@[simp, go_sem] theorem bv_size {n : Nat} (k : Vector UInt8 n) : (bv k).size = n := by simp [bv]
@[simp, go_sem] theorem wv_size {n : Nat} (t : IntKind) (k : Vector Int n) : (wv t k).size = n := by simp [wv]
@[simp, go_sem] theorem bv_ones {n : Nat} (k : Vector UInt8 n) : ones (bv k) = true := by
  simp only [ones, Array.all_eq_true_iff_forall_mem, bv, Array.mem_map]
  rintro x ⟨b, _, rfl⟩
  rfl
@[simp, go_sem] theorem wv_ones {n : Nat} (t : IntKind) (k : Vector Int n) : ones (wv t k) = true := by
  simp only [ones, Array.all_eq_true_iff_forall_mem, wv, Array.mem_map]
  rintro x ⟨b, _, rfl⟩
  rfl
@[simp, go_sem] theorem ones_append (a b : Array Value) : ones (a ++ b) = (ones a && ones b) := by simp [ones]
def o1 (v : Value) : Array Value := #[v]
@[simp, go_sem] theorem o1_size (v : Value) : (o1 v).size = 1 := by simp [o1]
@[simp, go_sem] theorem o1_ones (v : Value) : ones (o1 v) = v.oneCell' := by simp [ones, o1]
def cx : Value → Array Value
  | .agg cs => cs
  | v => o1 v
theorem cx_eq (v : Value) : v.cells = cx v := by cases v <;> rfl
@[go_sem] theorem cx_agg (c : Array Value) : cx (.agg c) = c := rfl
@[go_sem] theorem cx_int (k : IntKind) (n : Int) : cx (.int k n) = o1 (.int k n) := rfl
@[go_sem] theorem cx_bool (b : Bool) : cx (.bool b) = o1 (.bool b) := rfl
@[go_sem] theorem cx_string (b : ByteArray) : cx (.string b) = o1 (.string b) := rfl
@[go_sem] theorem cx_pointer (b : Option Addr) : cx (.pointer b) = o1 (.pointer b) := rfl
@[go_sem] theorem cx_slice (b : Option Addr) (n c : Nat) : cx (.slice b n c) = o1 (.slice b n c) := rfl
@[go_sem] theorem cx_map (b : Option Nat) : cx (.map b) = o1 (.map b) := rfl
@[go_sem] theorem cx_func (f : Fn) (a b : Array Value) : cx (.func f a b) = o1 (.func f a b) := rfl
@[go_sem] theorem cx_nilFunc : cx .nilFunc = o1 .nilFunc := rfl
@[go_sem] theorem cx_nilIface : cx .nilIface = o1 .nilIface := rfl
@[go_sem] theorem cx_iface (t : TypeId) (v : Value) : cx (.iface t v) = o1 (.iface t v) := rfl

theorem bv_inj {n : Nat} {a b : Vector UInt8 n} (h : bv a = bv b) : a = b := by
  have h2 := Array.map_inj_right (f := fun b : UInt8 => Value.int .u8 (b.toNat : Int)) (fun x y e => by
    simp only [Value.int.injEq, true_and] at e
    exact UInt8.toNat_inj.1 (by omega)) |>.1 h
  exact Vector.toArray_inj.1 h2

/-! Parts of joined cells. -/
theorem ex_head (a b : Array Value) (n : Nat) (h : a.size = n) : (a ++ b).extract 0 n = a := by
  subst h; simp [Array.extract_append]
theorem ex_tail (a b : Array Value) (i j : Nat) (h : a.size ≤ i) : (a ++ b).extract i j = b.extract (i - a.size) (j - a.size) := by
  rw [Array.extract_append, Array.extract_empty_of_size_le_start h, Array.empty_append]
theorem ex_all (a : Array Value) (n : Nat) (h : a.size ≤ n) : a.extract 0 n = a := Array.extract_eq_self_of_le h
theorem at_one (v : Value) : (o1 v)[0]? = some v := by simp [o1]
theorem set_one (v u : Value) : (o1 v).setIfInBounds 0 u = o1 u := by simp [o1]
theorem at_head (v : Value) (b : Array Value) : (o1 v ++ b)[0]? = some v := by rw [Array.getElem?_append_left (by simp [o1])]; rfl
theorem at_tail (a b : Array Value) (i : Nat) (h : a.size ≤ i) : (a ++ b)[i]? = b[i - a.size]? := Array.getElem?_append_right h
theorem set_head (v u : Value) (b : Array Value) : (o1 v ++ b).setIfInBounds 0 u = o1 u ++ b := by
  rw [Array.setIfInBounds_append, if_pos (by simp)]; rfl
theorem set_tail (a b : Array Value) (i : Nat) (u : Value) (h : a.size ≤ i) : (a ++ b).setIfInBounds i u = a ++ b.setIfInBounds (i - a.size) u := by
  rw [Array.setIfInBounds_append, if_neg (by omega)]
theorem put_head (a b v : Array Value) (h : a.size = v.size) : putR (a ++ b) 0 v = v ++ b := by
  apply Array.ext'
  simp [putR, ← h]
theorem put_all (a v : Array Value) (h : a.size = v.size) : putR a 0 v = v := by
  apply Array.ext'
  simp [putR, ← h]
theorem put_tail (a b : Array Value) (o : Nat) (v : Array Value) (h : a.size ≤ o) : putR (a ++ b) o v = a ++ putR b (o - a.size) v := by
  obtain ⟨d, rfl⟩ := Nat.exists_eq_add_of_le h
  apply Array.ext'
  have e : a.size + d + v.size = a.toList.length + (d + v.size) := by simp; omega
  have e2 : a.toList.drop (a.toList.length + (d + v.size)) = [] := List.drop_eq_nil_of_le (by omega)
  have e3 : a.toList.take (a.size + d) = a.toList := List.take_of_length_le (by simp)
  simp only [putR, Array.toList_append, e, List.drop_append, List.take_append, e2, e3]
  simp

/-! ### 2. Reading a variable of many cells -/
section
variable {P : Program} (w : World)

/-- A load and a store that the walk doesn't open cell by cell. -/
def loadX (t : TypeId) (x : Value) : Sem Value := Instr.loadAt t x
def storeX (t : TypeId) (x v : Value) : Sem Unit := Instr.storeAt t x v
/-- What isn't known. -/
def loadZ (t : TypeId) (x : Value) : Sem Value := Instr.loadAt t x
def storeZ (t : TypeId) (x v : Value) : Sem Unit := Instr.storeAt t x v

/-- A block, under a word that the walk's simp doesn't open. -/
def hp (w : World) (b : Nat) : Option Obj := w.heap[b]?

/-- What is read: of a block of cells; else 'alt'. -/
def readR (w : World) (b o n : Nat) (alt : Result Value) : Result Value :=
  match hp w b with
  | some (.cells C _ _) => if o + n ≤ C.size then .ok (.agg (C.extract o (o + n))) w else alt
  | _ => alt

theorem load_agg (t : TypeId) (n : Nat) (d : TypeDesc) (hu : P.underlying t = some d) (hd : (match d with | .struct _ | .array _ _ => true | _ => false) = true)
    (hi : (P.info? t).map (·.size) = some n) (b o : Nat) :
    (loadX t (.pointer (some ⟨b, o, none⟩))).run P w = readR w b o n ((loadZ t (.pointer (some ⟨b, o, none⟩))).run P w) := by
  unfold readR
  split
  · rename_i C t' fr hb
    split
    · rename_i hle
      have hl : (loadCells ⟨b, o, none⟩ n).run P w = .ok (C.extract o (o + n)) w := by
        have hsz : (C.extract o (o + n)).toList.length = n := by simp; omega
        have := run_loadCells_list (P := P) w ⟨b, o, none⟩ (C.extract o (o + n)).toList (fun j v hv => by
          have hadd : (⟨b, o, none⟩ : Addr).add j = ⟨b, o + j, none⟩ := by unfold Addr.add; split <;> simp_all
          rw [hadd, cell_of_row w b (o + j) C t' fr hb]
          simp only [Array.getElem?_toList, Array.getElem?_extract] at hv
          split at hv
          · exact hv
          · cases hv)
        rw [hsz] at this
        exact this
      cases hq : P.info? t with
      | none => simp [hq] at hi
      | some i =>
        have hs : i.size = n := by simpa [hq] using hi
        have hagg : (isAgg t).run P w = .ok true w := by
          unfold isAgg
          rw [Sem.run_bind, run_underlying hu w]
          cases d <;> simp_all
        simp [loadX, Instr.loadAt, Instr.sureAddr, loadVar, Sem.run_bind, hagg, sizeOf, typeInfo, hq, hs, hl]
    · rfl
  · rfl

/-- What is written. -/
def writeR (w : World) (b o n : Nat) (v : Array Value) (alt : Result Unit) : Result Unit :=
  match hp w b with
  | some (.cells C _ (lo, hi)) => if lo = 0 ∧ hi = 0 ∧ o + n ≤ C.size ∧ v.size = n ∧ ones v = true then .ok () (w.setRow b (putR C o v)) else alt
  | _ => alt

attribute [go_sem] readR writeR

theorem store_agg (t : TypeId) (n : Nat) (hi : (P.info? t).map (·.size) = some n) (b o : Nat) (v : Array Value) :
    (storeX t (.pointer (some ⟨b, o, none⟩)) (.agg v)).run P w = writeR w b o n v ((storeZ t (.pointer (some ⟨b, o, none⟩)) (.agg v)).run P w) := by
  unfold writeR
  split
  · rename_i C t' lo hi' hb
    split
    · rename_i hh
      obtain ⟨rfl, rfl, hle, hsz, h1⟩ := hh
      have h1' : ∀ x ∈ v.toList, x.oneCell' = true := fun x hx => (Array.all_eq_true_iff_forall_mem.1 h1) x (by simpa using hx)
      have := run_storeCells_at P b o t' v.toList 0 C w hb (by simp; omega) h1'
      cases hq : P.info? t with
      | none => simp [hq] at hi
      | some i =>
        have hs : v.size = i.size := by simp [hq] at hi; omega
        simp only [Nat.add_zero, Array.length_toList] at this
        simp [storeX, Instr.storeAt, Instr.sureAddr, storeVar, sizeOf, typeInfo, hq, Value.cells, hs, this, putR]
    · rfl
  · rfl
end

/-! ### 2b. Zero values and built structs -/
def zeroX (t : TypeId) : Sem Value := zeroValue t
def buildX (t : TypeId) (x : Array (Nat × Value)) : Sem Value := Instr.build t x
def fillX (pl : Nat → Option (Nat × Nat)) (cells : Array Value) : List (Nat × Value) → Option (Array Value)
  | [] => some cells
  | (i, v) :: rest =>
    match pl i with
    | none => none
    | some (off, size) => if (cx v).size = size ∧ off + size ≤ cells.size then fillX pl (putR cells off (cx v)) rest else none
def buildR (w : World) : Option (Array Value) → Result Value
  | some c => .ok (.agg c) w
  | none => .halt (.stuck "build: no such field, or a part of the wrong size") w

theorem fold_put (v : List Value) : ∀ (cells : Array Value) (off k : Nat), off + k + v.length ≤ cells.size →
    (v.zipIdx k).foldl (fun cs (x : Value × Nat) => cs.setIfInBounds (off + x.2) x.1) cells = putR cells (off + k) v.toArray := by
  induction v with
  | nil => intro cells off k _; simp [putR]
  | cons x r ih =>
    intro cells off k h
    simp only [List.zipIdx_cons, List.foldl_cons]
    rw [ih _ _ _ (by simp at h ⊢; omega)]
    apply Array.ext'
    have := list_seg_step cells.toList (off + k) x r (by simp at h ⊢; omega)
    simpa [putR, Nat.add_assoc] using this

theorem fill_eq (pl : Nat → Option (Nat × Nat)) : ∀ (parts : List (Nat × Value)) (cells : Array Value), Instr.fill pl cells parts = fillX pl cells parts
  | [], cells => rfl
  | (i, v) :: rest, cells => by
    simp only [Instr.fill, fillX]
    cases pl i with
    | none => rfl
    | some p =>
      obtain ⟨off, size⟩ := p
      dsimp only
      rw [← cx_eq]
      by_cases hs : v.cells.size = size
      · by_cases hle : off + size ≤ cells.size
        · have h1 : (v.cells.size ≠ size || decide (off + v.cells.size > cells.size)) = false := by simp [hs]; omega
          rw [if_neg (by simpa using h1), if_pos ⟨hs, hle⟩, fill_eq pl rest]
          congr 1
          have := fold_put v.cells.toList cells off 0 (by simp; omega)
          rw [← Array.foldl_toList, Array.toList_zipIdx]
          simpa using this
        · rw [if_pos (by simp; omega), if_neg (by omega)]
      · rw [if_pos (by simp [hs]), if_neg (by simp [hs])]

theorem build_struct {P : Program} (w : World) (t : TypeId) (fs : Array Field) (pl : Array (Nat × Nat)) (z : Array Value) (x : Array (Nat × Value)) (hu : P.underlying t = some (.struct fs))
    (hz : (zeroX t).run P w = .ok (.agg z) w) (hp : (fs.mapM fun f => (do pure (f.offset, ← sizeOf f.type) : Sem (Nat × Nat))).run P w = .ok pl w) :
    (buildX t x).run P w = buildR w (fillX (fun i => pl[i]?) z x.toList) := by
  unfold zeroX at hz
  simp only [buildX, Instr.build, Sem.run_bind, hz, Result.andThen_ok, run_underlying hu, hp, Value.cells, fill_eq]
  cases fillX (fun i => pl[i]?) z x.toList <;> rfl
attribute [go_sem] fillX buildR

/-! ### 3. Blocks -/
variable {w : World}
@[go_sem] theorem hp_alloc_at (o : Obj) (n : Nat) (hn : n = w.heap.size) : hp (w.alloc o) n = some o := by subst hn; exact heap_alloc_new w o
@[go_sem] theorem hp_alloc_past (o : Obj) (n : Nat) (hn : n < w.heap.size) : hp (w.alloc o) n = hp w n := Below.heap_alloc w o n hn
@[go_sem] theorem hp_drew (n : Nat) : hp w.drew n = hp w n := rfl
@[go_sem] theorem hp_drewN (n k : Nat) : hp (w.drewN n) k = hp w k := by
  induction n generalizing w with
  | zero => rfl
  | succ n ih => rw [← World.drew_drewN]; exact ih
@[go_sem] theorem hp_setRow_same (n : Nat) (c c' : Array Value) (t : TypeId) (fr : Nat × Nat) (h : hp w n = some (.cells c t fr)) : hp (w.setRow n c') n = some (.cells c' t fr) := setRow_heap w n c c' t fr h
@[go_sem] theorem hp_setRow_other (n k : Nat) (c : Array Value) (h : k ≠ n) : hp (w.setRow n c) k = hp w k := setRow_other w n k c h
@[go_sem] theorem hp_setCell_other (a : Addr) (k : Nat) (v : Value) (h : k ≠ a.block) : hp (w.setCell a v) k = hp w k := heap_setCell_other w a k v h
theorem _root_.Go.RowKit.Below.hp {B : Nat} {w w' : World} (h : Below B w w') : ∀ k, k < B → hp w' k = hp w k := h.block
theorem hp_cell {b : Nat} {C : Array Value} {t : TypeId} {fr : Nat × Nat} (h : hp w b = some (.cells C t fr)) (i : Nat) : w.cell? ⟨b, i, none⟩ = C[i]? := cell_of_row w b i C t fr h
theorem hp_frozen {b : Nat} {C : Array Value} {t : TypeId} (h : hp w b = some (.cells C t (0, 0))) (i : Nat) : w.frozen? ⟨b, i, none⟩ = false := frozen_of_row w b i C t h
@[go_sem] theorem setRow_alloc_at (c c' : Array Value) (t : TypeId) (n : Nat) (hn : n = w.heap.size) : (w.alloc (.cells c t)).setRow n c' = w.alloc (.cells c' t) := by
  subst hn; exact World.setRow_alloc_new w c c' t
@[go_sem] theorem setRow_alloc_past (o : Obj) (n : Nat) (c' : Array Value) (hn : n < w.heap.size) : (w.alloc o).setRow n c' = (w.setRow n c').alloc o := by
  unfold World.setRow World.alloc
  congr 1
  apply Array.ext_getElem?
  intro k
  simp only [Array.getElem?_modify, Array.getElem?_push, Array.size_modify]
  by_cases hk : k = w.heap.size
  · subst hk
    simp [Nat.ne_of_lt hn]
  · simp [hk]
@[go_sem] theorem setRow_drew (n : Nat) (c : Array Value) : w.drew.setRow n c = (w.setRow n c).drew := rfl

theorem Below.setRow {B : Nat} {a w : World} (h : Below B a w) {n : Nat} (hp : B ≤ n) (c : Array Value) : Below B a (w.setRow n c) :=
  h.trans ⟨rfl, rfl, rfl, by simp [World.setRow], fun k hk => setRow_other w n k c (by omega)⟩

/-! ### 3b. Arrays of bytes and structs, compared -/
def eqX (t : TypeId) (x y : Value) : Sem Value := binOp .eql t x y
def neX (t : TypeId) (x y : Value) : Sem Value := binOp .neq t x y
section
variable {P : Program} (w : World)
theorem bv_at {n : Nat} (a : Vector UInt8 n) (i : Nat) (h : i < n) : (bv a)[i]? = some (.int .u8 (a[i].toNat : Int)) := by
  simp [bv, h]
theorem run_eqItems_bytes (d : Nat) {e : TypeId} (he : P.underlying e = some (.int .u8)) {n : Nat} (a b : Vector UInt8 n) : ∀ is : List Nat, (∀ i ∈ is, i < n) →
    (Op.eqItems (d + 1) e 1 (bv a) (bv b) is).run P w = .ok (is.all fun i => (a.toArray[i]? == b.toArray[i]?)) w
  | [], _ => by simp [Op.eqItems]
  | i :: is, h => by
    have hi : i < n := h i (by simp)
    have hp : P.plainKey e = true := by simp [Program.plainKey, he]
    have ih := run_eqItems_bytes d he a b is (fun j hj => h j (by simp [hj]))
    simp only [Op.eqItems, Sem.run_bind, Nat.mul_one, run_part_plain w hp (bv_at a i hi), run_part_plain w hp (bv_at b i hi), Result.andThen_ok, run_equalIn_int w d e .u8 .u8 _ _ he, List.all_cons]
    have e1 : a.toArray[i]? = some a[i] := by simp [hi]
    have e2 : b.toArray[i]? = some b[i] := by simp [hi]
    rw [e1, e2]
    by_cases hab : a[i] = b[i]
    · simp [hab, ih]
    · have : ((a[i].toNat : Int) == (b[i].toNat : Int)) = false := by
        rw [beq_eq_false_iff_ne]
        intro hh
        exact hab (UInt8.toNat_inj.1 (by omega))
      simp [this, hab]
theorem run_equalIn_bytes (d : Nat) {t e : TypeId} {n : Nat} (ht : P.underlying t = some (.array n e)) (he : P.underlying e = some (.int .u8)) (hi : (P.info? e).map (·.size) = some 1) (a b : Vector UInt8 n) :
    (Op.equalIn (d + 2) t (.agg (bv a)) (.agg (bv b))).run P w = .ok (decide (a = b)) w := by
  cases hq : P.info? e with
  | none => simp [hq] at hi
  | some i =>
    have hs : i.size = 1 := by simpa [hq] using hi
    have hc : P.cellsOf e = 1 := by simp [Program.cellsOf, hq, hs]
    rw [run_equalIn_array w (d + 1) (bv a) (bv b) ht hq, hc, run_eqItems_bytes w d he a b (List.range n) (by simp)]
    congr 1
    rw [Bool.eq_iff_iff]
    simp only [List.all_eq_true, List.mem_range, beq_iff_eq, decide_eq_true_eq]
    constructor
    · intro h
      apply Vector.toArray_inj.1
      apply Array.ext_getElem?
      intro j
      by_cases hj : j < n
      · exact h j hj
      · simp [hj]
    · rintro rfl _ _
      rfl
theorem part_agg {t : TypeId} {d : TypeDesc} {n : Nat} (hu : P.underlying t = some d) (hd : (match d with | .struct _ | .array _ _ => true | _ => false) = true) (hi : (P.info? t).map (·.size) = some n) (c : Array Value) (o : Nat) :
    (part t c o).run P w = .ok (.agg (c.extract o (o + n))) w := by
  cases hq : P.info? t with
  | none => simp [hq] at hi
  | some i =>
    have hs : i.size = n := by simpa [hq] using hi
    have hagg : (isAgg t).run P w = .ok true w := by
      unfold isAgg
      rw [Sem.run_bind, run_underlying hu w]
      cases d <;> simp_all
    simp [part, Sem.run_bind, hagg, sizeOf, typeInfo, hq, hs]
theorem eqFields_step {d : Nat} {xs ys : Array Value} {f : Field} {fs : List Field} {vx vy : Value} {b r : Bool} (hn : (f.name == "_") = false) (hx : (part f.type xs f.offset).run P w = .ok vx w) (hy : (part f.type ys f.offset).run P w = .ok vy w)
    (he : (Op.equalIn d f.type vx vy).run P w = .ok b w) (hr : (Op.eqFields d xs ys fs).run P w = .ok r w) : (Op.eqFields d xs ys (f :: fs)).run P w = .ok (b && r) w := by
  have hn' : f.name ≠ "_" := by simpa using hn
  simp only [Op.eqFields, if_pos hn', Sem.run_bind, hx, hy, he, Result.andThen_ok]
  cases b
  · simp
  · simpa using hr
theorem eqFields_end {d : Nat} {xs ys : Array Value} : (Op.eqFields d xs ys []).run P w = .ok true w := by simp [Op.eqFields]
theorem equalIn_str (d : Nat) (t : TypeId) (a b : ByteArray) (h : P.underlying t = some .string) : (Op.equalIn (d + 1) t (.string a) (.string b)).run P w = .ok (decide (a = b)) w := by
  rw [run_equalIn_string w d t a b h]
  congr 1
  rw [Bool.eq_iff_iff]
  simp [ByteArray.toList_eq, ByteArray.ext_iff]
theorem equalIn_int (d : Nat) (t : TypeId) (k k' : IntKind) (a b : Int) (h : P.underlying t = some (.int k')) : (Op.equalIn (d + 1) t (.int k a) (.int k b)).run P w = .ok (decide (a = b)) w := by
  rw [run_equalIn_int w d t k k' a b h]
  congr 1
theorem equalIn_bool (d : Nat) (t : TypeId) (a b : Bool) (h : P.underlying t = some .bool) : (Op.equalIn (d + 1) t (.bool a) (.bool b)).run P w = .ok (decide (a = b)) w := by
  rw [run_equalIn_bool w d t a b h]
  congr 1
theorem run_eqX (t : TypeId) (x y : Array Value) {b : Bool} (h : (Op.equalIn 10000 t (.agg x) (.agg y)).run P w = .ok b w) : (eqX t (.agg x) (.agg y)).run P w = .ok (.bool b) w := by
  rw [eqX, run_eql_struct, h]; rfl
theorem run_neX (t : TypeId) (x y : Array Value) {b : Bool} (h : (Op.equalIn 10000 t (.agg x) (.agg y)).run P w = .ok b w) : (neX t (.agg x) (.agg y)).run P w = .ok (.bool (!b)) w := by
  rw [neX, run_neq_struct, h]; rfl
end

/-! ### 4. A region that draws its order, each operation of which yields one value in every world that meets S -/
/-- The end of a function whose one result lies in a block of its own. -/
theorem ret_row {P : Program} {fn : Func} {R : Ending → World → Prop} {a : Act} {w : World} {p : Tmp} {ty t : TypeId} {g : Nat} {cs : Array Value} {fr : Nat × Nat} {d : TypeDesc} (h : fn.results = #[.cell p ty])
    (hu : P.underlying ty = some d) (hd : (match d with | .struct _ | .array _ _ => true | _ => false) = true) (hi : (P.info? ty).map (·.size) = some cs.size)
    (ht : a.tmps.getD p undef = .pointer (some ⟨g, 0, none⟩)) (hg : hp w g = some (.cells cs t fr)) (hdf : a.defers = []) (hR : R (.returned (.agg cs)) w) : bodyPost P fn R .ret a w :=
  bodyPost_ret (v := .agg cs) (results_cell_row h a.tmps w g t cs fr d ht hg hu hd hi) hdf hR
/-- A world that meets S. -/
structure Held (S : World → Prop) where
  w : World
  h : S w
theorem wp_region_calm {P : Program} {S : World → Prop} {id : Nat} {Q : Exit → Act → World → Prop} {a : Act} {w : World} {l : List Oper} (hm : P.follows .mixedOrders = true) (hB : Region.lexB .any l.toArray = true)
    (hS : S w.drew) (h : Nonempty (Held S) → wpQuiet P l.toArray (fun W => ∃ u : Held S, W = u.w) (fun a' => ∀ u : Held S, Q .normal a' u.w) l a) : (Code.region id l.toArray true).wp P Q a w :=
  wp_region_quiet (C := fun W => ∃ u : Held S, W = u.w) hm hB ⟨⟨w.drew, hS⟩, rfl⟩ (by
    have e : (fun a' => ∀ u : Held S, Q .normal a' u.w) = (fun a' => ∀ W, (∃ u : Held S, W = u.w) → Q .normal a' W) := by
      funext a'
      apply propext
      exact ⟨fun h W ⟨u, hu⟩ => hu ▸ h u, fun h u => h _ ⟨u, rfl⟩⟩
    have h' := h ⟨⟨w.drew, hS⟩⟩
    rw [e] at h'
    simpa using h')
/-- A call in such a region. -/
theorem calm_call {P : Program} {S : World → Prop} {f : FuncId} {args : Array Value} {u : Held S} {v : Value} {R : World → Prop} (h : Calls P f args u.w fun e w' => e = .returned v ∧ R w') (hS : ∀ w', S u.w → R w' → S w') :
    Calls P f args u.w fun e w'' => e = .returned v ∧ ∃ u' : Held S, w'' = u'.w :=
  h.mono fun _ w' ⟨he, hr⟩ => ⟨he, ⟨w', hS w' u.h hr⟩, rfl⟩
end Go.Proofs.YtinngljphjdpoaaGreatDoor.Pa
/- A region that draws its order, whose first operations each yield one value in all worlds that meet S (calls among them), and whose last ones come in one forced order behind all those. No program in sight. -/
namespace Go.Proofs.YtinngljphjdpoaaGreatDoor.Pq
open Go Go.RowKit Go.Proofs.YtinngljphjdpoaaGreatDoor.Pa
set_option linter.unusedVariables false
set_option linter.unusedSimpArgs false

section
variable {P : Program} {md : Region.Mode} {ops hd : Array Oper} {n : Nat} {listed L : Array Bool}
/-- The head's list of what has come up, beside the whole one. -/
structure Beside (listed L : Array Bool) (n : Nat) : Prop where
  size : L.size = n
  same : ∀ i, i < n → L[i]? = listed[i]?
theorem getD_of {i : Nat} {d : Bool} (h : L[i]? = listed[i]?) : L.getD i d = listed.getD i d := by simp [h]
theorem ready_head (ho : ∀ i, i < n → hd[i]? = ops[i]?) (inv : HeadInv md ops n listed) (hb : Beside listed L n) {i : Nat} (hi : i < n) : i ∈ Region.ready md ops listed ↔ i ∈ Region.ready md hd L := by
  have key : ∀ k, L.getD k false = listed.getD k false := by
    intro k
    by_cases hk : k < n
    · exact getD_of (hb.same k hk)
    · have h1 : L.getD k false = false := by simp [Array.getElem?_eq_none (show L.size ≤ k by rw [hb.size]; omega)]
      rw [h1]
      by_cases hs : k < ops.size
      · exact (getD_both (inv.tail k (by omega) hs)).symm
      · simp [Array.getElem?_eq_none (show listed.size ≤ k by rw [inv.size]; omega)]
  rw [mem_ready, mem_ready, getD_of (hb.same i hi), ho i hi]
  simp only [key]
theorem some_ready (hac : ∀ (j : Nat) (o : Oper), hd[j]? = some o → ∀ e ∈ o.after, e.on < j) (hsz : L.size ≤ hd.size) : ∀ i, i < L.size → L.getD i true = false → ∃ j, j ∈ Region.ready md hd L := by
  intro i
  induction i using Nat.strongRecOn with
  | _ i ih =>
    intro hi hun
    have ho : hd[i]? = some (hd[i]'(by omega)) := Array.getElem?_eq_getElem (by omega)
    by_cases hall : ∀ e ∈ (hd[i]'(by omega)).after, Region.binds md e = true → L.getD e.on false = true
    · exact ⟨i, mem_ready.2 ⟨hun, _, ho, hall⟩⟩
    · obtain ⟨e, h1⟩ := Classical.not_forall.1 hall
      obtain ⟨he, h2⟩ := Classical.not_forall.1 h1
      obtain ⟨hbd, h3⟩ := Classical.not_forall.1 h2
      have hlt := hac i _ ho e he
      refine ih e.on hlt (by omega) ?_
      have hx : e.on < L.size := by omega
      exact getD_in hx (by simpa using h3)
theorem count_set {i : Nat} {f : Nat} (hi : i < L.size) (hun : L.getD i true = false) (hc : L.toList.count false = f + 1) : (L.setIfInBounds i true).toList.count false = f := by
  have hl : L.toList[i]'(by simpa using hi) = false := by simpa [hi] using hun
  rw [Array.toList_setIfInBounds, List.count_set (by simpa using hi), hl, hc]
  simp
theorem any_of_head {C : World → Prop} {Qh : Act → Prop} {Q : Exit → Act → World → Prop} {g : Nat} (hs : Region.sinkB md ops n = true) (hc : Region.chainB md ops n = true) (hn : n < ops.size)
    (ho : ∀ i, i < n → hd[i]? = ops[i]?) (hsz : hd.size = n) (hgd : ∀ (i : Nat) (o : Oper), hd[i]? = some o → o.guard = none) (hac : ∀ (j : Nat) (o : Oper), hd[j]? = some o → ∀ e ∈ o.after, e.on < j)
    (htail : ∀ listed a w, listed.size = ops.size → (∀ i, i < n → listed[i]? = some true) → (∀ t, n ≤ t → t < ops.size → listed.getD t true = false) → C w → Qh a → wpAny P md ops Q g listed a w) :
    ∀ (f : Nat) (listed L : Array Bool) (a : Act) (w : World), HeadInv md ops n listed → Beside listed L n → L.toList.count false = f → C w → wpAnyQ P md hd C Qh f L a → wpAny P md ops Q (f + g) listed a w := by
  intro f
  induction f with
  | zero =>
    intro listed L a w inv hb hct hC h
    rw [Nat.zero_add]
    refine htail listed a w inv.size (fun i hi => ?_) inv.tail hC h.2
    have hiL : i < L.size := by rw [hb.size]; exact hi
    have hne : L[i] ≠ false := fun e => by
      have : false ∈ L.toList := by rw [← e]; simp
      exact absurd (List.count_pos_iff.2 this) (by omega)
    rw [← hb.same i hi, Array.getElem?_eq_getElem hiL]
    simpa using hne
  | succ f ih =>
    intro listed L a w inv hb hct hC h
    obtain ⟨i0, hi0, hun0⟩ : ∃ i, i < L.size ∧ L.getD i true = false := by
      have hm : false ∈ L.toList := List.count_pos_iff.1 (by omega)
      obtain ⟨i, hi, he⟩ := List.getElem_of_mem hm
      have hi' : i < L.size := by simpa using hi
      exact ⟨i, hi', by simpa [hi'] using he⟩
    have hi0n : i0 < n := by rw [← hb.size]; exact hi0
    have hunl : listed.getD i0 true = false := by rw [← getD_of (hb.same i0 hi0n)]; exact hun0
    rw [show f + 1 + g = (f + g) + 1 by omega]
    refine ⟨fun h0 => ?_, fun i hi => ?_⟩
    · obtain ⟨j, hj⟩ := some_ready (md := md) hac (by rw [hsz, hb.size]; exact Nat.le_refl _) i0 hi0 hun0
      have hjn : j < n := by
        obtain ⟨_, o, hoj, _⟩ := mem_ready.1 hj
        have := (Array.getElem?_eq_some_iff.1 hoj).1
        omega
      have := (ready_head ho inv hb hjn).2 hj
      rw [h0] at this
      cases this
    · have hin : i < n := by
        rcases Nat.lt_or_ge i n with h1 | h1
        · exact h1
        · exact absurd hi (tail_waits hs hc hn inv _ i0 rfl hi0n hunl i h1)
      have hi' := (ready_head ho inv hb hin).1 hi
      have hq := h.2 i hi'
      obtain ⟨hun, o, hoi, _⟩ := mem_ready.1 hi'
      have hgn := hgd i o hoi
      have hw : ∀ y, Region.wanted o y = true := fun y => by simp [Region.wanted, hgn]
      unfold qOp at hq
      simp only [hoi, hw, if_true] at hq
      unfold wpOp
      rw [← ho i hin, hoi]
      simp only [hw, if_true]
      refine .inl (Oper.wp_of_quiet hC (fun a' w' hw' hK => ?_) hq)
      refine ih (listed.setIfInBounds i true) (L.setIfInBounds i true) a' w' (inv.set hi hin) ⟨by simp [hb.size], fun k hk => ?_⟩ (count_set (by rw [hb.size]; exact hin) hun hct) hw' hK
      rw [Array.getElem?_setIfInBounds, Array.getElem?_setIfInBounds, hb.same k hk, hb.size, inv.size]
      by_cases hik : i = k
      · subst hik
        simp [hin, show i < ops.size by omega]
      · simp [hik]
/-- Is it such a region? -/
def tailB (l : List Oper) (n : Nat) : Bool :=
  decide (n < l.length) && Region.lexB .any (l.take n).toArray && Region.sinkB .any l.toArray n && Region.chainB .any l.toArray n &&
  ((l.take n).zipIdx.all fun x => x.1.guard.isNone && x.1.after.all fun e => decide (e.on < x.2)) &&
  Region.seqB .any l.toArray (l.length - n) n (Array.replicate n true ++ Array.replicate (l.length - n) false)
theorem wp_region_calm_tail {S : World → Prop} {id : Nat} {Q : Exit → Act → World → Prop} {a : Act} {w : World} {l : List Oper} (n : Nat) (hm : P.follows .mixedOrders = true) (hB : tailB l n = true)
    (hS : S w.drew) (h : Nonempty (Held S) → wpQuiet P (l.take n).toArray (fun W => ∃ u : Held S, W = u.w) (fun a' => ∀ u : Held S, wpList P l.toArray Q (l.drop n) a' u.w) (l.take n) a) : (Code.region id l.toArray true).wp P Q a w := by
  simp only [tailB, Bool.and_eq_true, decide_eq_true_eq] at hB
  obtain ⟨⟨⟨⟨⟨hn, hlex⟩, hs⟩, hc⟩, hall⟩, hseq⟩ := hB
  have hhead : ∀ (j : Nat) (o : Oper), (l.take n).toArray[j]? = some o → o.guard = none ∧ ∀ e ∈ o.after, e.on < j := by
    intro j o hj
    have hj' : (l.take n)[j]? = some o := by simpa using hj
    have hmem : (o, j) ∈ (l.take n).zipIdx := by
      rw [List.mem_iff_getElem?]
      exact ⟨j, by simp [List.getElem?_zipIdx, hj']⟩
    have := List.all_eq_true.1 hall _ hmem
    simp only [Bool.and_eq_true, Option.isNone_iff_eq_none] at this
    refine ⟨this.1, fun e he => ?_⟩
    have h2 := (Array.all_eq_true_iff_forall_mem.1 this.2) e he
    simpa using h2
  simp only [Region.lexB, Bool.and_eq_true] at hlex
  have htl : (l.take n).length = n := by simp; omega
  have hQ := wpAnyQ_lex (P := P) (C := fun W => ∃ u : Held S, W = u.w) (md := .any) hlex.1 (l.take n) 0 (Array.replicate (l.take n).toArray.size false) a (by simp) (by simpa using hlex.2) (h ⟨⟨w.drew, hS⟩⟩)
  refine wp_region_any hm ?_
  have hmain := any_of_head (P := P) (C := fun W => ∃ u : Held S, W = u.w) (Qh := fun a' => ∀ u : Held S, wpList P l.toArray Q (l.drop n) a' u.w) (md := .any) (ops := l.toArray) (hd := (l.take n).toArray) (n := n) (g := l.length - n) (Q := Q) hs hc (by simpa using hn)
    (fun i hi => by simp [List.getElem?_take, hi]) (by simp; omega) (fun i o hi => (hhead i o hi).1) (fun j o hj => (hhead j o hj).2)
    (fun listed a' w' hsz htrue hfalse hu hQh => by
      obtain ⟨u, rfl⟩ := hu
      have hl : listed = Array.replicate n true ++ Array.replicate (l.length - n) false := by
        apply Array.ext_getElem?
        intro i
        have hsz' : listed.size = l.length := by simpa using hsz
        by_cases hi : i < n
        · rw [htrue i hi, Array.getElem?_append_left (by simpa using hi)]
          simp [hi]
        · rw [Array.getElem?_append_right (by simp; omega)]
          by_cases hi2 : i < l.length
          · have h3 := hfalse i (by omega) (by simpa using hi2)
            have hil : i < listed.size := by omega
            have h4 : listed[i] = false := by simpa [hil] using h3
            rw [Array.getElem?_eq_getElem hil, h4, Array.getElem?_replicate, if_pos (by simp only [Array.size_replicate]; omega)]
          · rw [Array.getElem?_eq_none (by omega), Array.getElem?_eq_none (by simp; omega)]
      subst hl
      have := wpAny_of_seq (P := P) (md := .any) (Q' := Q) (l.drop n) n _ a' u.w (fun j => by simp [List.getElem?_drop]) (by simpa using hseq) (hQh u)
      simpa using this)
    n (Array.replicate l.toArray.size false) (Array.replicate n false) a { w with drawn := w.drawn + 1 }
    ⟨by simp, fun j oj _ hl => (by rw [getD_replicate_false] at hl; cases hl), fun t _ ht => getD_in (by simpa using ht) (getD_replicate_false _ _)⟩
    ⟨by simp, fun i hi => by simp [hi, show i < l.length by omega]⟩ (by simp) ⟨⟨w.drew, hS⟩, rfl⟩ (by simpa [htl] using hQ)
  rw [show n + (l.length - n) = l.toArray.size by simp; omega] at hmain
  exact hmain
end
end Go.Proofs.YtinngljphjdpoaaGreatDoor.Pq
/- A region that draws its order and whose last operations come in one forced order behind all others: parted in two. No program in sight. -/
namespace Go.Proofs.YtinngljphjdpoaaGreatDoor.Rg
open Go Go.RowKit Go.Proofs.YtinngljphjdpoaaGreatDoor.Pa Go.Proofs.YtinngljphjdpoaaGreatDoor.Pq
set_option linter.unusedVariables false
set_option linter.unusedSimpArgs false
section
variable {P : Program} {md : Region.Mode} {ops hd : Array Oper} {n : Nat} {listed L : Array Bool}
theorem wp_both {o : Oper} {a : Act} {w : World} {K K' : Act → World → Prop} {Q Q' : Exit → Act → World → Prop} (h : ∀ a w, K a w → K' a w) (hq : ∀ e a w, e ≠ .normal → Q e a w → Q' e a w) (hl : LetsOut Q → LetsOut Q')
    (hh : o.wp P a w K Q) : o.wp P a w K' Q' := by
  unfold Oper.wp at *
  generalize (execOp a.eval o).run P w = r at *
  cases r with
  | ok n w' =>
    cases n <;> simp only [Oper.upon] at hh ⊢
    case value v => exact h _ _ hh
    case skip => exact h _ _ hh
    case defer d => exact h _ _ hh
    case enter f args =>
      refine Calls.mono hh fun e w'' he => ?_
      cases e with
      | returned u => exact h _ _ he
      | panicked c => exact hq _ _ _ (by simp) he
      | outgrown => exact hl he
    case row row args => exact Rows.mono hh fun u w'' he => h _ _ he
  | halt x w' =>
    cases x <;> simp only [Oper.upon] at hh ⊢
    case panic u => exact hq _ _ _ (by simp) hh
theorem any_of_any {Q Qs : Exit → Act → World → Prop} {g : Nat} (hs : Region.sinkB md ops n = true) (hc : Region.chainB md ops n = true) (hn : n < ops.size)
    (ho : ∀ i, i < n → hd[i]? = ops[i]?) (hsz : hd.size = n) (hgd : ∀ (i : Nat) (o : Oper), hd[i]? = some o → o.guard = none) (hac : ∀ (j : Nat) (o : Oper), hd[j]? = some o → ∀ e ∈ o.after, e.on < j)
    (hq : ∀ e a w, e ≠ .normal → Qs e a w → Q e a w) (hl : LetsOut Qs → LetsOut Q)
    (htail : ∀ listed a w, listed.size = ops.size → (∀ i, i < n → listed[i]? = some true) → (∀ t, n ≤ t → t < ops.size → listed.getD t true = false) → Qs .normal a w → wpAny P md ops Q g listed a w) :
    ∀ (f : Nat) (listed L : Array Bool) (a : Act) (w : World), HeadInv md ops n listed → Beside listed L n → L.toList.count false = f → wpAny P md hd Qs f L a w → wpAny P md ops Q (f + g) listed a w := by
  intro f
  induction f with
  | zero =>
    intro listed L a w inv hb hct h
    rw [Nat.zero_add]
    refine htail listed a w inv.size (fun i hi => ?_) inv.tail h.2
    have hiL : i < L.size := by rw [hb.size]; exact hi
    have hne : L[i] ≠ false := fun e => by
      have : false ∈ L.toList := by rw [← e]; simp
      exact absurd (List.count_pos_iff.2 this) (by omega)
    rw [← hb.same i hi, Array.getElem?_eq_getElem hiL]
    simpa using hne
  | succ f ih =>
    intro listed L a w inv hb hct h
    obtain ⟨i0, hi0, hun0⟩ : ∃ i, i < L.size ∧ L.getD i true = false := by
      have hm : false ∈ L.toList := List.count_pos_iff.1 (by omega)
      obtain ⟨i, hi, he⟩ := List.getElem_of_mem hm
      have hi' : i < L.size := by simpa using hi
      exact ⟨i, hi', by simpa [hi'] using he⟩
    have hi0n : i0 < n := by rw [← hb.size]; exact hi0
    have hunl : listed.getD i0 true = false := by rw [← getD_of (hb.same i0 hi0n)]; exact hun0
    rw [show f + 1 + g = (f + g) + 1 by omega]
    refine ⟨fun h0 => ?_, fun i hi => ?_⟩
    · obtain ⟨j, hj⟩ := some_ready (md := md) hac (by rw [hsz, hb.size]; exact Nat.le_refl _) i0 hi0 hun0
      have hjn : j < n := by
        obtain ⟨_, o, hoj, _⟩ := mem_ready.1 hj
        have := (Array.getElem?_eq_some_iff.1 hoj).1
        omega
      have := (ready_head ho inv hb hjn).2 hj
      rw [h0] at this
      cases this
    · have hin : i < n := by
        rcases Nat.lt_or_ge i n with h1 | h1
        · exact h1
        · exact absurd hi (tail_waits hs hc hn inv _ i0 rfl hi0n hunl i h1)
      have hi' := (ready_head ho inv hb hin).1 hi
      have hop := h.2 i hi'
      obtain ⟨hun, o, hoi, _⟩ := mem_ready.1 hi'
      have hgn := hgd i o hoi
      have hw : ∀ y, Region.wanted o y = true := fun y => by simp [Region.wanted, hgn]
      unfold wpOp at hop ⊢
      rw [← ho i hin]
      simp only [hoi, hw, if_true] at hop ⊢
      rcases hop with hop | ⟨h1, h2⟩
      · refine .inl (wp_both (fun a' w' hK => ?_) hq hl hop)
        refine ih (listed.setIfInBounds i true) (L.setIfInBounds i true) a' w' (inv.set hi hin) ⟨by simp [hb.size], fun k hk => ?_⟩ (count_set (by rw [hb.size]; exact hin) hun hct) hK
        rw [Array.getElem?_setIfInBounds, Array.getElem?_setIfInBounds, hb.same k hk, hb.size, inv.size]
        by_cases hik : i = k
        · subst hik
          simp [hin, show i < ops.size by omega]
        · simp [hik]
      · exact .inr ⟨h1, hl h2⟩
/-- Is it such a region? -/
def splitB (l : List Oper) (n : Nat) : Bool :=
  decide (n < l.length) && Region.sinkB .any l.toArray n && Region.chainB .any l.toArray n &&
  ((l.take n).zipIdx.all fun x => x.1.guard.isNone && x.1.after.all fun e => decide (e.on < x.2)) &&
  Region.seqB .any l.toArray (l.length - n) n (Array.replicate n true ++ Array.replicate (l.length - n) false)
/-- What is asked behind the head: the tail, in its order. -/
def tailQ (P : Program) (l : List Oper) (n : Nat) (Q : Exit → Act → World → Prop) : Exit → Act → World → Prop
  | .normal, a, w => wpList P l.toArray Q (l.drop n) a w
  | e, a, w => Q e a w
theorem wp_region_split {id : Nat} {Q : Exit → Act → World → Prop} {a : Act} {w : World} {l : List Oper} (S : World → Prop) (n : Nat) (hm : P.follows .mixedOrders = true) (hB : splitB l n = true)
    (h : wpAnyH P .any (l.take n).toArray (tailQ P l n Q) S n (Array.replicate n false) a w.drew) : (Code.region id l.toArray true).wp P Q a w := by
  simp only [splitB, Bool.and_eq_true, decide_eq_true_eq] at hB
  obtain ⟨⟨⟨⟨hn, hs⟩, hc⟩, hall⟩, hseq⟩ := hB
  have hhead : ∀ (j : Nat) (o : Oper), (l.take n).toArray[j]? = some o → o.guard = none ∧ ∀ e ∈ o.after, e.on < j := by
    intro j o hj
    have hj' : (l.take n)[j]? = some o := by simpa using hj
    have hmem : (o, j) ∈ (l.take n).zipIdx := by
      rw [List.mem_iff_getElem?]
      exact ⟨j, by simp [List.getElem?_zipIdx, hj']⟩
    have := List.all_eq_true.1 hall _ hmem
    simp only [Bool.and_eq_true, Option.isNone_iff_eq_none] at this
    refine ⟨this.1, fun e he => ?_⟩
    have h2 := (Array.all_eq_true_iff_forall_mem.1 this.2) e he
    simpa using h2
  refine wp_region_any hm ?_
  have hmain := any_of_any (P := P) (Q := Q) (Qs := tailQ P l n Q) (md := .any) (ops := l.toArray) (hd := (l.take n).toArray) (n := n) (g := l.length - n) hs hc (by simpa using hn)
    (fun i hi => by simp [List.getElem?_take, hi]) (by simp; omega) (fun i o hi => (hhead i o hi).1) (fun j o hj => (hhead j o hj).2)
    (fun e a w he h => by cases e <;> first | exact absurd rfl he | exact h) (fun h => h)
    (fun listed a' w' hsz htrue hfalse hQh => by
      have hl : listed = Array.replicate n true ++ Array.replicate (l.length - n) false := by
        apply Array.ext_getElem?
        intro i
        have hsz' : listed.size = l.length := by simpa using hsz
        by_cases hi : i < n
        · rw [htrue i hi, Array.getElem?_append_left (by simpa using hi)]
          simp [hi]
        · rw [Array.getElem?_append_right (by simp; omega)]
          by_cases hi2 : i < l.length
          · have h3 := hfalse i (by omega) (by simpa using hi2)
            have hil : i < listed.size := by omega
            have h4 : listed[i] = false := by simpa [hil] using h3
            rw [Array.getElem?_eq_getElem hil, h4, Array.getElem?_replicate, if_pos (by simp only [Array.size_replicate]; omega)]
          · rw [Array.getElem?_eq_none (by omega), Array.getElem?_eq_none (by simp; omega)]
      subst hl
      have := wpAny_of_seq (P := P) (md := .any) (Q' := Q) (l.drop n) n _ a' w' (fun j => by simp [List.getElem?_drop]) (by simpa using hseq) hQh
      simpa using this)
    n (Array.replicate l.toArray.size false) (Array.replicate n false) a w.drew
    ⟨by simp, fun j oj _ hl => (by rw [getD_replicate_false] at hl; cases hl), fun t _ ht => getD_in (by simpa using ht) (getD_replicate_false _ _)⟩
    ⟨by simp, fun i hi => by simp [hi, show i < l.length by omega]⟩ (by simp) (wpAny_of_held _ _ _ _ h)
  rw [show n + (l.length - n) = l.toArray.size by simp; omega] at hmain
  exact hmain
/-- Number i comes up next, and no other can. -/
theorem anyH_one {Q : Exit → Act → World → Prop} {S : World → Prop} {i : Nat} {o : Oper} {fuel : Nat} {a : Act} {w : World} (hr : Region.ready md ops listed = [i]) (ho : ops[i]? = some o) (hg : o.guard = none)
    (h : ∀ K : Act → World → Prop, Shut (∀ a w, S w → wpAnyH P md ops Q S fuel (listed.setIfInBounds i true) a w → K a w) → Oper.wp P o a w K Q) : wpAnyH P md ops Q S (fuel + 1) listed a w := by
  refine wpAnyH_ready hr (by simp) (AllReadyH.cons ho (fun K hK => ?_) AllReadyH.nil)
  rw [if_pos (by simp [Region.wanted, hg])]
  exact h K (fun a w hS hW => hK.out a w hS (fun _ => hW))
end
end Go.Proofs.YtinngljphjdpoaaGreatDoor.Rg
