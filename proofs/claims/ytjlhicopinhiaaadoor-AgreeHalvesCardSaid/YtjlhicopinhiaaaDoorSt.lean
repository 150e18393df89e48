/- hash.Hash as a Lean structure (printed by gen_types.py out of hash.types). No conditions. -/
import Derived.Test.YtjlhicopinhiaaaDoorSf
namespace Go.Proofs.YtjlhicopinhiaaaDoor.St
open Go Go.RowKit Go.Proofs.YtjlhicopinhiaaaDoor.Pa Go.Proofs.YtjlhicopinhiaaaDoor.Sv
set_option linter.unusedSimpArgs false

/-! ### Hash -/
@[ext] structure Hash where
  words : Vector UInt32 8
  rest : Value
  size : Int
def Hash.c (x : Hash) : Array Value := uv x.words ++ (o1 (x.rest) ++ (o1 (.int .u64 x.size)))
@[simp, go_sem] theorem Hash.c_size (x : Hash) : x.c.size = 10 := by simp only [Hash.c, bv_size, wv_size, o1_size, Array.size_append, ex_tail, ex_head, ex_all, at_tail, at_head, at_one, set_tail, set_head, set_one, put_tail, put_head, put_all, Nat.reduceAdd, Nat.reduceSub, Nat.reduceLeDiff, Nat.le_refl, Nat.sub_self, Nat.zero_le, Nat.sub_zero, Nat.add_zero, Nat.zero_add, uv_size]
@[simp, go_sem] theorem Hash.c_ones (x : Hash) (h_rest : x.rest.oneCell' = true) : ones x.c = true := by simpa [Hash.c, Value.oneCell'] using h_rest
@[simp, go_sem] theorem Hash.get_words (x : Hash) : x.c.extract 0 8 = uv x.words := by simp only [Hash.c, bv_size, wv_size, o1_size, Array.size_append, ex_tail, ex_head, ex_all, at_tail, at_head, at_one, set_tail, set_head, set_one, put_tail, put_head, put_all, Nat.reduceAdd, Nat.reduceSub, Nat.reduceLeDiff, Nat.le_refl, Nat.sub_self, Nat.zero_le, Nat.sub_zero, Nat.add_zero, Nat.zero_add, uv_size]
@[simp, go_sem] theorem Hash.put_words (x : Hash) (y : Vector UInt32 8) : putR x.c 0 (uv y) = { x with words := y }.c := by simp only [Hash.c, bv_size, wv_size, o1_size, Array.size_append, ex_tail, ex_head, ex_all, at_tail, at_head, at_one, set_tail, set_head, set_one, put_tail, put_head, put_all, Nat.reduceAdd, Nat.reduceSub, Nat.reduceLeDiff, Nat.le_refl, Nat.sub_self, Nat.zero_le, Nat.sub_zero, Nat.add_zero, Nat.zero_add, uv_size]
@[simp, go_sem] theorem Hash.at_rest (x : Hash) : x.c[8]? = some (x.rest) := by simp only [Hash.c, bv_size, wv_size, o1_size, Array.size_append, ex_tail, ex_head, ex_all, at_tail, at_head, at_one, set_tail, set_head, set_one, put_tail, put_head, put_all, Nat.reduceAdd, Nat.reduceSub, Nat.reduceLeDiff, Nat.le_refl, Nat.sub_self, Nat.zero_le, Nat.sub_zero, Nat.add_zero, Nat.zero_add, uv_size]
@[simp, go_sem] theorem Hash.ge_rest (x : Hash) (h : 8 < x.c.size) : x.c[8]'h = (x.rest) := by have := Hash.at_rest x; rw [Array.getElem?_eq_getElem h] at this; exact Option.some.inj this
@[simp, go_sem] theorem Hash.set_rest (x : Hash) (y : Value) : x.c.setIfInBounds 8 (y) = { x with rest := y }.c := by simp only [Hash.c, bv_size, wv_size, o1_size, Array.size_append, ex_tail, ex_head, ex_all, at_tail, at_head, at_one, set_tail, set_head, set_one, put_tail, put_head, put_all, Nat.reduceAdd, Nat.reduceSub, Nat.reduceLeDiff, Nat.le_refl, Nat.sub_self, Nat.zero_le, Nat.sub_zero, Nat.add_zero, Nat.zero_add, uv_size]
@[simp, go_sem] theorem Hash.get_rest (x : Hash) : x.c.extract 8 9 = o1 (x.rest) := by simp only [Hash.c, bv_size, wv_size, o1_size, Array.size_append, ex_tail, ex_head, ex_all, at_tail, at_head, at_one, set_tail, set_head, set_one, put_tail, put_head, put_all, Nat.reduceAdd, Nat.reduceSub, Nat.reduceLeDiff, Nat.le_refl, Nat.sub_self, Nat.zero_le, Nat.sub_zero, Nat.add_zero, Nat.zero_add, uv_size]
@[simp, go_sem] theorem Hash.put_rest (x : Hash) (y : Value) : putR x.c 8 (o1 (y)) = { x with rest := y }.c := by simp only [Hash.c, bv_size, wv_size, o1_size, Array.size_append, ex_tail, ex_head, ex_all, at_tail, at_head, at_one, set_tail, set_head, set_one, put_tail, put_head, put_all, Nat.reduceAdd, Nat.reduceSub, Nat.reduceLeDiff, Nat.le_refl, Nat.sub_self, Nat.zero_le, Nat.sub_zero, Nat.add_zero, Nat.zero_add, uv_size]
@[simp, go_sem] theorem Hash.at_size (x : Hash) : x.c[9]? = some (.int .u64 x.size) := by simp only [Hash.c, bv_size, wv_size, o1_size, Array.size_append, ex_tail, ex_head, ex_all, at_tail, at_head, at_one, set_tail, set_head, set_one, put_tail, put_head, put_all, Nat.reduceAdd, Nat.reduceSub, Nat.reduceLeDiff, Nat.le_refl, Nat.sub_self, Nat.zero_le, Nat.sub_zero, Nat.add_zero, Nat.zero_add, uv_size]
@[simp, go_sem] theorem Hash.ge_size (x : Hash) (h : 9 < x.c.size) : x.c[9]'h = (.int .u64 x.size) := by have := Hash.at_size x; rw [Array.getElem?_eq_getElem h] at this; exact Option.some.inj this
@[simp, go_sem] theorem Hash.set_size (x : Hash) (y : Int) : x.c.setIfInBounds 9 (.int .u64 y) = { x with size := y }.c := by simp only [Hash.c, bv_size, wv_size, o1_size, Array.size_append, ex_tail, ex_head, ex_all, at_tail, at_head, at_one, set_tail, set_head, set_one, put_tail, put_head, put_all, Nat.reduceAdd, Nat.reduceSub, Nat.reduceLeDiff, Nat.le_refl, Nat.sub_self, Nat.zero_le, Nat.sub_zero, Nat.add_zero, Nat.zero_add, uv_size]
@[simp, go_sem] theorem Hash.get_size (x : Hash) : x.c.extract 9 10 = o1 (.int .u64 x.size) := by simp only [Hash.c, bv_size, wv_size, o1_size, Array.size_append, ex_tail, ex_head, ex_all, at_tail, at_head, at_one, set_tail, set_head, set_one, put_tail, put_head, put_all, Nat.reduceAdd, Nat.reduceSub, Nat.reduceLeDiff, Nat.le_refl, Nat.sub_self, Nat.zero_le, Nat.sub_zero, Nat.add_zero, Nat.zero_add, uv_size]
@[simp, go_sem] theorem Hash.put_size (x : Hash) (y : Int) : putR x.c 9 (o1 (.int .u64 y)) = { x with size := y }.c := by simp only [Hash.c, bv_size, wv_size, o1_size, Array.size_append, ex_tail, ex_head, ex_all, at_tail, at_head, at_one, set_tail, set_head, set_one, put_tail, put_head, put_all, Nat.reduceAdd, Nat.reduceSub, Nat.reduceLeDiff, Nat.le_refl, Nat.sub_self, Nat.zero_le, Nat.sub_zero, Nat.add_zero, Nat.zero_add, uv_size]
@[simp, go_sem] theorem Hash.get_all (x : Hash) : x.c.extract 0 10 = x.c := ex_all _ _ (by simp)
@[simp, go_sem] theorem Hash.put_all (x y : Hash) : putR x.c 0 y.c = y.c := Pa.put_all _ _ (by simp)
def Hash.zero : Hash := ⟨(Vector.replicate 8 0), (.slice none 0 0), 0⟩
@[go_sem ↓] theorem ldxHash (x : Value) : Instr.loadAt 49 x = loadX 49 x := rfl
@[go_sem] theorem ldHash (w : World) (b o : Nat) : (loadX 49 (.pointer (some ⟨b, o, none⟩))).run Tryd.prog w = readR w b o 10 ((loadZ 49 (.pointer (some ⟨b, o, none⟩))).run Tryd.prog w) := load_agg w _ 10 _ Tryd.underlying49 rfl (by kernel_rfl) b o
@[go_sem ↓] theorem stxHash (x v : Value) : Instr.storeAt 49 x v = storeX 49 x v := rfl
@[go_sem] theorem stHash (w : World) (b o : Nat) (v : Array Value) : (storeX 49 (.pointer (some ⟨b, o, none⟩)) (.agg v)).run Tryd.prog w = writeR w b o 10 v ((storeZ 49 (.pointer (some ⟨b, o, none⟩)) (.agg v)).run Tryd.prog w) := store_agg w _ 10 (by kernel_rfl) b o v
@[go_sem ↓] theorem ldvHash (x : Addr) : loadVar 49 x = loadX 49 (.pointer (some x)) := rfl
@[go_sem ↓] theorem zvxHash : zeroValue 49 = zeroX 49 := rfl
@[go_sem] theorem zvHash (w : World) : (zeroX 49).run Tryd.prog w = .ok (.agg Hash.zero.c) w := by kernel_rfl
@[go_sem ↓] theorem bdxHash (x : Array (Nat × Value)) : Instr.build 49 x = buildX 49 x := rfl
@[go_sem] theorem bdHash (w : World) (x : Array (Nat × Value)) : (buildX 49 x).run Tryd.prog w = buildR w (fillX (fun i => #[(0, 8), (8, 1), (9, 1)][i]?) Hash.zero.c x.toList) := build_struct w 49 _ #[(0, 8), (8, 1), (9, 1)] _ x Tryd.underlying49 (zvHash w) (by kernel_rfl)
theorem riHash (x : Hash) : (Tryd.prog.info? 49).map (·.size) = some x.c.size := by rw [Hash.c_size]; kernel_rfl

end Go.Proofs.YtjlhicopinhiaaaDoor.St
