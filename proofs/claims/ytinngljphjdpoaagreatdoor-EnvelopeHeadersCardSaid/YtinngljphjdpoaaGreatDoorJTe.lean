/- The structs of the program that hold arrays, as Lean structures: their cells, and the laws of reading and writing a part. No conditions. -/
import Derived.Test.YtinngljphjdpoaaGreatDoorProg
import Derived.Test.YtinngljphjdpoaaGreatDoorJPa
namespace Go.Proofs.YtinngljphjdpoaaGreatDoor.Ty
open Go Go.RowKit Go.Proofs.YtinngljphjdpoaaGreatDoor.Pa
set_option linter.unusedSimpArgs false

@[go_sem ↓] theorem ldxKey (x : Value) : Instr.loadAt 47 x = loadX 47 x := rfl
@[go_sem] theorem ldKey (w : World) (b o : Nat) : (loadX 47 (.pointer (some ⟨b, o, none⟩))).run Tryz.prog w = readR w b o 32 ((loadZ 47 (.pointer (some ⟨b, o, none⟩))).run Tryz.prog w) := load_agg w _ 32 _ Tryz.underlying47 rfl (by kernel_rfl) b o
@[go_sem ↓] theorem stxKey (x v : Value) : Instr.storeAt 47 x v = storeX 47 x v := rfl
@[go_sem] theorem stKey (w : World) (b o : Nat) (v : Array Value) : (storeX 47 (.pointer (some ⟨b, o, none⟩)) (.agg v)).run Tryz.prog w = writeR w b o 32 v ((storeZ 47 (.pointer (some ⟨b, o, none⟩)) (.agg v)).run Tryz.prog w) := store_agg w _ 32 (by kernel_rfl) b o v
@[go_sem ↓] theorem ldvKey (x : Addr) : loadVar 47 x = loadX 47 (.pointer (some x)) := rfl
@[go_sem ↓] theorem zvxKey : zeroValue 47 = zeroX 47 := rfl
@[go_sem] theorem zvKey (w : World) : (zeroX 47).run Tryz.prog w = .ok (.agg (bv (Vector.replicate 32 0))) w := by kernel_rfl

theorem riKey (x : Vector UInt8 32) : (Tryz.prog.info? 47).map (·.size) = some (bv x).size := by rw [bv_size]; kernel_rfl
@[go_sem ↓] theorem eqxKey (x y : Value) : binOp .eql 47 x y = eqX 47 x y := rfl
@[go_sem ↓] theorem nexKey (x y : Value) : binOp .neq 47 x y = neX 47 x y := rfl
theorem eqiKey (d : Nat) (w : World) (x y : Vector UInt8 32) : (Op.equalIn (d + 2) 47 (.agg (bv x)) (.agg (bv y))).run Tryz.prog w = .ok (decide (x = y)) w := run_equalIn_bytes w d Tryz.underlying47 Tryz.underlying5 (by kernel_rfl) x y
@[go_sem] theorem eqKey (w : World) (x y : Vector UInt8 32) : (eqX 47 (.agg (bv x)) (.agg (bv y))).run Tryz.prog w = .ok (.bool (decide (x = y))) w := run_eqX w _ _ _ (eqiKey _ w x y)
@[go_sem] theorem neKey (w : World) (x y : Vector UInt8 32) : (neX 47 (.agg (bv x)) (.agg (bv y))).run Tryz.prog w = .ok (.bool (!decide (x = y))) w := run_neX w _ _ _ (eqiKey _ w x y)
/-! ### Header -/
@[ext] structure Header where
  Public : Vector UInt8 32
  Prev : Int
  N : Int
  deriving DecidableEq
def Header.c (x : Header) : Array Value := bv x.Public ++ (o1 (.int .u32 x.Prev) ++ (o1 (.int .u32 x.N)))
@[simp, go_sem] theorem Header.c_size (x : Header) : x.c.size = 34 := by simp only [Header.c, bv_size, wv_size, o1_size, Array.size_append, ex_tail, ex_head, ex_all, at_tail, at_head, at_one, set_tail, set_head, set_one, put_tail, put_head, put_all, Nat.reduceAdd, Nat.reduceSub, Nat.reduceLeDiff, Nat.le_refl, Nat.sub_self, Nat.zero_le, Nat.sub_zero, Nat.add_zero, Nat.zero_add, Nat.add_zero]
@[simp, go_sem] theorem Header.c_ones (x : Header) : ones x.c = true := by simp [Header.c, Value.oneCell']
@[simp, go_sem] theorem Header.get_Public (x : Header) : x.c.extract 0 32 = bv x.Public := by simp only [Header.c, bv_size, wv_size, o1_size, Array.size_append, ex_tail, ex_head, ex_all, at_tail, at_head, at_one, set_tail, set_head, set_one, put_tail, put_head, put_all, Nat.reduceAdd, Nat.reduceSub, Nat.reduceLeDiff, Nat.le_refl, Nat.sub_self, Nat.zero_le, Nat.sub_zero, Nat.add_zero, Nat.zero_add, Nat.add_zero]
@[simp, go_sem] theorem Header.put_Public (x : Header) (y : Vector UInt8 32) : putR x.c 0 (bv y) = { x with Public := y }.c := by simp only [Header.c, bv_size, wv_size, o1_size, Array.size_append, ex_tail, ex_head, ex_all, at_tail, at_head, at_one, set_tail, set_head, set_one, put_tail, put_head, put_all, Nat.reduceAdd, Nat.reduceSub, Nat.reduceLeDiff, Nat.le_refl, Nat.sub_self, Nat.zero_le, Nat.sub_zero, Nat.add_zero, Nat.zero_add, Nat.add_zero]
@[simp, go_sem] theorem Header.at_Prev (x : Header) : x.c[32]? = some (.int .u32 x.Prev) := by simp only [Header.c, bv_size, wv_size, o1_size, Array.size_append, ex_tail, ex_head, ex_all, at_tail, at_head, at_one, set_tail, set_head, set_one, put_tail, put_head, put_all, Nat.reduceAdd, Nat.reduceSub, Nat.reduceLeDiff, Nat.le_refl, Nat.sub_self, Nat.zero_le, Nat.sub_zero, Nat.add_zero, Nat.zero_add, Nat.add_zero]
@[simp, go_sem] theorem Header.ge_Prev (x : Header) (h : 32 < x.c.size) : x.c[32]'h = (.int .u32 x.Prev) := by have := Header.at_Prev x; rw [Array.getElem?_eq_getElem h] at this; exact Option.some.inj this
@[simp, go_sem] theorem Header.set_Prev (x : Header) (y : Int) : x.c.setIfInBounds 32 (.int .u32 y) = { x with Prev := y }.c := by simp only [Header.c, bv_size, wv_size, o1_size, Array.size_append, ex_tail, ex_head, ex_all, at_tail, at_head, at_one, set_tail, set_head, set_one, put_tail, put_head, put_all, Nat.reduceAdd, Nat.reduceSub, Nat.reduceLeDiff, Nat.le_refl, Nat.sub_self, Nat.zero_le, Nat.sub_zero, Nat.add_zero, Nat.zero_add, Nat.add_zero]
@[simp, go_sem] theorem Header.get_Prev (x : Header) : x.c.extract 32 33 = o1 (.int .u32 x.Prev) := by simp only [Header.c, bv_size, wv_size, o1_size, Array.size_append, ex_tail, ex_head, ex_all, at_tail, at_head, at_one, set_tail, set_head, set_one, put_tail, put_head, put_all, Nat.reduceAdd, Nat.reduceSub, Nat.reduceLeDiff, Nat.le_refl, Nat.sub_self, Nat.zero_le, Nat.sub_zero, Nat.add_zero, Nat.zero_add, Nat.add_zero]
@[simp, go_sem] theorem Header.put_Prev (x : Header) (y : Int) : putR x.c 32 (o1 (.int .u32 y)) = { x with Prev := y }.c := by simp only [Header.c, bv_size, wv_size, o1_size, Array.size_append, ex_tail, ex_head, ex_all, at_tail, at_head, at_one, set_tail, set_head, set_one, put_tail, put_head, put_all, Nat.reduceAdd, Nat.reduceSub, Nat.reduceLeDiff, Nat.le_refl, Nat.sub_self, Nat.zero_le, Nat.sub_zero, Nat.add_zero, Nat.zero_add, Nat.add_zero]
@[simp, go_sem] theorem Header.at_N (x : Header) : x.c[33]? = some (.int .u32 x.N) := by simp only [Header.c, bv_size, wv_size, o1_size, Array.size_append, ex_tail, ex_head, ex_all, at_tail, at_head, at_one, set_tail, set_head, set_one, put_tail, put_head, put_all, Nat.reduceAdd, Nat.reduceSub, Nat.reduceLeDiff, Nat.le_refl, Nat.sub_self, Nat.zero_le, Nat.sub_zero, Nat.add_zero, Nat.zero_add, Nat.add_zero]
@[simp, go_sem] theorem Header.ge_N (x : Header) (h : 33 < x.c.size) : x.c[33]'h = (.int .u32 x.N) := by have := Header.at_N x; rw [Array.getElem?_eq_getElem h] at this; exact Option.some.inj this
@[simp, go_sem] theorem Header.set_N (x : Header) (y : Int) : x.c.setIfInBounds 33 (.int .u32 y) = { x with N := y }.c := by simp only [Header.c, bv_size, wv_size, o1_size, Array.size_append, ex_tail, ex_head, ex_all, at_tail, at_head, at_one, set_tail, set_head, set_one, put_tail, put_head, put_all, Nat.reduceAdd, Nat.reduceSub, Nat.reduceLeDiff, Nat.le_refl, Nat.sub_self, Nat.zero_le, Nat.sub_zero, Nat.add_zero, Nat.zero_add, Nat.add_zero]
@[simp, go_sem] theorem Header.get_N (x : Header) : x.c.extract 33 34 = o1 (.int .u32 x.N) := by simp only [Header.c, bv_size, wv_size, o1_size, Array.size_append, ex_tail, ex_head, ex_all, at_tail, at_head, at_one, set_tail, set_head, set_one, put_tail, put_head, put_all, Nat.reduceAdd, Nat.reduceSub, Nat.reduceLeDiff, Nat.le_refl, Nat.sub_self, Nat.zero_le, Nat.sub_zero, Nat.add_zero, Nat.zero_add, Nat.add_zero]
@[simp, go_sem] theorem Header.put_N (x : Header) (y : Int) : putR x.c 33 (o1 (.int .u32 y)) = { x with N := y }.c := by simp only [Header.c, bv_size, wv_size, o1_size, Array.size_append, ex_tail, ex_head, ex_all, at_tail, at_head, at_one, set_tail, set_head, set_one, put_tail, put_head, put_all, Nat.reduceAdd, Nat.reduceSub, Nat.reduceLeDiff, Nat.le_refl, Nat.sub_self, Nat.zero_le, Nat.sub_zero, Nat.add_zero, Nat.zero_add, Nat.add_zero]
@[simp, go_sem] theorem Header.get_all (x : Header) : x.c.extract 0 34 = x.c := ex_all _ _ (by simp)
@[simp, go_sem] theorem Header.put_all (x y : Header) : putR x.c 0 y.c = y.c := Pa.put_all _ _ (by simp)
def Header.zero : Header := ⟨(Vector.replicate 32 0), 0, 0⟩
@[go_sem ↓] theorem ldxHeader (x : Value) : Instr.loadAt 57 x = loadX 57 x := rfl
@[go_sem] theorem ldHeader (w : World) (b o : Nat) : (loadX 57 (.pointer (some ⟨b, o, none⟩))).run Tryz.prog w = readR w b o 34 ((loadZ 57 (.pointer (some ⟨b, o, none⟩))).run Tryz.prog w) := load_agg w _ 34 _ Tryz.underlying57 rfl (by kernel_rfl) b o
@[go_sem ↓] theorem stxHeader (x v : Value) : Instr.storeAt 57 x v = storeX 57 x v := rfl
@[go_sem] theorem stHeader (w : World) (b o : Nat) (v : Array Value) : (storeX 57 (.pointer (some ⟨b, o, none⟩)) (.agg v)).run Tryz.prog w = writeR w b o 34 v ((storeZ 57 (.pointer (some ⟨b, o, none⟩)) (.agg v)).run Tryz.prog w) := store_agg w _ 34 (by kernel_rfl) b o v
@[go_sem ↓] theorem ldvHeader (x : Addr) : loadVar 57 x = loadX 57 (.pointer (some x)) := rfl
@[go_sem ↓] theorem zvxHeader : zeroValue 57 = zeroX 57 := rfl
@[go_sem] theorem zvHeader (w : World) : (zeroX 57).run Tryz.prog w = .ok (.agg Header.zero.c) w := by kernel_rfl
@[go_sem ↓] theorem bdxHeader (x : Array (Nat × Value)) : Instr.build 57 x = buildX 57 x := rfl
@[go_sem] theorem bdHeader (w : World) (x : Array (Nat × Value)) : (buildX 57 x).run Tryz.prog w = buildR w (fillX (fun i => #[(0, 32), (32, 1), (33, 1)][i]?) Header.zero.c x.toList) := build_struct w 57 _ #[(0, 32), (32, 1), (33, 1)] _ x Tryz.underlying57 (zvHeader w) (by kernel_rfl)
@[go_sem ↓] theorem eqxHeader (x y : Value) : binOp .eql 57 x y = eqX 57 x y := rfl
@[go_sem ↓] theorem nexHeader (x y : Value) : binOp .neq 57 x y = neX 57 x y := rfl
theorem eqiHeader (d : Nat) (w : World) (x y : Header) : (Op.equalIn (d + 3) 57 (.agg x.c) (.agg y.c)).run Tryz.prog w = .ok (decide (x = y)) w := by
  rw [run_equalIn_agg w (d + 2) 57 x.c y.c (by simp [go_sem]) (by kernel_rfl)]
  simp only [Program.fieldsOf, Tryz.underlying57]
  rw [show decide (x = y) = (decide (x.Public = y.Public) && (decide (x.Prev = y.Prev) && (decide (x.N = y.N) && true))) from by rw [Bool.eq_iff_iff]; simp [Header.ext_iff]]
  refine eqFields_step w (by decide) ((part_agg (n := 32) w Tryz.underlying47 rfl (by kernel_rfl) x.c 0).trans (by rw [Header.get_Public])) ((part_agg (n := 32) w Tryz.underlying47 rfl (by kernel_rfl) y.c 0).trans (by rw [Header.get_Public])) (eqiKey d w x.Public y.Public) ?_
  refine eqFields_step w (by decide) (run_part_plain w (by simp [Program.plainKey, Tryz.underlying55]) (Header.at_Prev x)) (run_part_plain w (by simp [Program.plainKey, Tryz.underlying55]) (Header.at_Prev y)) (equalIn_int w (d + 1) 55 _ _ x.Prev y.Prev Tryz.underlying55) ?_
  refine eqFields_step w (by decide) (run_part_plain w (by simp [Program.plainKey, Tryz.underlying55]) (Header.at_N x)) (run_part_plain w (by simp [Program.plainKey, Tryz.underlying55]) (Header.at_N y)) (equalIn_int w (d + 1) 55 _ _ x.N y.N Tryz.underlying55) ?_
  exact eqFields_end w
@[go_sem] theorem eqHeader (w : World) (x y : Header) : (eqX 57 (.agg (x.c)) (.agg (y.c))).run Tryz.prog w = .ok (.bool (decide (x = y))) w := run_eqX w _ _ _ (eqiHeader _ w x y)
@[go_sem] theorem neHeader (w : World) (x y : Header) : (neX 57 (.agg (x.c)) (.agg (y.c))).run Tryz.prog w = .ok (.bool (!decide (x = y))) w := run_neX w _ _ _ (eqiHeader _ w x y)
theorem riHeader (x : Header) : (Tryz.prog.info? 57).map (·.size) = some x.c.size := by rw [Header.c_size]; kernel_rfl

end Go.Proofs.YtinngljphjdpoaaGreatDoor.Ty
