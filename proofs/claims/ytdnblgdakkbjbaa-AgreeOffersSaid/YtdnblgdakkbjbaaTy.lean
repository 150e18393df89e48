/- The structs of the program that hold arrays, as Lean structures: their cells, and the laws of reading and writing a part. No conditions. -/
import Derived.Test.YtdnblgdakkbjbaaProg
import Derived.Test.YtdnblgdakkbjbaaPa
namespace Go.Proofs.Ytdnblgdakkbjbaa.Ty
open Go Go.RowKit Go.Proofs.Ytdnblgdakkbjbaa.Pa
set_option linter.unusedSimpArgs false

@[go_sem ↓] theorem ldxKey (x : Value) : Instr.loadAt 23 x = loadX 23 x := rfl
@[go_sem] theorem ldKey (w : World) (b o : Nat) : (loadX 23 (.pointer (some ⟨b, o, none⟩))).run Try.prog w = readR w b o 32 ((loadZ 23 (.pointer (some ⟨b, o, none⟩))).run Try.prog w) := load_agg w _ 32 _ Try.underlying23 rfl (by kernel_rfl) b o
@[go_sem ↓] theorem stxKey (x v : Value) : Instr.storeAt 23 x v = storeX 23 x v := rfl
@[go_sem] theorem stKey (w : World) (b o : Nat) (v : Array Value) : (storeX 23 (.pointer (some ⟨b, o, none⟩)) (.agg v)).run Try.prog w = writeR w b o 32 v ((storeZ 23 (.pointer (some ⟨b, o, none⟩)) (.agg v)).run Try.prog w) := store_agg w _ 32 (by kernel_rfl) b o v
@[go_sem ↓] theorem ldvKey (x : Addr) : loadVar 23 x = loadX 23 (.pointer (some x)) := rfl
@[go_sem ↓] theorem zvxKey : zeroValue 23 = zeroX 23 := rfl
@[go_sem] theorem zvKey (w : World) : (zeroX 23).run Try.prog w = .ok (.agg (bv (Vector.replicate 32 0))) w := by kernel_rfl

theorem riKey (x : Vector UInt8 32) : (Try.prog.info? 23).map (·.size) = some (bv x).size := by rw [bv_size]; kernel_rfl
@[go_sem ↓] theorem eqxKey (x y : Value) : binOp .eql 23 x y = eqX 23 x y := rfl
@[go_sem ↓] theorem nexKey (x y : Value) : binOp .neq 23 x y = neX 23 x y := rfl
theorem eqiKey (d : Nat) (w : World) (x y : Vector UInt8 32) : (Op.equalIn (d + 2) 23 (.agg (bv x)) (.agg (bv y))).run Try.prog w = .ok (decide (x = y)) w := run_equalIn_bytes w d Try.underlying23 Try.underlying5 (by kernel_rfl) x y
@[go_sem] theorem eqKey (w : World) (x y : Vector UInt8 32) : (eqX 23 (.agg (bv x)) (.agg (bv y))).run Try.prog w = .ok (.bool (decide (x = y))) w := run_eqX w _ _ _ (eqiKey _ w x y)
@[go_sem] theorem neKey (w : World) (x y : Vector UInt8 32) : (neX 23 (.agg (bv x)) (.agg (bv y))).run Try.prog w = .ok (.bool (!decide (x = y))) w := run_neX w _ _ _ (eqiKey _ w x y)
/-! ### Pair -/
@[ext] structure Pair where
  Private : Vector UInt8 32
  Public : Vector UInt8 32
  deriving DecidableEq
def Pair.c (x : Pair) : Array Value := bv x.Private ++ (bv x.Public)
@[simp, go_sem] theorem Pair.c_size (x : Pair) : x.c.size = 64 := by simp only [Pair.c, bv_size, wv_size, o1_size, Array.size_append, ex_tail, ex_head, ex_all, at_tail, at_head, at_one, set_tail, set_head, set_one, put_tail, put_head, put_all, Nat.reduceAdd, Nat.reduceSub, Nat.reduceLeDiff, Nat.le_refl, Nat.sub_self, Nat.zero_le, Nat.sub_zero, Nat.add_zero, Nat.zero_add, Nat.add_zero]
@[simp, go_sem] theorem Pair.c_ones (x : Pair) : ones x.c = true := by simp [Pair.c, Value.oneCell']
@[simp, go_sem] theorem Pair.get_Private (x : Pair) : x.c.extract 0 32 = bv x.Private := by simp only [Pair.c, bv_size, wv_size, o1_size, Array.size_append, ex_tail, ex_head, ex_all, at_tail, at_head, at_one, set_tail, set_head, set_one, put_tail, put_head, put_all, Nat.reduceAdd, Nat.reduceSub, Nat.reduceLeDiff, Nat.le_refl, Nat.sub_self, Nat.zero_le, Nat.sub_zero, Nat.add_zero, Nat.zero_add, Nat.add_zero]
@[simp, go_sem] theorem Pair.put_Private (x : Pair) (y : Vector UInt8 32) : putR x.c 0 (bv y) = { x with Private := y }.c := by simp only [Pair.c, bv_size, wv_size, o1_size, Array.size_append, ex_tail, ex_head, ex_all, at_tail, at_head, at_one, set_tail, set_head, set_one, put_tail, put_head, put_all, Nat.reduceAdd, Nat.reduceSub, Nat.reduceLeDiff, Nat.le_refl, Nat.sub_self, Nat.zero_le, Nat.sub_zero, Nat.add_zero, Nat.zero_add, Nat.add_zero]
@[simp, go_sem] theorem Pair.get_Public (x : Pair) : x.c.extract 32 64 = bv x.Public := by simp only [Pair.c, bv_size, wv_size, o1_size, Array.size_append, ex_tail, ex_head, ex_all, at_tail, at_head, at_one, set_tail, set_head, set_one, put_tail, put_head, put_all, Nat.reduceAdd, Nat.reduceSub, Nat.reduceLeDiff, Nat.le_refl, Nat.sub_self, Nat.zero_le, Nat.sub_zero, Nat.add_zero, Nat.zero_add, Nat.add_zero]
@[simp, go_sem] theorem Pair.put_Public (x : Pair) (y : Vector UInt8 32) : putR x.c 32 (bv y) = { x with Public := y }.c := by simp only [Pair.c, bv_size, wv_size, o1_size, Array.size_append, ex_tail, ex_head, ex_all, at_tail, at_head, at_one, set_tail, set_head, set_one, put_tail, put_head, put_all, Nat.reduceAdd, Nat.reduceSub, Nat.reduceLeDiff, Nat.le_refl, Nat.sub_self, Nat.zero_le, Nat.sub_zero, Nat.add_zero, Nat.zero_add, Nat.add_zero]
@[simp, go_sem] theorem Pair.get_all (x : Pair) : x.c.extract 0 64 = x.c := ex_all _ _ (by simp)
@[simp, go_sem] theorem Pair.put_all (x y : Pair) : putR x.c 0 y.c = y.c := Pa.put_all _ _ (by simp)
def Pair.zero : Pair := ⟨(Vector.replicate 32 0), (Vector.replicate 32 0)⟩
@[go_sem ↓] theorem ldxPair (x : Value) : Instr.loadAt 25 x = loadX 25 x := rfl
@[go_sem] theorem ldPair (w : World) (b o : Nat) : (loadX 25 (.pointer (some ⟨b, o, none⟩))).run Try.prog w = readR w b o 64 ((loadZ 25 (.pointer (some ⟨b, o, none⟩))).run Try.prog w) := load_agg w _ 64 _ Try.underlying25 rfl (by kernel_rfl) b o
@[go_sem ↓] theorem stxPair (x v : Value) : Instr.storeAt 25 x v = storeX 25 x v := rfl
@[go_sem] theorem stPair (w : World) (b o : Nat) (v : Array Value) : (storeX 25 (.pointer (some ⟨b, o, none⟩)) (.agg v)).run Try.prog w = writeR w b o 64 v ((storeZ 25 (.pointer (some ⟨b, o, none⟩)) (.agg v)).run Try.prog w) := store_agg w _ 64 (by kernel_rfl) b o v
@[go_sem ↓] theorem ldvPair (x : Addr) : loadVar 25 x = loadX 25 (.pointer (some x)) := rfl
@[go_sem ↓] theorem zvxPair : zeroValue 25 = zeroX 25 := rfl
@[go_sem] theorem zvPair (w : World) : (zeroX 25).run Try.prog w = .ok (.agg Pair.zero.c) w := by kernel_rfl
@[go_sem ↓] theorem bdxPair (x : Array (Nat × Value)) : Instr.build 25 x = buildX 25 x := rfl
@[go_sem] theorem bdPair (w : World) (x : Array (Nat × Value)) : (buildX 25 x).run Try.prog w = buildR w (fillX (fun i => #[(0, 32), (32, 32)][i]?) Pair.zero.c x.toList) := build_struct w 25 _ #[(0, 32), (32, 32)] _ x Try.underlying25 (zvPair w) (by kernel_rfl)
@[go_sem ↓] theorem eqxPair (x y : Value) : binOp .eql 25 x y = eqX 25 x y := rfl
@[go_sem ↓] theorem nexPair (x y : Value) : binOp .neq 25 x y = neX 25 x y := rfl
theorem eqiPair (d : Nat) (w : World) (x y : Pair) : (Op.equalIn (d + 3) 25 (.agg x.c) (.agg y.c)).run Try.prog w = .ok (decide (x = y)) w := by
  rw [run_equalIn_agg w (d + 2) 25 x.c y.c (by simp [go_sem]) (by kernel_rfl)]
  simp only [Program.fieldsOf, Try.underlying25]
  rw [show decide (x = y) = (decide (x.Private = y.Private) && (decide (x.Public = y.Public) && true)) from by rw [Bool.eq_iff_iff]; simp [Pair.ext_iff]]
  refine eqFields_step w (by decide) ((part_agg (n := 32) w Try.underlying23 rfl (by kernel_rfl) x.c 0).trans (by rw [Pair.get_Private])) ((part_agg (n := 32) w Try.underlying23 rfl (by kernel_rfl) y.c 0).trans (by rw [Pair.get_Private])) (eqiKey d w x.Private y.Private) ?_
  refine eqFields_step w (by decide) ((part_agg (n := 32) w Try.underlying23 rfl (by kernel_rfl) x.c 32).trans (by rw [Pair.get_Public])) ((part_agg (n := 32) w Try.underlying23 rfl (by kernel_rfl) y.c 32).trans (by rw [Pair.get_Public])) (eqiKey d w x.Public y.Public) ?_
  exact eqFields_end w
@[go_sem] theorem eqPair (w : World) (x y : Pair) : (eqX 25 (.agg (x.c)) (.agg (y.c))).run Try.prog w = .ok (.bool (decide (x = y))) w := run_eqX w _ _ _ (eqiPair _ w x y)
@[go_sem] theorem nePair (w : World) (x y : Pair) : (neX 25 (.agg (x.c)) (.agg (y.c))).run Try.prog w = .ok (.bool (!decide (x = y))) w := run_neX w _ _ _ (eqiPair _ w x y)
theorem riPair (x : Pair) : (Try.prog.info? 25).map (·.size) = some x.c.size := by rw [Pair.c_size]; kernel_rfl

/-! ### Pairs -/
@[ext] structure Pairs where
  Identity : Pair
  Signed : Pair
  Once : Pair
  HasOnce : Bool
  deriving DecidableEq
def Pairs.c (x : Pairs) : Array Value := Pair.c x.Identity ++ (Pair.c x.Signed ++ (Pair.c x.Once ++ (o1 (.bool x.HasOnce))))
@[simp, go_sem] theorem Pairs.c_size (x : Pairs) : x.c.size = 193 := by simp only [Pairs.c, bv_size, wv_size, o1_size, Array.size_append, ex_tail, ex_head, ex_all, at_tail, at_head, at_one, set_tail, set_head, set_one, put_tail, put_head, put_all, Nat.reduceAdd, Nat.reduceSub, Nat.reduceLeDiff, Nat.le_refl, Nat.sub_self, Nat.zero_le, Nat.sub_zero, Nat.add_zero, Nat.zero_add, Pair.c_size, Pair.c_size, Pair.c_size]
@[simp, go_sem] theorem Pairs.c_ones (x : Pairs) : ones x.c = true := by simp [Pairs.c, Value.oneCell']
@[simp, go_sem] theorem Pairs.get_Identity (x : Pairs) : x.c.extract 0 64 = Pair.c x.Identity := by simp only [Pairs.c, bv_size, wv_size, o1_size, Array.size_append, ex_tail, ex_head, ex_all, at_tail, at_head, at_one, set_tail, set_head, set_one, put_tail, put_head, put_all, Nat.reduceAdd, Nat.reduceSub, Nat.reduceLeDiff, Nat.le_refl, Nat.sub_self, Nat.zero_le, Nat.sub_zero, Nat.add_zero, Nat.zero_add, Pair.c_size, Pair.c_size, Pair.c_size]
@[simp, go_sem] theorem Pairs.put_Identity (x : Pairs) (y : Pair) : putR x.c 0 (Pair.c y) = { x with Identity := y }.c := by simp only [Pairs.c, bv_size, wv_size, o1_size, Array.size_append, ex_tail, ex_head, ex_all, at_tail, at_head, at_one, set_tail, set_head, set_one, put_tail, put_head, put_all, Nat.reduceAdd, Nat.reduceSub, Nat.reduceLeDiff, Nat.le_refl, Nat.sub_self, Nat.zero_le, Nat.sub_zero, Nat.add_zero, Nat.zero_add, Pair.c_size, Pair.c_size, Pair.c_size]
@[simp, go_sem] theorem Pairs.get_Signed (x : Pairs) : x.c.extract 64 128 = Pair.c x.Signed := by simp only [Pairs.c, bv_size, wv_size, o1_size, Array.size_append, ex_tail, ex_head, ex_all, at_tail, at_head, at_one, set_tail, set_head, set_one, put_tail, put_head, put_all, Nat.reduceAdd, Nat.reduceSub, Nat.reduceLeDiff, Nat.le_refl, Nat.sub_self, Nat.zero_le, Nat.sub_zero, Nat.add_zero, Nat.zero_add, Pair.c_size, Pair.c_size, Pair.c_size]
@[simp, go_sem] theorem Pairs.put_Signed (x : Pairs) (y : Pair) : putR x.c 64 (Pair.c y) = { x with Signed := y }.c := by simp only [Pairs.c, bv_size, wv_size, o1_size, Array.size_append, ex_tail, ex_head, ex_all, at_tail, at_head, at_one, set_tail, set_head, set_one, put_tail, put_head, put_all, Nat.reduceAdd, Nat.reduceSub, Nat.reduceLeDiff, Nat.le_refl, Nat.sub_self, Nat.zero_le, Nat.sub_zero, Nat.add_zero, Nat.zero_add, Pair.c_size, Pair.c_size, Pair.c_size]
@[simp, go_sem] theorem Pairs.get_Once (x : Pairs) : x.c.extract 128 192 = Pair.c x.Once := by simp only [Pairs.c, bv_size, wv_size, o1_size, Array.size_append, ex_tail, ex_head, ex_all, at_tail, at_head, at_one, set_tail, set_head, set_one, put_tail, put_head, put_all, Nat.reduceAdd, Nat.reduceSub, Nat.reduceLeDiff, Nat.le_refl, Nat.sub_self, Nat.zero_le, Nat.sub_zero, Nat.add_zero, Nat.zero_add, Pair.c_size, Pair.c_size, Pair.c_size]
@[simp, go_sem] theorem Pairs.put_Once (x : Pairs) (y : Pair) : putR x.c 128 (Pair.c y) = { x with Once := y }.c := by simp only [Pairs.c, bv_size, wv_size, o1_size, Array.size_append, ex_tail, ex_head, ex_all, at_tail, at_head, at_one, set_tail, set_head, set_one, put_tail, put_head, put_all, Nat.reduceAdd, Nat.reduceSub, Nat.reduceLeDiff, Nat.le_refl, Nat.sub_self, Nat.zero_le, Nat.sub_zero, Nat.add_zero, Nat.zero_add, Pair.c_size, Pair.c_size, Pair.c_size]
@[simp, go_sem] theorem Pairs.at_HasOnce (x : Pairs) : x.c[192]? = some (.bool x.HasOnce) := by simp only [Pairs.c, bv_size, wv_size, o1_size, Array.size_append, ex_tail, ex_head, ex_all, at_tail, at_head, at_one, set_tail, set_head, set_one, put_tail, put_head, put_all, Nat.reduceAdd, Nat.reduceSub, Nat.reduceLeDiff, Nat.le_refl, Nat.sub_self, Nat.zero_le, Nat.sub_zero, Nat.add_zero, Nat.zero_add, Pair.c_size, Pair.c_size, Pair.c_size]
@[simp, go_sem] theorem Pairs.ge_HasOnce (x : Pairs) (h : 192 < x.c.size) : x.c[192]'h = (.bool x.HasOnce) := by have := Pairs.at_HasOnce x; rw [Array.getElem?_eq_getElem h] at this; exact Option.some.inj this
@[simp, go_sem] theorem Pairs.set_HasOnce (x : Pairs) (y : Bool) : x.c.setIfInBounds 192 (.bool y) = { x with HasOnce := y }.c := by simp only [Pairs.c, bv_size, wv_size, o1_size, Array.size_append, ex_tail, ex_head, ex_all, at_tail, at_head, at_one, set_tail, set_head, set_one, put_tail, put_head, put_all, Nat.reduceAdd, Nat.reduceSub, Nat.reduceLeDiff, Nat.le_refl, Nat.sub_self, Nat.zero_le, Nat.sub_zero, Nat.add_zero, Nat.zero_add, Pair.c_size, Pair.c_size, Pair.c_size]
@[simp, go_sem] theorem Pairs.get_HasOnce (x : Pairs) : x.c.extract 192 193 = o1 (.bool x.HasOnce) := by simp only [Pairs.c, bv_size, wv_size, o1_size, Array.size_append, ex_tail, ex_head, ex_all, at_tail, at_head, at_one, set_tail, set_head, set_one, put_tail, put_head, put_all, Nat.reduceAdd, Nat.reduceSub, Nat.reduceLeDiff, Nat.le_refl, Nat.sub_self, Nat.zero_le, Nat.sub_zero, Nat.add_zero, Nat.zero_add, Pair.c_size, Pair.c_size, Pair.c_size]
@[simp, go_sem] theorem Pairs.put_HasOnce (x : Pairs) (y : Bool) : putR x.c 192 (o1 (.bool y)) = { x with HasOnce := y }.c := by simp only [Pairs.c, bv_size, wv_size, o1_size, Array.size_append, ex_tail, ex_head, ex_all, at_tail, at_head, at_one, set_tail, set_head, set_one, put_tail, put_head, put_all, Nat.reduceAdd, Nat.reduceSub, Nat.reduceLeDiff, Nat.le_refl, Nat.sub_self, Nat.zero_le, Nat.sub_zero, Nat.add_zero, Nat.zero_add, Pair.c_size, Pair.c_size, Pair.c_size]
@[simp, go_sem] theorem Pairs.get_all (x : Pairs) : x.c.extract 0 193 = x.c := ex_all _ _ (by simp)
@[simp, go_sem] theorem Pairs.put_all (x y : Pairs) : putR x.c 0 y.c = y.c := Pa.put_all _ _ (by simp)
def Pairs.zero : Pairs := ⟨Pair.zero, Pair.zero, Pair.zero, false⟩
@[go_sem ↓] theorem ldxPairs (x : Value) : Instr.loadAt 27 x = loadX 27 x := rfl
@[go_sem] theorem ldPairs (w : World) (b o : Nat) : (loadX 27 (.pointer (some ⟨b, o, none⟩))).run Try.prog w = readR w b o 193 ((loadZ 27 (.pointer (some ⟨b, o, none⟩))).run Try.prog w) := load_agg w _ 193 _ Try.underlying27 rfl (by kernel_rfl) b o
@[go_sem ↓] theorem stxPairs (x v : Value) : Instr.storeAt 27 x v = storeX 27 x v := rfl
@[go_sem] theorem stPairs (w : World) (b o : Nat) (v : Array Value) : (storeX 27 (.pointer (some ⟨b, o, none⟩)) (.agg v)).run Try.prog w = writeR w b o 193 v ((storeZ 27 (.pointer (some ⟨b, o, none⟩)) (.agg v)).run Try.prog w) := store_agg w _ 193 (by kernel_rfl) b o v
@[go_sem ↓] theorem ldvPairs (x : Addr) : loadVar 27 x = loadX 27 (.pointer (some x)) := rfl
@[go_sem ↓] theorem zvxPairs : zeroValue 27 = zeroX 27 := rfl
@[go_sem] theorem zvPairs (w : World) : (zeroX 27).run Try.prog w = .ok (.agg Pairs.zero.c) w := by kernel_rfl
@[go_sem ↓] theorem bdxPairs (x : Array (Nat × Value)) : Instr.build 27 x = buildX 27 x := rfl
@[go_sem] theorem bdPairs (w : World) (x : Array (Nat × Value)) : (buildX 27 x).run Try.prog w = buildR w (fillX (fun i => #[(0, 64), (64, 64), (128, 64), (192, 1)][i]?) Pairs.zero.c x.toList) := build_struct w 27 _ #[(0, 64), (64, 64), (128, 64), (192, 1)] _ x Try.underlying27 (zvPairs w) (by kernel_rfl)
@[go_sem ↓] theorem eqxPairs (x y : Value) : binOp .eql 27 x y = eqX 27 x y := rfl
@[go_sem ↓] theorem nexPairs (x y : Value) : binOp .neq 27 x y = neX 27 x y := rfl
theorem eqiPairs (d : Nat) (w : World) (x y : Pairs) : (Op.equalIn (d + 4) 27 (.agg x.c) (.agg y.c)).run Try.prog w = .ok (decide (x = y)) w := by
  rw [run_equalIn_agg w (d + 3) 27 x.c y.c (by simp [go_sem]) (by kernel_rfl)]
  simp only [Program.fieldsOf, Try.underlying27]
  rw [show decide (x = y) = (decide (x.Identity = y.Identity) && (decide (x.Signed = y.Signed) && (decide (x.Once = y.Once) && (decide (x.HasOnce = y.HasOnce) && true)))) from by rw [Bool.eq_iff_iff]; simp [Pairs.ext_iff]]
  refine eqFields_step w (by decide) ((part_agg (n := 64) w Try.underlying25 rfl (by kernel_rfl) x.c 0).trans (by rw [Pairs.get_Identity])) ((part_agg (n := 64) w Try.underlying25 rfl (by kernel_rfl) y.c 0).trans (by rw [Pairs.get_Identity])) (eqiPair d w x.Identity y.Identity) ?_
  refine eqFields_step w (by decide) ((part_agg (n := 64) w Try.underlying25 rfl (by kernel_rfl) x.c 64).trans (by rw [Pairs.get_Signed])) ((part_agg (n := 64) w Try.underlying25 rfl (by kernel_rfl) y.c 64).trans (by rw [Pairs.get_Signed])) (eqiPair d w x.Signed y.Signed) ?_
  refine eqFields_step w (by decide) ((part_agg (n := 64) w Try.underlying25 rfl (by kernel_rfl) x.c 128).trans (by rw [Pairs.get_Once])) ((part_agg (n := 64) w Try.underlying25 rfl (by kernel_rfl) y.c 128).trans (by rw [Pairs.get_Once])) (eqiPair d w x.Once y.Once) ?_
  refine eqFields_step w (by decide) (run_part_plain w (by simp [Program.plainKey, Try.underlying4]) (Pairs.at_HasOnce x)) (run_part_plain w (by simp [Program.plainKey, Try.underlying4]) (Pairs.at_HasOnce y)) (equalIn_bool w (d + 2) 4 x.HasOnce y.HasOnce Try.underlying4) ?_
  exact eqFields_end w
@[go_sem] theorem eqPairs (w : World) (x y : Pairs) : (eqX 27 (.agg (x.c)) (.agg (y.c))).run Try.prog w = .ok (.bool (decide (x = y))) w := run_eqX w _ _ _ (eqiPairs _ w x y)
@[go_sem] theorem nePairs (w : World) (x y : Pairs) : (neX 27 (.agg (x.c)) (.agg (y.c))).run Try.prog w = .ok (.bool (!decide (x = y))) w := run_neX w _ _ _ (eqiPairs _ w x y)
theorem riPairs (x : Pairs) : (Try.prog.info? 27).map (·.size) = some x.c.size := by rw [Pairs.c_size]; kernel_rfl

/-! ### Bundle -/
@[ext] structure Bundle where
  Identity : Vector UInt8 32
  Signed : Vector UInt8 32
  Once : Vector UInt8 32
  HasOnce : Bool
  deriving DecidableEq
def Bundle.c (x : Bundle) : Array Value := bv x.Identity ++ (bv x.Signed ++ (bv x.Once ++ (o1 (.bool x.HasOnce))))
@[simp, go_sem] theorem Bundle.c_size (x : Bundle) : x.c.size = 97 := by simp only [Bundle.c, bv_size, wv_size, o1_size, Array.size_append, ex_tail, ex_head, ex_all, at_tail, at_head, at_one, set_tail, set_head, set_one, put_tail, put_head, put_all, Nat.reduceAdd, Nat.reduceSub, Nat.reduceLeDiff, Nat.le_refl, Nat.sub_self, Nat.zero_le, Nat.sub_zero, Nat.add_zero, Nat.zero_add, Nat.add_zero]
@[simp, go_sem] theorem Bundle.c_ones (x : Bundle) : ones x.c = true := by simp [Bundle.c, Value.oneCell']
@[simp, go_sem] theorem Bundle.get_Identity (x : Bundle) : x.c.extract 0 32 = bv x.Identity := by simp only [Bundle.c, bv_size, wv_size, o1_size, Array.size_append, ex_tail, ex_head, ex_all, at_tail, at_head, at_one, set_tail, set_head, set_one, put_tail, put_head, put_all, Nat.reduceAdd, Nat.reduceSub, Nat.reduceLeDiff, Nat.le_refl, Nat.sub_self, Nat.zero_le, Nat.sub_zero, Nat.add_zero, Nat.zero_add, Nat.add_zero]
@[simp, go_sem] theorem Bundle.put_Identity (x : Bundle) (y : Vector UInt8 32) : putR x.c 0 (bv y) = { x with Identity := y }.c := by simp only [Bundle.c, bv_size, wv_size, o1_size, Array.size_append, ex_tail, ex_head, ex_all, at_tail, at_head, at_one, set_tail, set_head, set_one, put_tail, put_head, put_all, Nat.reduceAdd, Nat.reduceSub, Nat.reduceLeDiff, Nat.le_refl, Nat.sub_self, Nat.zero_le, Nat.sub_zero, Nat.add_zero, Nat.zero_add, Nat.add_zero]
@[simp, go_sem] theorem Bundle.get_Signed (x : Bundle) : x.c.extract 32 64 = bv x.Signed := by simp only [Bundle.c, bv_size, wv_size, o1_size, Array.size_append, ex_tail, ex_head, ex_all, at_tail, at_head, at_one, set_tail, set_head, set_one, put_tail, put_head, put_all, Nat.reduceAdd, Nat.reduceSub, Nat.reduceLeDiff, Nat.le_refl, Nat.sub_self, Nat.zero_le, Nat.sub_zero, Nat.add_zero, Nat.zero_add, Nat.add_zero]
@[simp, go_sem] theorem Bundle.put_Signed (x : Bundle) (y : Vector UInt8 32) : putR x.c 32 (bv y) = { x with Signed := y }.c := by simp only [Bundle.c, bv_size, wv_size, o1_size, Array.size_append, ex_tail, ex_head, ex_all, at_tail, at_head, at_one, set_tail, set_head, set_one, put_tail, put_head, put_all, Nat.reduceAdd, Nat.reduceSub, Nat.reduceLeDiff, Nat.le_refl, Nat.sub_self, Nat.zero_le, Nat.sub_zero, Nat.add_zero, Nat.zero_add, Nat.add_zero]
@[simp, go_sem] theorem Bundle.get_Once (x : Bundle) : x.c.extract 64 96 = bv x.Once := by simp only [Bundle.c, bv_size, wv_size, o1_size, Array.size_append, ex_tail, ex_head, ex_all, at_tail, at_head, at_one, set_tail, set_head, set_one, put_tail, put_head, put_all, Nat.reduceAdd, Nat.reduceSub, Nat.reduceLeDiff, Nat.le_refl, Nat.sub_self, Nat.zero_le, Nat.sub_zero, Nat.add_zero, Nat.zero_add, Nat.add_zero]
@[simp, go_sem] theorem Bundle.put_Once (x : Bundle) (y : Vector UInt8 32) : putR x.c 64 (bv y) = { x with Once := y }.c := by simp only [Bundle.c, bv_size, wv_size, o1_size, Array.size_append, ex_tail, ex_head, ex_all, at_tail, at_head, at_one, set_tail, set_head, set_one, put_tail, put_head, put_all, Nat.reduceAdd, Nat.reduceSub, Nat.reduceLeDiff, Nat.le_refl, Nat.sub_self, Nat.zero_le, Nat.sub_zero, Nat.add_zero, Nat.zero_add, Nat.add_zero]
@[simp, go_sem] theorem Bundle.at_HasOnce (x : Bundle) : x.c[96]? = some (.bool x.HasOnce) := by simp only [Bundle.c, bv_size, wv_size, o1_size, Array.size_append, ex_tail, ex_head, ex_all, at_tail, at_head, at_one, set_tail, set_head, set_one, put_tail, put_head, put_all, Nat.reduceAdd, Nat.reduceSub, Nat.reduceLeDiff, Nat.le_refl, Nat.sub_self, Nat.zero_le, Nat.sub_zero, Nat.add_zero, Nat.zero_add, Nat.add_zero]
@[simp, go_sem] theorem Bundle.ge_HasOnce (x : Bundle) (h : 96 < x.c.size) : x.c[96]'h = (.bool x.HasOnce) := by have := Bundle.at_HasOnce x; rw [Array.getElem?_eq_getElem h] at this; exact Option.some.inj this
@[simp, go_sem] theorem Bundle.set_HasOnce (x : Bundle) (y : Bool) : x.c.setIfInBounds 96 (.bool y) = { x with HasOnce := y }.c := by simp only [Bundle.c, bv_size, wv_size, o1_size, Array.size_append, ex_tail, ex_head, ex_all, at_tail, at_head, at_one, set_tail, set_head, set_one, put_tail, put_head, put_all, Nat.reduceAdd, Nat.reduceSub, Nat.reduceLeDiff, Nat.le_refl, Nat.sub_self, Nat.zero_le, Nat.sub_zero, Nat.add_zero, Nat.zero_add, Nat.add_zero]
@[simp, go_sem] theorem Bundle.get_HasOnce (x : Bundle) : x.c.extract 96 97 = o1 (.bool x.HasOnce) := by simp only [Bundle.c, bv_size, wv_size, o1_size, Array.size_append, ex_tail, ex_head, ex_all, at_tail, at_head, at_one, set_tail, set_head, set_one, put_tail, put_head, put_all, Nat.reduceAdd, Nat.reduceSub, Nat.reduceLeDiff, Nat.le_refl, Nat.sub_self, Nat.zero_le, Nat.sub_zero, Nat.add_zero, Nat.zero_add, Nat.add_zero]
@[simp, go_sem] theorem Bundle.put_HasOnce (x : Bundle) (y : Bool) : putR x.c 96 (o1 (.bool y)) = { x with HasOnce := y }.c := by simp only [Bundle.c, bv_size, wv_size, o1_size, Array.size_append, ex_tail, ex_head, ex_all, at_tail, at_head, at_one, set_tail, set_head, set_one, put_tail, put_head, put_all, Nat.reduceAdd, Nat.reduceSub, Nat.reduceLeDiff, Nat.le_refl, Nat.sub_self, Nat.zero_le, Nat.sub_zero, Nat.add_zero, Nat.zero_add, Nat.add_zero]
@[simp, go_sem] theorem Bundle.get_all (x : Bundle) : x.c.extract 0 97 = x.c := ex_all _ _ (by simp)
@[simp, go_sem] theorem Bundle.put_all (x y : Bundle) : putR x.c 0 y.c = y.c := Pa.put_all _ _ (by simp)
def Bundle.zero : Bundle := ⟨(Vector.replicate 32 0), (Vector.replicate 32 0), (Vector.replicate 32 0), false⟩
@[go_sem ↓] theorem ldxBundle (x : Value) : Instr.loadAt 29 x = loadX 29 x := rfl
@[go_sem] theorem ldBundle (w : World) (b o : Nat) : (loadX 29 (.pointer (some ⟨b, o, none⟩))).run Try.prog w = readR w b o 97 ((loadZ 29 (.pointer (some ⟨b, o, none⟩))).run Try.prog w) := load_agg w _ 97 _ Try.underlying29 rfl (by kernel_rfl) b o
@[go_sem ↓] theorem stxBundle (x v : Value) : Instr.storeAt 29 x v = storeX 29 x v := rfl
@[go_sem] theorem stBundle (w : World) (b o : Nat) (v : Array Value) : (storeX 29 (.pointer (some ⟨b, o, none⟩)) (.agg v)).run Try.prog w = writeR w b o 97 v ((storeZ 29 (.pointer (some ⟨b, o, none⟩)) (.agg v)).run Try.prog w) := store_agg w _ 97 (by kernel_rfl) b o v
@[go_sem ↓] theorem ldvBundle (x : Addr) : loadVar 29 x = loadX 29 (.pointer (some x)) := rfl
@[go_sem ↓] theorem zvxBundle : zeroValue 29 = zeroX 29 := rfl
@[go_sem] theorem zvBundle (w : World) : (zeroX 29).run Try.prog w = .ok (.agg Bundle.zero.c) w := by kernel_rfl
@[go_sem ↓] theorem bdxBundle (x : Array (Nat × Value)) : Instr.build 29 x = buildX 29 x := rfl
@[go_sem] theorem bdBundle (w : World) (x : Array (Nat × Value)) : (buildX 29 x).run Try.prog w = buildR w (fillX (fun i => #[(0, 32), (32, 32), (64, 32), (96, 1)][i]?) Bundle.zero.c x.toList) := build_struct w 29 _ #[(0, 32), (32, 32), (64, 32), (96, 1)] _ x Try.underlying29 (zvBundle w) (by kernel_rfl)
@[go_sem ↓] theorem eqxBundle (x y : Value) : binOp .eql 29 x y = eqX 29 x y := rfl
@[go_sem ↓] theorem nexBundle (x y : Value) : binOp .neq 29 x y = neX 29 x y := rfl
theorem eqiBundle (d : Nat) (w : World) (x y : Bundle) : (Op.equalIn (d + 3) 29 (.agg x.c) (.agg y.c)).run Try.prog w = .ok (decide (x = y)) w := by
  rw [run_equalIn_agg w (d + 2) 29 x.c y.c (by simp [go_sem]) (by kernel_rfl)]
  simp only [Program.fieldsOf, Try.underlying29]
  rw [show decide (x = y) = (decide (x.Identity = y.Identity) && (decide (x.Signed = y.Signed) && (decide (x.Once = y.Once) && (decide (x.HasOnce = y.HasOnce) && true)))) from by rw [Bool.eq_iff_iff]; simp [Bundle.ext_iff]]
  refine eqFields_step w (by decide) ((part_agg (n := 32) w Try.underlying23 rfl (by kernel_rfl) x.c 0).trans (by rw [Bundle.get_Identity])) ((part_agg (n := 32) w Try.underlying23 rfl (by kernel_rfl) y.c 0).trans (by rw [Bundle.get_Identity])) (eqiKey d w x.Identity y.Identity) ?_
  refine eqFields_step w (by decide) ((part_agg (n := 32) w Try.underlying23 rfl (by kernel_rfl) x.c 32).trans (by rw [Bundle.get_Signed])) ((part_agg (n := 32) w Try.underlying23 rfl (by kernel_rfl) y.c 32).trans (by rw [Bundle.get_Signed])) (eqiKey d w x.Signed y.Signed) ?_
  refine eqFields_step w (by decide) ((part_agg (n := 32) w Try.underlying23 rfl (by kernel_rfl) x.c 64).trans (by rw [Bundle.get_Once])) ((part_agg (n := 32) w Try.underlying23 rfl (by kernel_rfl) y.c 64).trans (by rw [Bundle.get_Once])) (eqiKey d w x.Once y.Once) ?_
  refine eqFields_step w (by decide) (run_part_plain w (by simp [Program.plainKey, Try.underlying4]) (Bundle.at_HasOnce x)) (run_part_plain w (by simp [Program.plainKey, Try.underlying4]) (Bundle.at_HasOnce y)) (equalIn_bool w (d + 1) 4 x.HasOnce y.HasOnce Try.underlying4) ?_
  exact eqFields_end w
@[go_sem] theorem eqBundle (w : World) (x y : Bundle) : (eqX 29 (.agg (x.c)) (.agg (y.c))).run Try.prog w = .ok (.bool (decide (x = y))) w := run_eqX w _ _ _ (eqiBundle _ w x y)
@[go_sem] theorem neBundle (w : World) (x y : Bundle) : (neX 29 (.agg (x.c)) (.agg (y.c))).run Try.prog w = .ok (.bool (!decide (x = y))) w := run_neX w _ _ _ (eqiBundle _ w x y)
theorem riBundle (x : Bundle) : (Try.prog.info? 29).map (·.size) = some x.c.size := by rw [Bundle.c_size]; kernel_rfl

end Go.Proofs.Ytdnblgdakkbjbaa.Ty
