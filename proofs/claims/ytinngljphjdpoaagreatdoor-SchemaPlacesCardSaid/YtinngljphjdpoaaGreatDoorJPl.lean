/- Slices of bytes: what reads as a list of bytes; a list of the call's own that is appended to. No program in sight; no conditions. -/
import Derived.Test.YtinngljphjdpoaaGreatDoorJRg
import Derived.Maps.AppendAt
import Derived.Laws.OwnMore
import Derived.Lib.Hide
import Derived.Laws.CopyRow
import Derived.Laws.IdiomStrings
import Derived.Deep.OwnRows
import Derived.ProofKit
import Derived.OpenShut
import Derived.ShutString
import Derived.ChangeOld
import Derived.Below
import Derived.SizedLaws
import Derived.ChangeSlices
namespace Go.Proofs.YtinngljphjdpoaaGreatDoor.Pb
open Go Go.RowKit Go.Proofs.YtinngljphjdpoaaGreatDoor.Pa

/-- The bytes as cells. -/
def cb (l : List UInt8) : List Value := l.map fun b => Value.int .u8 (b.toNat : Int)
@[simp] theorem cb_length (l : List UInt8) : (cb l).length = l.length := by simp [cb]
@[simp] theorem cb_append (a b : List UInt8) : cb (a ++ b) = cb a ++ cb b := by simp [cb]
theorem cb_get (l : List UInt8) (j : Nat) (h : j < l.length) : (cb l)[j]? = some (.int .u8 (l[j].toNat : Int)) := by simp [cb, h]
theorem cb_one (l : List UInt8) : ∀ u ∈ cb l, u.oneCell' = true := by
  intro u hu
  simp only [cb, List.mem_map] at hu
  obtain ⟨b, _, rfl⟩ := hu
  rfl
theorem cb_inj {a b : List UInt8} (h : cb a = cb b) : a = b := by
  refine (List.map_inj_right (f := fun b : UInt8 => Value.int .u8 (b.toNat : Int)) ?_).1 h
  intro x y e
  simp only [Value.int.injEq, true_and] at e
  exact UInt8.toNat_inj.1 (by omega)

/-- The slice value v reads as l. -/
def Rd (w : World) (v : Value) (l : List UInt8) : Prop :=
  ∃ (A : Option Addr) (c : Nat), v = .slice A l.length c ∧ l.length ≤ c ∧ c ≤ maxLen ∧ (0 < l.length → ∃ ad, A = some ad ∧ ∀ j u, (cb l)[j]? = some u → w.cell? (ad.add j) = some u)
/-- The slice value v is the call's own, and reads as l; E: the element type's number. -/
def Own (w : World) (base : Nat) (E : TypeId) (v : Value) (l : List UInt8) : Prop := w.ownsRow base E 1 v l.length (cb l)

section
variable {w w' : World} {v : Value} {l : List UInt8} {base : Nat} {E : TypeId}
theorem Own.nil (w : World) (base : Nat) (E : TypeId) : Own w base E (.slice none 0 0) [] := w.ownsRow_nil base E 1
theorem of_nat8 {n : Nat} (h : n < 256) : (n : Int) = ((UInt8.ofNat n).toNat : Int) := by simp; omega
theorem Own.empty (w : World) (base : Nat) (E : TypeId) (hb : base ≤ w.heap.size) : Own (w.alloc (.cells #[] E)) base E (.slice (some ⟨w.heap.size, 0, none⟩) 0 0) [] :=
  ⟨rfl, .inr ⟨w.heap.size, 0, #[], rfl, hb, heap_alloc_new w _, Nat.le_refl _, by simp [maxLen], rfl, rfl⟩⟩
theorem Own.rd (h : Own w base E v l) : Rd w v l := by
  rcases h.2 with ⟨rfl, h0⟩ | ⟨g, cap, cur, rfl, _, _, hnc, hm, _⟩
  · have : l = [] := List.eq_nil_of_length_eq_zero h0
    subst this
    exact ⟨none, 0, rfl, by simp, by simp [maxLen], fun h => absurd h (by simp)⟩
  · exact ⟨_, cap, rfl, hnc, hm, fun _ => ⟨_, rfl, World.ownsRow.cells h (g := g) rfl⟩⟩
theorem Own.kept {row : Option Nat} (h : Own w base E v l) (hg : w.grownBy w' row) (hne : v.ownBlock = none ∨ v.ownBlock ≠ row) : Own w' base E v l := World.ownsRow.kept h hg hne
theorem below_grown {B : Nat} {w0 : World} (h : Below B w0 w) (hv : Own w base E v l) (hB : B ≤ base) (hs : B ≤ w.heap.size) (hg : w.grownBy w' v.ownBlock) : Below B w0 w' :=
  h.grown hg hs (fun k hk => Nat.le_trans hB (hv.lt k hk).1)
theorem grown_below (h : Below w.heap.size w w') (row : Option Nat) : w.grownBy w' row := ⟨h.os, h.tape, h.output, h.size, fun i hi _ => h.block i hi⟩
theorem Own.below (h : Own w base E v l) (hb : Below w.heap.size w w') : Own w' base E v l := h.kept (grown_below hb none) (by cases v.ownBlock <;> simp)
theorem Own.alloc (h : Own w base E v l) (o : Obj) : Own (w.alloc o) base E v l := World.ownsRow.alloc h o
theorem Own.drew (h : Own w base E v l) : Own w.drew base E v l := h
theorem Own.lt (h : Own w base E v l) : ∀ k, v.ownBlock = some k → base ≤ k ∧ k < w.heap.size := World.ownsRow.lt h
theorem Own.mono {base' : Nat} (h : Own w base E v l) (hb : base' ≤ base) : Own w base' E v l := by
  obtain ⟨h1, h2⟩ := h
  refine ⟨h1, h2.imp id ?_⟩
  rintro ⟨g, cap, cur, e, hg, r⟩
  exact ⟨g, cap, cur, e, Nat.le_trans hb hg, r⟩
theorem Own.slice (h : Own w base E v l) : ∃ A c, v = .slice A l.length c := by
  obtain ⟨A, c, h, _⟩ := h.rd
  exact ⟨A, c, h⟩

theorem cell_kept {B : Nat} (hb : Below B w w') {a : Addr} (hB : a.block < B) {u : Value} (hc : w.cell? a = some u) : w'.cell? a = some u := (hb.cell hB).trans hc
theorem Rd.below (h : Rd w v l) (hb : Below w.heap.size w w') : Rd w' v l := by
  obtain ⟨A, c, e, h1, h2, h3⟩ := h
  refine ⟨A, c, e, h1, h2, fun h0 => ?_⟩
  obtain ⟨ad, ha, hc⟩ := h3 h0
  exact ⟨ad, ha, fun j u hu => cell_kept hb (World.block_lt_of_cell? w _ (hc j u hu)) (hc j u hu)⟩
theorem Rd.drew (h : Rd w v l) : Rd w.drew v l := h
theorem Rd.at_ {A : Option Addr} {n c : Nat} (h : Rd w (.slice A n c) l) (j : Nat) (hj : j < l.length) : ∃ ad, A = some ad ∧ w.cell? (ad.add j) = some (.int .u8 (l[j].toNat : Int)) := by
  obtain ⟨A', c', e, _, _, h3⟩ := h
  obtain ⟨ad, ha, hc⟩ := h3 (by omega)
  simp only [Value.slice.injEq] at e
  obtain ⟨rfl, rfl, rfl⟩ := e
  exact ⟨ad, ha, hc j _ (cb_get l j hj)⟩
theorem Rd.nil (w : World) : Rd w (.slice none 0 0) [] := ⟨none, 0, rfl, by simp, by simp [maxLen], fun h => absurd h (by simp)⟩
theorem Rd.len {A : Option Addr} {n c : Nat} (h : Rd w (.slice A n c) l) : n = l.length ∧ l.length ≤ c ∧ c ≤ maxLen := by
  obtain ⟨A', c', e, h1, h2, h3⟩ := h
  simp only [Value.slice.injEq] at e
  obtain ⟨rfl, rfl, rfl⟩ := e
  exact ⟨rfl, h1, h2⟩
end

/-! ### append -/
section
variable {P : Program} {ops : Array Oper} {rest : List Oper} {o : Oper} {a : Act} {Q : Exit → Act → World → Prop}
/-- What append asks of the type of bytes. -/
structure U8 (P : Program) (T E : TypeId) : Prop where
  sl : P.underlying T = some (.slice E)
  info : (P.info? E).map (fun i => (i.zero, i.size, i.bytes)) = some (some (.int .u8 0), 1, 1)

/-- The room of a slice. -/
def capOf : Value → Nat
  | .slice _ _ c => c
  | _ => 0
/-- append(v, xs...): of a list that reads as m, to a list of the call's own. -/
theorem run_app {T E : TypeId} (hU : U8 P T E) (ty : TypeId) {w : World} {base : Nat} {v x : Value} {l m : List UInt8} (hv : Own w base E v l) (hx : Rd w x m) (hbase : base ≤ w.heap.size) (hl : l.length + m.length ≤ 140737488355328) :
    ∃ v' w', (Builtin.append_ #[T, T] ty #[v, x]).run P w = .ok v' w' ∧ Own w' base E v' (l ++ m) ∧ w.grownBy w' v.ownBlock ∧ (v'.ownBlock = v.ownBlock ∧ capOf v' = capOf v ∨ v'.ownBlock = some w.heap.size ∧ w.grownBy w' none) := by
  obtain ⟨i, hi, hzz⟩ := Option.map_eq_some_iff.1 hU.info
  simp only [Prod.mk.injEq] at hzz
  obtain ⟨hz0, hz1, hz2⟩ := hzz
  obtain ⟨A, c, rfl, hlc, hcm, hc⟩ := hx
  have hlen : (cb l ++ cb m).length = l.length + m.length := by simp
  cases hA : A with
  | none =>
    have hm0 : m = [] := by
      rcases m with _ | ⟨b, m'⟩
      · rfl
      · obtain ⟨ad, h, _⟩ := hc (by simp)
        rw [hA] at h; cases h
    subst hm0
    refine ⟨v, w, ?_, by simpa using hv, World.grownBy.refl w _, .inl ⟨rfl, rfl⟩⟩
    rcases hv.2 with ⟨rfl, h0⟩ | ⟨g, cap, cur, rfl, _, _, hnc, _⟩
    · simp [Builtin.append_, run_underlying hU.sl, sizeOf, typeInfo, hi, Builtin.lenOf, Builtin.firstCells]
    · simp [Builtin.append_, run_underlying hU.sl, sizeOf, typeInfo, hi, Builtin.lenOf, Builtin.firstCells, hnc, storeCells]
  | some ad =>
    have hn : ∀ j u, (cb m)[j]? = some u → w.cell? (ad.add j) = some u := by
      intro j u hu
      have hj : 0 < m.length := by
        rcases Nat.eq_zero_or_pos m.length with h0 | h0
        · have : m = [] := List.eq_nil_of_length_eq_zero h0
          subst this
          simp [cb] at hu
        · exact h0
      obtain ⟨ad', h, hc'⟩ := hc hj
      rw [hA] at h
      cases h
      exact hc' j u hu
    obtain ⟨v', w', hr, h2, h3, _, h5⟩ := run_append_own_at (P := P) w base T ty E i (.int .u8 0) 1 1 hU.sl hi hz0 hz1 hz2 rfl (by omega) v l.length (cb l) hv ad m.length c (cb m) (by simp) hn (cb_one m)
      (by simp only [maxLen]; omega) (by omega) hbase
    have hown : Own w' base E v' (l ++ m) := by
      show w'.ownsRow base E 1 v' (l ++ m).length (cb (l ++ m))
      rw [List.length_append, cb_append]
      exact h2
    refine ⟨v', w', hr, hown, h3, ?_⟩
    rcases hv.2 with ⟨rfl, h0⟩ | ⟨g, cap, cur, rfl, hbg, hgg, hnc, hm', hcs, htake⟩
    · rcases h5 with h5 | h5
      · left
        refine ⟨h5, ?_⟩
        rcases hown.2 with ⟨rfl, _⟩ | ⟨g, cap, cur, rfl, _⟩
        · rfl
        · simp [Value.ownBlock] at h5
      · exact .inr ⟨h5, h3⟩
    · by_cases hroom : l.length + m.length ≤ cap
      · left
        have hq := run_append_room (P := P) w T ty E i hU.sl hi g l.length cap cur hgg ad m.length c (cb m) (by simp [hz1]) hn (cb_one m) hroom (by rw [hz1, hcs]; simp; omega)
        have := hr.symm.trans hq
        simp only [Result.ok.injEq] at this
        rw [this.1]
        exact ⟨rfl, rfl⟩
      · right
        have hq := run_append_grow (P := P) w T ty E i (.int .u8 0) hU.sl hi hz0 ⟨g, 0, none⟩ l.length cap (cb l) (by simp [hz1]) (World.ownsRow.cells hv (g := g) rfl) ad m.length c (cb m) (by simp [hz1]) hn (by omega) (by omega)
          (growslice_fits (by omega) (by rw [hz2]; omega))
        have := hr.symm.trans hq
        simp only [Result.ok.injEq] at this
        rw [this.1, this.2]
        exact ⟨rfl, ⟨rfl, rfl, rfl, by simp, fun k hk _ => heap_alloc_old w.drew _ hk⟩⟩

/-- The operation, in a plain region. -/
theorem wp_app (s x : Operand) {T E : TypeId} (hU : U8 P T E) {w : World} (hgd : o.guard = none) (ho : o.op = .call { callee := .builtin .append, args := #[s, x], argTypes := #[T, T] })
    {base : Nat} {v xv : Value} {l m : List UInt8} (hs : a.eval s = v) (hx : a.eval x = xv) (hv : Own w base E v l) (hm : Rd w xv m) (hbase : base ≤ w.heap.size) (hl : l.length + m.length ≤ 140737488355328)
    (h : ∀ v' w', Own w' base E v' (l ++ m) → w.grownBy w' v.ownBlock → (v'.ownBlock = v.ownBlock ∧ capOf v' = capOf v ∨ v'.ownBlock = some w.heap.size ∧ w.grownBy w' none) → wpList P ops Q rest (a.put o.dst v') w') : wpList P ops Q (o :: rest) a w := by
  refine wpList_plain hgd fun K hK => ?_
  obtain ⟨v', w', hr, h2, h3, h4⟩ := run_app hU o.type hv hm hbase hl
  unfold Oper.wp execOp
  simp only [ho, resolve, invoke, builtin, Sem.run_bind, Sem.run_pure, Result.andThen_ok, List.map_toArray, List.map_cons, List.map_nil, hs, hx, hr]
  exact hK _ _ (h v' w' h2 h3 h4)
/-- One byte, behind its box. -/
theorem rd_box (w : World) (E : TypeId) (y : Int) (b : UInt8) (hy : y = (b.toNat : Int)) : Rd (w.alloc (.cells #[.int .u8 y] E)) (.slice (some ⟨w.heap.size, 0, none⟩) 1 1) [b] := by
  subst hy
  refine ⟨_, 1, rfl, by simp, by simp [maxLen], fun _ => ⟨_, rfl, fun j u hu => ?_⟩⟩
  have hj : j = 0 := by
    rcases j with _ | j
    · rfl
    · simp [cb] at hu
  subst hj
  have : u = .int .u8 (b.toNat : Int) := by simpa [cb] using hu.symm
  subst this
  simp [Addr.add]
end
end Go.Proofs.YtinngljphjdpoaaGreatDoor.Pb
/- Blocks of bytes known whole: make, copy, a byte stored, a slice of one read as a list; bytes as a string. No program in sight; no conditions. -/
namespace Go.Proofs.YtinngljphjdpoaaGreatDoor.Pc
open Go Go.RowKit Go.Proofs.YtinngljphjdpoaaGreatDoor.Pa Go.Proofs.YtinngljphjdpoaaGreatDoor.Pb
set_option linter.unusedVariables false

/-- Block g is just the bytes l. -/
def Arr (w : World) (g : Nat) (E : TypeId) (l : List UInt8) : Prop := hp w g = some (.cells (cb l).toArray E (0, 0))
section
variable {w w' : World} {g : Nat} {E : TypeId} {l : List UInt8}
theorem Arr.lt (h : Arr w g E l) : g < w.heap.size := by
  rcases Nat.lt_or_ge g w.heap.size with h1 | h1
  · exact h1
  · unfold Arr hp at h; rw [Array.getElem?_eq_none h1] at h; cases h
theorem Arr.cell (h : Arr w g E l) (i : Nat) : w.cell? ⟨g, i, none⟩ = (cb l)[i]? := by rw [hp_cell h]; simp
theorem Arr.cellAt (h : Arr w g E l) (i : Nat) (hi : i < l.length) : w.cell? ⟨g, i, none⟩ = some (.int .u8 (l[i].toNat : Int)) := (h.cell i).trans (cb_get l i hi)
theorem Arr.frozen (h : Arr w g E l) (i : Nat) : w.frozen? ⟨g, i, none⟩ = false := hp_frozen h i
theorem Arr.below (h : Arr w g E l) (hb : Below w.heap.size w w') : Arr w' g E l := (hb.hp g h.lt).trans h
theorem Arr.belowB {B : Nat} (h : Arr w g E l) (hb : Below B w w') (hg : g < B) : Arr w' g E l := (hb.hp g hg).trans h
theorem Arr.alloc (h : Arr w g E l) (o : Obj) : Arr (w.alloc o) g E l := (hp_alloc_past o g h.lt).trans h
theorem Arr.drew (h : Arr w g E l) : Arr w.drew g E l := h
theorem Arr.set (h : Arr w g E l) (i : Nat) (b : UInt8) {y : Int} (hy : y = (b.toNat : Int)) : Arr (w.setCell ⟨g, i, none⟩ (.int .u8 y)) g E (l.set i b) := by
  subst hy
  unfold Arr hp at *
  rw [heap_setCell_same w g i _ E _ h]
  congr 2
  apply Array.ext'
  simp [cb, List.map_set]
theorem Arr.far (h : Arr w g E l) (a : Addr) (hne : g ≠ a.block) (u : Value) : Arr (w.setCell a u) g E l := (hp_setCell_other a g u hne).trans h
theorem Arr.row (h : Arr w g E l) (m : List UInt8) : Arr (w.setRow g (cb m).toArray) g E m := hp_setRow_same g _ _ E _ h
theorem Arr.farRow (h : Arr w g E l) (n : Nat) (c : Array Value) (hne : g ≠ n) : Arr (w.setRow n c) g E l := (hp_setRow_other n g c hne).trans h
theorem Arr.new (w : World) (E : TypeId) (l : List UInt8) : Arr (w.alloc (.cells (cb l).toArray E)) w.heap.size E l := hp_alloc_at _ _ rfl
/-- A slice of it. -/
theorem Arr.rd (h : Arr w g E l) (o n c : Nat) (hn : o + n ≤ l.length) (hc : n ≤ c) (hm : c ≤ maxLen) : Rd w (.slice (some ⟨g, o, none⟩) n c) ((l.drop o).take n) := by
  have hl : ((l.drop o).take n).length = n := by simp; omega
  refine ⟨_, c, by rw [hl], by omega, hm, fun _ => ⟨_, rfl, fun j u hu => ?_⟩⟩
  have hadd : (⟨g, o, none⟩ : Addr).add j = ⟨g, o + j, none⟩ := by unfold Addr.add; split <;> simp_all
  rw [hadd, h.cell]
  have hj : j < n := by
    have := (List.getElem?_eq_some_iff.1 hu).1
    simp at this
    omega
  rw [← hu]
  simp [cb, hj]
theorem Arr.own (h : Arr w g E l) (base n : Nat) (hb : base ≤ g) (hn : n ≤ l.length) (hm : l.length ≤ maxLen) : Own w base E (.slice (some ⟨g, 0, none⟩) n l.length) (l.take n) := by
  have hl : (l.take n).length = n := by simp; omega
  refine ⟨by simp, .inr ⟨g, l.length, _, by rw [hl], hb, h, by omega, hm, by simp, ?_⟩⟩
  simp [cb, hl]
end

/-! ### Operations -/
section
variable {P : Program} {T E : TypeId}
/-- make([]byte, n). -/
theorem run_mk (hU : U8 P T E) (n : Nat) (hn : n ≤ 281474976710656) (W : World) :
    (Instr.makeSlice T (.int .i64 (n : Int)) (.int .i64 (n : Int))).run P W = .ok (.slice (some ⟨W.heap.size, 0, none⟩) n n) (W.alloc (.cells (cb (List.replicate n 0)).toArray E)) := by
  rw [run_make_row' T E (.int .u8 0) 1 hU.sl hU.info rfl .i64 .i64 n (by omega) (by omega) W]
  congr 3
  apply Array.ext'
  simp [madeCells, cb]
  apply List.ext_getElem
  · simp
  · intro i h1 h2
    simp [Nat.mod_one]
/-- string(b). -/
theorem run_str (hU : U8 P T E) (he : P.underlying E = some (.int .u8)) {D : TypeId} (hD : P.underlying D = some .string) {w : World} {v : Value} {l : List UInt8} (h : Rd w v l) : (convert T D v).run P w = .ok (.string ⟨l.toArray⟩) w := by
  obtain ⟨A, c, rfl, _, _, hc⟩ := h
  rcases Nat.eq_zero_or_pos l.length with h0 | h0
  · have : l = [] := List.eq_nil_of_length_eq_zero h0
    subst this
    cases A with
    | none => exact run_convert_bytes_nil w T E hU.sl he _ _ D hD
    | some ad => exact run_convert_bytes_back w T D E ad c [] hU.sl he hD (fun j hj => by simp at hj)
  · obtain ⟨ad, rfl, hcell⟩ := hc h0
    exact run_convert_bytes_back w T D E ad c l hU.sl he hD (fun j hj => hcell j _ (cb_get l j hj))
/-- The bytes m laid over those from o on. -/
def over (l : List UInt8) (o : Nat) (m : List UInt8) : List UInt8 := l.take o ++ m ++ l.drop (o + m.length)
theorem over_length (l : List UInt8) (o : Nat) (m : List UInt8) (h : o + m.length ≤ l.length) : (over l o m).length = l.length := by simp [over]; omega
theorem run_cp (hU : U8 P T E) (ty : TypeId) {w : World} {g o dl dc : Nat} {l m : List UInt8} {x : Value} (h : Arr w g E l) (hx : Rd w x m) (hfit : o + (min m.length dl) ≤ l.length) :
    (Builtin.copy_ #[T, T] ty #[.slice (some ⟨g, o, none⟩) dl dc, x]).run P w = .ok (goInt (min m.length dl : Nat)) (w.setRow g (cb (over l o (m.take dl))).toArray) := by
  obtain ⟨A, c, rfl, _, _, hc⟩ := hx
  have hi1 : (P.info? E).map (·.size) = some 1 := by
    obtain ⟨i, hi, hzz⟩ := Option.map_eq_some_iff.1 hU.info
    simp only [Prod.mk.injEq] at hzz
    simp [hi, hzz.2.1]
  have hself : over l o ([] : List UInt8) = l := by simp [over]
  rcases Nat.eq_zero_or_pos m.length with h0 | h0
  · have : m = [] := List.eq_nil_of_length_eq_zero h0
    subst this
    have hrow : w.setRow g (cb l).toArray = w := setRow_self w g (cb l).toArray E (0, 0) h
    simp only [List.take_nil, hself, hrow]
    obtain ⟨i, hi, hzz⟩ := Option.map_eq_some_iff.1 hU.info
    cases A with
    | none => simp [Builtin.copy_, run_underlying hU.sl, Builtin.lenOf, Builtin.firstCells, sizeOf, typeInfo, hi, storeCells]
    | some ad =>
      have hl : (loadCells ad 0).run P w = .ok #[] w := by simpa using run_loadCells_list (P := P) w ad [] (by simp)
      simp [Builtin.copy_, run_underlying hU.sl, Builtin.lenOf, Builtin.firstCells, sizeOf, typeInfo, hi, storeCells, hl]
  · obtain ⟨ad, rfl, hcell⟩ := hc h0
    have hlen : (cb (m.take dl)).length = Nat.min m.length dl := by simp [Nat.min_comm, Nat.min_def]
    have := run_copy_row (P := P) w T T ty E g o dl dc ad m.length c (cb l).toArray E (cb (m.take dl)) hU.sl hi1 h hlen (fun j u hu => hcell j u (by
      have hj := (List.getElem?_eq_some_iff.1 hu).1
      simp at hj
      rw [← hu]
      simp only [cb, List.map_take]
      rw [List.getElem?_take, if_pos (by omega)])) (by rw [hlen]; simpa [cb] using hfit) (cb_one _)
    rw [this, hlen]
    have hov : cb (over l o (m.take dl)) = (cb l).toArray.toList.take o ++ cb (m.take dl) ++ (cb l).toArray.toList.drop (o + (cb (m.take dl)).length) := by
      simp only [over, cb, List.map_append, List.map_take, List.map_drop, List.length_map, List.length_take]
    have hmin : (cb (m.take dl)).length = min m.length dl := by simp [Nat.min_comm]
    rw [hov, hmin]
end
end Go.Proofs.YtinngljphjdpoaaGreatDoor.Pc
/- A world that changed in named blocks alone; slices of the call's own under a store; a family of such slices, each in a block of its own. No program in sight. -/
namespace Go.Proofs.YtinngljphjdpoaaGreatDoor.Pf
open Go Go.RowKit Go.Proofs.YtinngljphjdpoaaGreatDoor.Pa Go.Proofs.YtinngljphjdpoaaGreatDoor.Pb Go.Proofs.YtinngljphjdpoaaGreatDoor.Pc
set_option linter.unusedVariables false
set_option linter.unusedSimpArgs false

/-- w' is w but for blocks of S, and new ones. -/
structure Chg (S : Nat → Prop) (w w' : World) : Prop where
  os : w'.os = w.os
  tape : w'.tape = w.tape
  output : w'.output = w.output
  size : w.heap.size ≤ w'.heap.size
  block : ∀ k, k < w.heap.size → ¬ S k → w'.heap[k]? = w.heap[k]?
section
variable {S S' : Nat → Prop} {w w' w'' w0 : World} {v : Value} {l : List UInt8} {base B : Nat} {E : TypeId}
theorem Chg.refl (S : Nat → Prop) (w : World) : Chg S w w := ⟨rfl, rfl, rfl, Nat.le_refl _, fun _ _ _ => rfl⟩
theorem Chg.trans (h : Chg S w w') (k : Chg S w' w'') : Chg S w w'' :=
  ⟨k.os.trans h.os, k.tape.trans h.tape, k.output.trans h.output, Nat.le_trans h.size k.size, fun i hi hs => (k.block i (Nat.lt_of_lt_of_le hi h.size) hs).trans (h.block i hi hs)⟩
theorem Chg.mono (h : Chg S w w') (hS : ∀ k, k < w.heap.size → S k → S' k) : Chg S' w w' := ⟨h.os, h.tape, h.output, h.size, fun i hi hs => h.block i hi (fun h1 => hs (hS i hi h1))⟩
theorem Chg.grown {row : Option Nat} (h : w.grownBy w' row) : Chg (fun k => row = some k) w w' := ⟨h.os, h.tape, h.output, h.size, fun i hi hs => h.block i hi (fun e => hs e.symm)⟩
theorem Chg.of_below (h : Below w.heap.size w w') : Chg S w w' := ⟨h.os, h.tape, h.output, h.size, fun i hi _ => h.block i hi⟩
theorem Chg.alloc (h : Chg S w w') (o : Obj) : Chg S w (w'.alloc o) := h.trans (.of_below ((Below.refl _ _).alloc (Nat.le_refl _) _))
theorem Chg.drew (h : Chg S w w') : Chg S w w'.drew := ⟨h.os, h.tape, h.output, h.size, h.block⟩
theorem Chg.store (w : World) (a : Addr) (u : Value) : Chg (fun k => k = a.block) w (w.setCell a u) := ⟨rfl, rfl, rfl, by simp [World.setCell], fun k hk hs => Below.heap_setCell _ _ _ _ hs⟩
theorem Chg.row (w : World) (g : Nat) (c : Array Value) : Chg (fun k => k = g) w (w.setRow g c) := ⟨rfl, rfl, rfl, by simp [World.setRow], fun k hk hs => hp_setRow_other g k c hs⟩
theorem Chg.below (h : Chg S w w') (hb : Below B w0 w) (hS : ∀ k, S k → B ≤ k) (hB : B ≤ w.heap.size) : Below B w0 w' :=
  hb.trans ⟨h.os, h.tape, h.output, h.size, fun k hk => h.block k (by omega) (fun hs => by have := hS k hs; omega)⟩
theorem _root_.Go.Proofs.YtinngljphjdpoaaGreatDoor.Pb.Own.chg (h : Own w base E v l) (hc : Chg S w w') (hn : ∀ k, v.ownBlock = some k → ¬ S k) : Own w' base E v l := by
  obtain ⟨h1, h2⟩ := h
  refine ⟨h1, h2.imp id ?_⟩
  rintro ⟨g, cap, cur, rfl, hg, hh, r⟩
  have hlt : g < w.heap.size := by
    rcases Nat.lt_or_ge g w.heap.size with h3 | h3
    · exact h3
    · rw [Array.getElem?_eq_none h3] at hh; cases hh
  exact ⟨g, cap, cur, rfl, hg, (hc.block g hlt (hn g rfl)).trans hh, r⟩
theorem _root_.Go.Proofs.YtinngljphjdpoaaGreatDoor.Pb.Rd.chg (h : Rd w v l) (hc : Chg S w w') (hn : ∀ k, v.ownBlock = some k → ¬ S k) : Rd w' v l := by
  obtain ⟨A, c, rfl, h1, h2, h3⟩ := h
  refine ⟨A, c, rfl, h1, h2, fun h0 => ?_⟩
  obtain ⟨ad, rfl, hcell⟩ := h3 h0
  refine ⟨ad, rfl, fun j u hu => ?_⟩
  have hb : (ad.add j).block = ad.block := by unfold Addr.add; split <;> rfl
  have hlt : (ad.add j).block < w.heap.size := World.block_lt_of_cell? w _ (hcell j u hu)
  refine Eq.trans (World.cell?_of_block (hc.block _ hlt (fun hs => hn ad.block rfl (hb ▸ hs)))) (hcell j u hu)
theorem _root_.Go.Proofs.YtinngljphjdpoaaGreatDoor.Pc.Arr.chg {g : Nat} (h : Arr w g E l) (hc : Chg S w w') (hn : ¬ S g) : Arr w' g E l := (hc.block g h.lt hn).trans h
theorem hp_chg {g : Nat} {o : Obj} (h : hp w g = some o) (hc : Chg S w w') (hn : ¬ S g) : hp w' g = some o := by
  have hlt : g < w.heap.size := by
    rcases Nat.lt_or_ge g w.heap.size with h3 | h3
    · exact h3
    · unfold hp at h; rw [Array.getElem?_eq_none h3] at h; cases h
  exact (hc.block g hlt hn).trans h
/-- A store into one's own. -/
theorem _root_.Go.Proofs.YtinngljphjdpoaaGreatDoor.Pb.Own.set {g n c : Nat} (h : Own w base E (.slice (some ⟨g, 0, none⟩) n c) l) (j : Nat) (b : UInt8) {y : Int} (hy : y = (b.toNat : Int)) : Own (w.setCell ⟨g, j, none⟩ (.int .u8 y)) base E (.slice (some ⟨g, 0, none⟩) n c) (l.set j b) := by
  subst hy
  obtain ⟨A, c', e, _⟩ := h.rd
  have hl : n = l.length := by simp only [Value.slice.injEq] at e; exact e.2.1
  subst hl
  have := (World.ownsRow.stored h j (.int .u8 (b.toNat : Int))).1
  unfold Own
  rw [List.length_set]
  simpa [cb, List.map_set] using this
theorem _root_.Go.Proofs.YtinngljphjdpoaaGreatDoor.Pb.Own.cellAt {g n c : Nat} (h : Own w base E (.slice (some ⟨g, 0, none⟩) n c) l) (j : Nat) (hj : j < l.length) : w.cell? ⟨g, j, none⟩ = some (.int .u8 (l[j].toNat : Int)) := by
  obtain ⟨A, c', e, _⟩ := h.rd
  have hl : n = l.length := by simp only [Value.slice.injEq] at e; exact e.2.1
  subst hl
  exact (World.ownsRow.cellAt h j (by simpa using hj)).trans (cb_get l j hj)
theorem _root_.Go.Proofs.YtinngljphjdpoaaGreatDoor.Pb.Own.frozen {g n c : Nat} (h : Own w base E (.slice (some ⟨g, 0, none⟩) n c) l) (j : Nat) : w.frozen? ⟨g, j, none⟩ = false := by
  obtain ⟨A, c', e, _⟩ := h.rd
  have hl : n = l.length := by simp only [Value.slice.injEq] at e; exact e.2.1
  subst hl
  exact World.ownsRow.frozenAt h j
/-- The two shapes. -/
theorem _root_.Go.Proofs.YtinngljphjdpoaaGreatDoor.Pb.Own.shape (h : Own w base E v l) : (v = .slice none 0 0 ∧ l = []) ∨ ∃ g c, v = .slice (some ⟨g, 0, none⟩) l.length c ∧ base ≤ g ∧ g < w.heap.size := by
  rcases h.2 with ⟨e, h0⟩ | ⟨g, cap, cur, e, hb, hh, _⟩
  · exact .inl ⟨e, List.eq_nil_of_length_eq_zero h0⟩
  · exact .inr ⟨g, cap, e, hb, (h.lt g (by rw [e]; rfl)).2⟩
/-- The head of one's own, of the same room, is one's own. -/
theorem _root_.Go.Proofs.YtinngljphjdpoaaGreatDoor.Pb.Own.head {g n n' c : Nat} {m : List UInt8} (h : Own w base E (.slice (some ⟨g, 0, none⟩) n c) (l ++ m)) (hn : n' = l.length) : Own w base E (.slice (some ⟨g, 0, none⟩) n' c) l := by
  subst hn
  rcases h.2 with ⟨e, _⟩ | ⟨g', cap, cur, e, hg, hh, hnc, hm, hs, ht⟩
  · cases e
  · simp only [Value.slice.injEq, Option.some.injEq, Addr.mk.injEq, and_true] at e
    obtain ⟨rfl, rfl, rfl⟩ := e
    rw [List.length_append] at hnc ht
    refine ⟨by simp, .inr ⟨g, c, cur, rfl, hg, hh, by omega, hm, hs, ?_⟩⟩
    have := congrArg (List.take l.length) ht
    rw [List.take_take] at this
    simp only [cb_append, Nat.mul_one] at this ⊢
    rw [Nat.min_eq_left (by omega)] at this
    rw [this, List.take_append_of_le_length (by simp)]
    exact List.take_of_length_le (by simp)
theorem take_set_succ {α : Type} (l : List α) (k : Nat) (x : α) (h : k < l.length) : (l.set k x).take (k + 1) = l.take k ++ [x] := by
  rw [List.take_set, List.take_succ_eq_append_getElem h, List.set_append_right _ _ (by simp; omega)]
  simp [Nat.min_eq_left (Nat.le_of_lt h)]
end
/-- copy(d, x): d a stretch of a block known whole. -/
theorem run_cp' {P : Program} {T E : TypeId} (hU : U8 P T E) (ty : TypeId) {w : World} {g o dl dc : Nat} {l m : List UInt8} {x : Value} (h : Arr w g E l) (hx : Rd w x m) (hfit : o + (min m.length dl) ≤ l.length) :
    ∃ w', (Builtin.copy_ #[T, T] ty #[.slice (some ⟨g, o, none⟩) dl dc, x]).run P w = .ok (goInt (min m.length dl : Nat)) w' ∧ Arr w' g E (over l o (m.take dl)) ∧ Chg (fun k => k = g) w w' :=
  ⟨_, run_cp hU ty h hx hfit, h.row _, Chg.row w g _⟩
end Go.Proofs.YtinngljphjdpoaaGreatDoor.Pf
/- From a walk to a law's row: arguments opened to bytes and numbers; the law's post out of a walk that answers true and leaves all old memory as it was. No program in sight; no conditions. -/
namespace Go.Proofs.YtinngljphjdpoaaGreatDoor.Pl
open Go Go.RowKit Go.ChangeShapes Go.WideShapes Go.ChangeAt Go.Proofs.YtinngljphjdpoaaGreatDoor.Pa Go.Proofs.YtinngljphjdpoaaGreatDoor.Pb

section
variable {H : Type} {enc : TypeId × Value → H} {P : Program}

/-- What reads still reads behind a call that leaves old memory as it was. -/
theorem trodAll_below (hl : laidOutB P = true) {W W' : World} (hb : Below W.heap.size W W') : ∀ (ts : List TypeId) (vs : List Value) (ds : List (DataW H)) (p : List MemPlace), ts.all (fun t => P.readableRec t && decide (t < P.types.size)) = true →
    DataW.TrodAll enc P W 0 (fun _ => true) true ts vs ds p → DataW.TrodAll enc P W' 0 (fun b => decide (b < W.heap.size)) true ts vs ds p
  | [], vs, ds, p, _, h => by
    obtain ⟨rfl, rfl, rfl⟩ := trodAll_nil h
    exact trodAll_mk0
  | t :: ts, vs, ds, p, ha, h => by
    obtain ⟨v0, vs0, d0, ds0, p0, q0, rfl, rfl, rfl, h0, r0⟩ := trodAll_cons h
    simp only [List.all_cons, Bool.and_eq_true, decide_eq_true_eq] at ha
    obtain ⟨⟨h1, h2⟩, h3⟩ := ha
    have hlt : ∀ x ∈ p0, x.block < W.heap.size := by
      obtain ⟨m, hm⟩ := h0
      exact DataW.trod_lt m _ _ _ hm
    exact trodAll_cons_mk (Below.trod hl h1 h2 h0 hb hlt) (trodAll_below hl hb ts vs0 ds0 q0 h3 r0)

theorem post_of_below {fn : Func} {s : ChangeSpec} {W W' : World} {args : Array Value} {ds gs : List (DataW H)} {before : List MemPlace} {tb : TypeId} (hW : DataW.Whole enc P fn.params.toList s.vars false W args.toList ds gs before)
    (hvars : s.vars = []) (hres : fn.resultTypes = #[tb]) (htb : P.underlying tb = some .bool) (hspec : s.fn H (ds ++ gs) = { results := [.lit (.bool true)], args := ds, vars := [] }) (hl : laidOutB P = true)
    (hall : fn.params.toList.all (fun t => P.readableRec t && decide (t < P.types.size)) = true) (hb : Below W.heap.size W W') : s.post enc P fn false true false false W args (.bool true) W' := by
  have hW0 := hW
  obtain ⟨p, q, hA, hV, rfl, hfz, hnd⟩ := hW
  refine ⟨ds, gs, _, [], p, [], hW0, ?_, ?_, ?_, hb.frame _, fun h => by cases h⟩
  · rw [hspec, hres]
    exact trodAll_mk1 (shut_bool htb _)
  · rw [hspec]
    exact trodAll_below hl hb _ _ _ _ hall hA
  · rw [hspec, hvars]
    rfl

variable {w : World} {base : Nat} {spare : Nat → Bool} {held : Bool} {fuel : Nat} {t e : TypeId} {cs : List Value} {x : DataW H × List MemPlace}
/-- An array of bytes. -/
theorem open_bytes {n : Nat} (ht : P.underlying t = some (.array n e)) (he : P.underlying e = some (.int .u8)) (hc : P.cellsOf e = 1) (hct : P.cellsOf t = n) (h : DataW.trod enc P w base spare held fuel t cs = some x) :
    ∃ k : Vector UInt8 n, cs = (bv k).toList := by
  obtain ⟨xs, m, _, _, hlen, hxl, hi⟩ := DataW.trod_array ht h
  rw [hct] at hlen
  have hcell : ∀ i (hi : i < n), ∃ b : UInt8, cs[i]'(by omega) = .int .u8 (b.toNat : Int) := by
    intro i hin
    have h1 := hi i hin
    rw [hc, Nat.mul_one, List.drop_eq_getElem_cons (by omega), List.getElem?_eq_getElem (by omega)] at h1
    simp only [List.take_succ_cons, List.take_zero] at h1
    obtain ⟨z, hz, _, hw⟩ := DataW.trod_int he h1
    have hz' : cs[i]'(by omega) = .int .u8 z := by simpa using hz
    have hb := bounds_u8 hw
    refine ⟨UInt8.ofNat z.toNat, ?_⟩
    rw [hz']
    have : (UInt8.ofNat z.toNat).toNat = z.toNat := by simp; omega
    rw [this]
    congr 1
    omega
  let g : Value → UInt8 := fun | .int _ z => UInt8.ofNat z.toNat | _ => 0
  refine ⟨⟨(cs.map g).toArray, by simp [hlen]⟩, ?_⟩
  apply List.ext_getElem
  · simp [bv]
  · intro i h1 h2
    obtain ⟨b, hb⟩ := hcell i (by omega)
    simp [bv, hb, g]
/-- Parts of a list, joined again. -/
theorem split_on (cs : List Value) (o n : Nat) : cs.drop o = (cs.drop o).take n ++ cs.drop (o + n) := by
  rw [← List.drop_drop, List.take_append_drop]
theorem split_end (cs : List Value) (o n : Nat) (h : cs.length = o + n) : cs.drop o = (cs.drop o).take n := by
  rw [List.take_of_length_le]; simp [h]
theorem agg_of_list {v : Value} {c : Array Value} {cs : Array Value} (hv : v = .agg cs) (h : cs.toList = c.toList) : v = .agg c := by
  rw [hv, Array.toList_inj.1 h]
theorem okWide_arr {n : Nat} {r : Reach} {v : Value} (ht : P.underlying t = some (.array n e)) (h : Value.okWide P w r base t v) : ∃ cs, v = .agg cs := by
  simp only [Value.okWide, ht] at h
  obtain ⟨cs, h1, _⟩ := h
  exact ⟨cs, h1⟩
/-- A slice of bytes that came in: what it reads as, and how long it may be. -/
theorem open_u8s {W : World} {v : Value} {d : DataW H} {ps : List MemPlace} {r : Reach} {b0 : Nat} {ts : List TypeId} {ds : List (DataW H)} {j : Nat} (ht : P.underlying t = some (.slice e)) (he : P.underlying e = some (.int .u8)) (hc : P.cellsOf e = 1) (hby : P.bytesOf e = 1)
    (hv : Value.okWide P W r b0 t v) (h : DataW.Trod enc P W base spare held t v d ps) (hsz : (DataW.weightsEach P ts ds).all (· ≤ reachBytes) = true) (htj : ts[j]? = some t) (hdj : ds[j]? = some d) :
    ∃ l : List UInt8, Rd W v l ∧ l.length ≤ 140737488351232 := by
  obtain ⟨a, len, cap, rfl⟩ := okWide_slice ht hv
  obtain ⟨fuel, hf⟩ := h
  rcases open_ints ht he hc hf with ⟨hcs, _⟩ | ⟨x, n, c, zs, hcs, _, hl, hm, hz, hx, hcell, hwf⟩
  · simp [Value.cells] at hcs
    obtain ⟨rfl, rfl, rfl⟩ := hcs
    exact ⟨[], Rd.nil W, by simp⟩
  · simp [Value.cells] at hcs
    obtain ⟨rfl, rfl, rfl⟩ := hcs
    obtain ⟨hx, _⟩ := Prod.mk.inj hx
    subst hx
    have z := sized_slice hsz htj hdj ht
    rw [hby, Nat.mul_one] at z
    have hlz : len ≤ zs.length := by rw [hz]; split <;> omega
    simp [lits, Nat.min_eq_left hlz] at z
    have hrb : reachBytes = 140737488351232 := rfl
    refine ⟨(zs.take len).map fun z => UInt8.ofNat z.toNat, ⟨some x, cap, by simp [Nat.min_eq_left hlz], by simp; omega, hm, fun _ => ⟨x, rfl, fun i u hu => ?_⟩⟩, by simp; omega⟩
    have hi : i < len := by
      have := (List.getElem?_eq_some_iff.1 hu).1
      simp at this
      omega
    have hcl := hcell i (by omega)
    rw [hcl, ← hu]
    have hiz : i < zs.length := by omega
    have hw := bounds_u8 (hwf zs[i] (List.getElem_mem hiz))
    simp only [cb, List.map_map, List.getElem?_map, List.getElem?_take, if_pos hi, List.getElem?_eq_getElem hiz, Option.map_some, Function.comp_apply, List.getD_eq_getElem?_getD, Option.getD_some]
    congr 2
    have : (UInt8.ofNat (zs[i]).toNat).toNat = (zs[i]).toNat := by simp; omega
    rw [this]
    omega
end
end Go.Proofs.YtinngljphjdpoaaGreatDoor.Pl
