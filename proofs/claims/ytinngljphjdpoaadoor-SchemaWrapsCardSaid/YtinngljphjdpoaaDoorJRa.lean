/- A block's contents below, and beside a store: plain. -/
import Derived.Test.YtinngljphjdpoaaDoorJHv
import Derived.Test.YtinngljphjdpoaaDoorJHs
import Derived.Test.YtinngljphjdpoaaDoorJEa
import Derived.Deep.DeepCutAuto
import Derived.Test.YtinngljphjdpoaaDoorJTx
import Derived.Test.YtinngljphjdpoaaDoorJVi
import Derived.Recover
import Derived.BigRegion
import Derived.Deep.RegionWith
import Derived.Test.YtinngljphjdpoaaDoorJCm
import Derived.OwnWalk
import Derived.Test.YtinngljphjdpoaaDoorProg
import Derived.WalkKit
import Derived.LaidEql
import Derived.Stop.Asserts
import Derived.RowKitTokens
import Derived.Test.YtinngljphjdpoaaDoorJPl
import Derived.Test.YtinngljphjdpoaaDoorJUv
namespace Go.Proofs.YtinngljphjdpoaaDoor.Hx
open Go Go.RowKit Go.Proofs.YtinngljphjdpoaaDoor.Pa Go.Proofs.YtinngljphjdpoaaDoor.Pb Go.Proofs.YtinngljphjdpoaaDoor.Pc Go.Proofs.YtinngljphjdpoaaDoor.Pf Go.Proofs.YtinngljphjdpoaaDoor.Sc Go.Proofs.YtinngljphjdpoaaDoor.Rs Go.Proofs.YtinngljphjdpoaaDoor.Hs Go.Proofs.YtinngljphjdpoaaDoor.Vu Go.Proofs.YtinngljphjdpoaaDoor.Vo Go.Proofs.YtinngljphjdpoaaDoor.Hv
set_option linter.unusedVariables false
set_option linter.unusedSimpArgs false
/-- What the bytes with marks are, k of them set. -/
theorem below_hp {w w' : World} {g : Nat} {o : Obj} (h : hp w g = some o) (hb : Below w.heap.size w w') : hp w' g = some o := by
  have hlt : g < w.heap.size := (Array.getElem?_eq_some_iff.1 h).1
  exact (hb.hp _ hlt).trans h
theorem set_hp {w : World} {g q o : Nat} {ob : Obj} {v : Value} (h : hp w g = some ob) (hne : g ≠ q) : hp (w.setCell ⟨q, o, none⟩ v) g = some ob := (hp_setCell_other _ _ _ hne).trans h
end Go.Proofs.YtinngljphjdpoaaDoor.Hx
/- The reference: within, plain. -/
namespace Go.Proofs.YtinngljphjdpoaaDoor.Rp
open Go Go.RowKit Go.Proofs.YtinngljphjdpoaaDoor.Pa Go.Proofs.YtinngljphjdpoaaDoor.Pb Go.Proofs.YtinngljphjdpoaaDoor.Pf Go.Proofs.YtinngljphjdpoaaDoor.Sc Go.Proofs.YtinngljphjdpoaaDoor.Rs Go.Proofs.YtinngljphjdpoaaDoor.Vu Go.Proofs.YtinngljphjdpoaaDoor.Vh Go.Proofs.YtinngljphjdpoaaDoor.Fl Go.Proofs.YtinngljphjdpoaaDoor.Rf Go.Proofs.YtinngljphjdpoaaDoor.Tx
set_option linter.unusedVariables false
set_option linter.unusedSimpArgs false
theorem within_zero {n a b : Nat} : (Vu.within n a b = 0) ↔ (a ≤ n ∧ n ≤ b) := by unfold Vu.within; split <;> constructor <;> intro h <;> first | omega | rfl
theorem within_no {n a b : Nat} (h : ¬ Vu.within n a b = 0) : Vu.within n a b = 83 := by unfold Vu.within at *; split <;> simp_all
theorem b2s (w : World) (o o' : Obj) : w.heap.size ≤ ((w.alloc o).alloc o').heap.size := by simp; omega
/-- What plain answers. -/
def plainOf (U : List UInt8 → Bool) (t : Slot) (x : Va) : Int := if isOf t x = false then 84 else badOf pF U t x x.parts.length
-- @GEN
end Go.Proofs.YtinngljphjdpoaaDoor.Rp
/- caught, Check. -/
namespace Go.Proofs.YtinngljphjdpoaaDoor.Vj
open Go Go.RowKit Go.Proofs.YtinngljphjdpoaaDoor.Pa Go.Proofs.YtinngljphjdpoaaDoor.Pb Go.Proofs.YtinngljphjdpoaaDoor.Pf Go.Proofs.YtinngljphjdpoaaDoor.Pq Go.Proofs.YtinngljphjdpoaaDoor.Sc Go.Proofs.YtinngljphjdpoaaDoor.Rs Go.Proofs.YtinngljphjdpoaaDoor.Hs Go.Proofs.YtinngljphjdpoaaDoor.Ca Go.Proofs.YtinngljphjdpoaaDoor.Cb Go.Proofs.YtinngljphjdpoaaDoor.Vu Go.Proofs.YtinngljphjdpoaaDoor.Vg Go.Proofs.YtinngljphjdpoaaDoor.Vh Go.Proofs.YtinngljphjdpoaaDoor.Vi
set_option linter.unusedVariables false
set_option linter.unusedSimpArgs false
theorem check_all (U : List UInt8 → Bool) (HU : UtfSaid U) : ∀ n, CheckSaid pF U n := by
  intro n
  induction n with
  | zero => exact fun S g k l nv dv pv x deep w hc => hc.elim
  | succ n ih => exact check U HU n ih
/-- A fault's cells. -/
def fcells (f : Flt) : Array Value := #[.int .i64 f.1, .int .i64 f.2.1, .int .i64 f.2.2]
@[go_sem] theorem ta_fault (xT : TypeId) (v : Value) (w : World) : (Instr.typeAssert (.iface 94 v) xT 94 true).run Tryd.prog w = .ok (.tuple #[v, .bool true]) w := by
  simp [Instr.typeAssert, Sem.run_bind, run_underlying Tryd.underlying94, Result.andThen_ok]
set_option maxRecDepth 100000 in
theorem caught_panic (g : Nat) (f1 f2 f3 : Int) (w : World) (hg : hp w g = some (.cells #[.nilIface] 36 (0, 0))) :
    CallsD Tryd.prog 32 #[.pointer (some ⟨g, 0, none⟩)] (.panicking ({ v := .iface 94 (.agg #[.int .i64 f1, .int .i64 f2, .int .i64 f3]), recovered := false } :: [])) w fun e u' w' =>
      e = .returned (.tuple #[]) ∧ u' = .panicking ({ v := .iface 94 (.agg #[.int .i64 f1, .int .i64 f2, .int .i64 f3]), recovered := true } :: []) ∧ w' = (w.setCell ⟨g, 0, none⟩ (.iface 92 (.pointer (some ⟨w.heap.size, 0, none⟩)))).alloc (.cells #[.int .i64 f1, .int .i64 f2, .int .i64 f3] 94) := by
  have hlt : g < w.heap.size := (Array.getElem?_eq_some_iff.1 hg).1
  have hne : ¬ g = w.heap.size := by omega
  have hne2 : ¬ w.heap.size = g := by omega
  have hc := fun i => hp_cell hg i
  have hz := fun i => hp_frozen hg i
  clear hg
  refine callsD_of_wpS Tryd.func32 rfl fun c₀ cs hu => ?_
  apply wpS_seq
  apply wpS_region
  simp [wpOpsS, go_sem, recoverD, hu, Tryd.ntmps32, Exit.thenS]
  rw [show (#[Value.pointer (some ⟨g, 0, none⟩)] ++ ((Array.replicate 18 undef).setIfInBounds 4 (Value.iface 94 (.agg #[.int .i64 f1, .int .i64 f2, .int .i64 f3]))).setIfInBounds 1 (Value.iface 94 (.agg #[.int .i64 f1, .int .i64 f2, .int .i64 f3]))) =
    #[.pointer (some ⟨g, 0, none⟩), undef, .iface 94 (.agg #[.int .i64 f1, .int .i64 f2, .int .i64 f3]), undef, undef, .iface 94 (.agg #[.int .i64 f1, .int .i64 f2, .int .i64 f3]), undef, undef, undef, undef, undef, undef, undef, undef, undef, undef, undef, undef, undef] from by kernel_rfl]
  refine wpS_of_wp ?_
  go_wp2
  exact ⟨rfl, _, rfl, _, results_none rfl _ _ _, rfl, rfl, rfl⟩
set_option maxRecDepth 100000 in
theorem caught_idle (g : Nat) (w : World) :
    CallsD Tryd.prog 32 #[.pointer (some ⟨g, 0, none⟩)] .returning w fun e u' w' => e = .returned (.tuple #[]) ∧ u' = .returning ∧ w' = w := by
  refine callsD_of_wpS Tryd.func32 rfl fun c₀ cs hu => ?_
  apply wpS_seq
  apply wpS_region
  simp [wpOpsS, go_sem, recoverD, hu, Tryd.ntmps32, Exit.thenS]
  rw [show (#[Value.pointer (some ⟨g, 0, none⟩)] ++ ((Array.replicate 18 undef).setIfInBounds 4 Value.nilIface).setIfInBounds 1 Value.nilIface) =
    #[.pointer (some ⟨g, 0, none⟩), undef, .nilIface, undef, undef, .nilIface, undef, undef, undef, undef, undef, undef, undef, undef, undef, undef, undef, undef, undef] from by kernel_rfl]
  refine wpS_of_wp ?_
  go_wp2
  cases c₀
  simp only at hu
  subst hu
  exact ⟨rfl, _, rfl, _, results_none rfl _ _ _, rfl, rfl, rfl⟩
/-- An error that says a fault (none: nil), in a block of its own not below base. -/
def ErrOf (f : Flt) (base : Nat) (v : Value) (w : World) : Prop :=
  (f.2.2 = 0 ∧ v = .nilIface) ∨ (f.2.2 ≠ 0 ∧ ∃ b, base ≤ b ∧ v = .iface 92 (ptr b) ∧ hp w b = some (.cells #[.int .i64 f.1, .int .i64 f.2.1, .int .i64 f.2.2] 94 (0, 0)))
set_option maxHeartbeats 1000000 in
set_option maxRecDepth 100000 in
/-- Check. -/
theorem pCheck (U : List UInt8 → Bool) (HU : UtfSaid U) (S : Pl) (g k n : Nat) (l : List Slot) (nv dv pv : Value) (x : Va) (w : World) (hc : Cd w S n g l) (hx : RdV w k nv dv pv x) (hT : TabU w) (hn : n ≤ 999999) :
    Calls Tryd.prog 16 #[ptr g, .agg #[nv, dv, pv]] w fun e w' => ∃ v, e = .returned v ∧ ErrOf (chk pF U n l x 1) w.heap.size v w' ∧ Below w.heap.size w w' := by
  have hcon : ∀ w4, Below w.heap.size w w4 → Calls Tryd.prog 33 #[ptr g, .agg #[nv, dv, pv], .int .i64 1] w4 (Vi.Ends (chk pF U n l x 1) w4) := fun w4 hb =>
    check_all U HU n S g k l nv dv pv x 1 w4 (hc.below hb) (hx.below hb) (hT.below hb) (by omega) (by omega)
  have HCON := Lib.hid hcon
  obtain ⟨hnum, rfl, hdv, hpv⟩ := hx
  obtain ⟨Ad, cd, rfl, -, -⟩ : ∃ A c, dv = .slice A x.data.length c ∧ x.data.length ≤ c ∧ c ≤ maxLen := by obtain ⟨A, c, e, h1, h2, -⟩ := hdv; exact ⟨A, c, e, h1, h2⟩
  obtain ⟨Ap, cp, rfl, -, -⟩ := hpv.slice
  clear hcon hc hdv hpv hT
  generalize chk pF U n l x 1 = f at *
  unfold ptr at *
  go_enter_defers Tryd.func16, Tryd.ntmps16
  go_wp2_with (go_at_call 9999)
  go_at_call 33
  obtain ⟨w2, hw2⟩ : ∃ y, y = (w.alloc (.cells #[.int .u64 x.num, .slice Ad x.data.length cd, .slice Ap x.parts.length cp] 27)).alloc (.cells #[.nilIface] 36) := ⟨_, rfl⟩
  have hb2 : Below w.heap.size w w2 := by rw [hw2]; exact b2 _ _ _
  have hs2 : w2.heap.size = w.heap.size + 1 + 1 := by rw [hw2]; simp
  have he2 : hp w2 (w.heap.size + 1) = some (.cells #[.nilIface] 36 (0, 0)) := by rw [hw2]; exact hp_alloc_at _ _ (by simp)
  rw [← hw2]
  have HB2 := Lib.hid hb2; have HE2 := Lib.hid he2; have HS2 := Lib.hid hs2
  clear hw2 hb2 he2 hs2
  refine (HCON.out w2 HB2.out).mono ?_
  rintro e w3 ⟨⟨h0, rfl⟩ | ⟨h0, rfl⟩, hb⟩
  · have he3 : hp w3 (w.heap.size + 1) = some (.cells #[.nilIface] 36 (0, 0)) := (hb.hp _ (by have := HS2.out; omega)).trans HE2.out
    have hc3 := fun i => hp_cell he3 i
    have hf3 := fun i => hp_frozen he3 i
    have HB3 := Lib.hid (HB2.out.trans (hb.mono HB2.out.size)); have H0 := Lib.hid h0
    clear he3 hb h0
    go_wp2_with fail
    refine leaves_cons (f := 32) (args := #[.pointer (some ⟨w.heap.size + 1, 0, none⟩)]) (by simp) (by simp [go_sem]) ?_
    refine (caught_idle (w.heap.size + 1) _).mono ?_
    rintro e u' w'' ⟨rfl, rfl, rfl⟩
    have hb4 := HB3.out.setCell (p := ⟨w.heap.size + 1, 0, none⟩) (by simp) (.nilIface)
    have hh4 := H0.out
    simp [Leaves, settle, results, Tryd.results16, go_sem, hc3]
    exact ⟨.inl ⟨hh4, rfl⟩, hb4⟩
  · have he3 : hp w3 (w.heap.size + 1) = some (.cells #[.nilIface] 36 (0, 0)) := (hb.hp _ (by have := HS2.out; omega)).trans HE2.out
    refine leaves_cons (f := 32) (args := #[.pointer (some ⟨w.heap.size + 1, 0, none⟩)]) (by simp) (by simp [go_sem]) ?_
    refine (caught_panic (w.heap.size + 1) f.1 f.2.1 f.2.2 w3 he3).mono ?_
    rintro e u' w'' ⟨rfl, rfl, rfl⟩
    have hb3 := HB2.out.trans (hb.mono HB2.out.size)
    have hc3 := fun i => hp_cell he3 i
    have hb4 := (hb3.setCell (p := ⟨w.heap.size + 1, 0, none⟩) (by simp) (.iface 92 (.pointer (some ⟨w3.heap.size, 0, none⟩)))).alloc (by simp [World.setCell]; exact hb3.size) (.cells #[.int .i64 f.1, .int .i64 f.2.1, .int .i64 f.2.2] 94)
    have hs3 := hb3.size
    have hs4 : w.heap.size + 1 < w3.heap.size := by have := HS2.out; have := hb.size; omega
    have hcell : ((w3.setCell ⟨w.heap.size + 1, 0, none⟩ (.iface 92 (.pointer (some ⟨w3.heap.size, 0, none⟩)))).alloc (.cells #[.int .i64 f.1, .int .i64 f.2.1, .int .i64 f.2.2] 94)).cell? ⟨w.heap.size + 1, 0, none⟩ = some (.iface 92 (.pointer (some ⟨w3.heap.size, 0, none⟩))) := by
      have h1 : hp (w3.setCell ⟨w.heap.size + 1, 0, none⟩ (.iface 92 (.pointer (some ⟨w3.heap.size, 0, none⟩)))) (w.heap.size + 1) = some (.cells #[.iface 92 (.pointer (some ⟨w3.heap.size, 0, none⟩))] 36 (0, 0)) := heap_setCell_same _ _ 0 _ _ _ he3
      exact hp_cell ((hp_alloc_past _ _ (by simp [World.setCell]; omega)).trans h1) 0
    have hq : hp ((w3.setCell ⟨w.heap.size + 1, 0, none⟩ (.iface 92 (.pointer (some ⟨w3.heap.size, 0, none⟩)))).alloc (.cells #[.int .i64 f.1, .int .i64 f.2.1, .int .i64 f.2.2] 94)) w3.heap.size = some (.cells #[.int .i64 f.1, .int .i64 f.2.1, .int .i64 f.2.2] 94 (0, 0)) := hp_alloc_at _ _ (by simp [World.setCell])
    simp [Leaves, settle, results, Tryd.results16, go_sem, hc3, hcell]
    exact ⟨.inr ⟨h0, _, hs3, rfl, hq⟩, hb4⟩
end Go.Proofs.YtinngljphjdpoaaDoor.Vj
/- The reference: plain joined, part, check. -/
namespace Go.Proofs.YtinngljphjdpoaaDoor.Rq
open Go Go.RowKit Go.Proofs.YtinngljphjdpoaaDoor.Pa Go.Proofs.YtinngljphjdpoaaDoor.Pb Go.Proofs.YtinngljphjdpoaaDoor.Pf Go.Proofs.YtinngljphjdpoaaDoor.Sc Go.Proofs.YtinngljphjdpoaaDoor.Rs Go.Proofs.YtinngljphjdpoaaDoor.Vu Go.Proofs.YtinngljphjdpoaaDoor.Vo Go.Proofs.YtinngljphjdpoaaDoor.Vh Go.Proofs.YtinngljphjdpoaaDoor.Fl Go.Proofs.YtinngljphjdpoaaDoor.Rf Go.Proofs.YtinngljphjdpoaaDoor.Tx Go.Proofs.YtinngljphjdpoaaDoor.Rp
set_option linter.unusedVariables false
set_option linter.unusedSimpArgs false
theorem re_int {a b : Int} {w : World} (e : a = b) : (fun (en : Ending) (w' : World) => en = .returned (.int .i64 a) ∧ Below w.heap.size w w') = (fun en w' => en = .returned (.int .i64 b) ∧ Below w.heap.size w w') := by rw [e]
theorem calls_eq {f : Nat} {args : Array Value} {w : World} {a b : Int} (h : Calls Tryd.prog f args w fun e w' => e = .returned (.int .i64 a) ∧ Below w.heap.size w w') (e : a = b) : Calls Tryd.prog f args w fun e w' => e = .returned (.int .i64 b) ∧ Below w.heap.size w w' := e ▸ h
theorem wz {n a b : Nat} : (if Vu.within n a b ≠ 0 then (83 : Int) else 0) = Vu.within n a b := by unfold Vu.within; split <;> split <;> simp_all
/-- A fault as a value. -/
def fl (f : Flt) : Value := .agg #[.int .i64 f.1, .int .i64 f.2.1, .int .i64 f.2.2]
/-- What part answers. -/
def partOf (U : List UInt8 → Bool) (n : Nat) (t : Slot) (x : Va) (deep : Int) : Flt :=
  if t.kind = 8 then chk pF U n t.sub x (deep + 1)
  else if plainOf U t x ≠ 0 then (deep, t.no, plainOf U t x)
  else if t.kind = 9 then itemsGo (fun y => chk pF U n t.sub y (deep + 1)) x.parts
  else (0, 0, 0)
theorem chk_succ (U : List UInt8 → Bool) (n : Nat) (s : List Slot) (v : Va) (deep : Int) : chk pF U (n + 1) s v deep =
    (if v.num ≠ 0 ∨ v.data.length ≠ 0 then (deep, 0, 84) else if v.parts.length ≠ s.length then (deep, 0, 81) else chkGo (fun t x => partOf U n t x deep) s v.parts) := by
  simp only [chk]
  congr 2
  congr 1
  funext t x
  simp only [partOf, plainOf]
  by_cases h8 : t.kind = 8
  · simp [h8]
  · rw [if_neg h8, if_neg h8]
    by_cases hi : isOf t x = false
    · simp [hi]
    · simp [hi]
theorem itemsGo_drop (f : Va → Flt) (p : List Va) (i : Nat) (h : i < p.length) : itemsGo f (p.drop i) = if (f p[i]).2.2 ≠ 0 then f p[i] else itemsGo f (p.drop (i + 1)) := by
  rw [List.drop_eq_getElem_cons h]; rfl
theorem chkGo_drop (f : Slot → Va → Flt) (s : List Slot) (p : List Va) (i : Nat) (h : i < p.length) (h2 : i < s.length) : chkGo f (s.drop i) (p.drop i) = if (f s[i] p[i]).2.2 ≠ 0 then f s[i] p[i] else chkGo f (s.drop (i + 1)) (p.drop (i + 1)) := by
  rw [List.drop_eq_getElem_cons h, List.drop_eq_getElem_cons h2]; rfl
/-- The world where a fault is laid. -/
def set3 (w : World) (g : Nat) (f : Flt) : World := ((w.setCell ⟨g, 0, none⟩ (.int .i64 f.1)).setCell ⟨g, 1, none⟩ (.int .i64 f.2.1)).setCell ⟨g, 2, none⟩ (.int .i64 f.2.2)
theorem hp_set3 {w : World} {g : Nat} {a b c : Value} {t : TypeId} (h : hp w g = some (.cells #[a, b, c] t (0, 0))) (f : Flt) : hp (set3 w g f) g = some (.cells #[.int .i64 f.1, .int .i64 f.2.1, .int .i64 f.2.2] t (0, 0)) := by
  have h1 := heap_setCell_same w g 0 _ _ (.int .i64 f.1) h
  have h2 := heap_setCell_same _ g 1 _ _ (.int .i64 f.2.1) h1
  exact heap_setCell_same _ g 2 _ _ (.int .i64 f.2.2) h2
theorem below_set3 {B : Nat} {w0 w : World} (h : Below B w0 w) {g : Nat} (hg : B ≤ g) (f : Flt) : Below B w0 (set3 w g f) := ((h.setCell hg _).setCell hg _).setCell hg _
end Go.Proofs.YtinngljphjdpoaaDoor.Rq
/- The reference: part. -/
namespace Go.Proofs.YtinngljphjdpoaaDoor.Rr
open Go Go.RowKit Go.Proofs.YtinngljphjdpoaaDoor.Pa Go.Proofs.YtinngljphjdpoaaDoor.Pb Go.Proofs.YtinngljphjdpoaaDoor.Pf Go.Proofs.YtinngljphjdpoaaDoor.Pq Go.Proofs.YtinngljphjdpoaaDoor.Sc Go.Proofs.YtinngljphjdpoaaDoor.Rs Go.Proofs.YtinngljphjdpoaaDoor.Vu Go.Proofs.YtinngljphjdpoaaDoor.Vo Go.Proofs.YtinngljphjdpoaaDoor.Rp Go.Proofs.YtinngljphjdpoaaDoor.Rq Go.Proofs.YtinngljphjdpoaaDoor.Hx
set_option linter.unusedVariables false
set_option linter.unusedSimpArgs false
theorem retf {f g : Flt} (h : f = g) : Ending.returned (.agg #[.int .i64 f.1, .int .i64 f.2.1, .int .i64 f.2.2]) = .returned (fl g) := by rw [h]; rfl
/-- The three boxes of part. -/
def Bx (w : World) (no kind : Int) (a b : Nat) (C : Option Addr) (m c3 : Nat) (num : Nat) (Ad : Option Addr) (dl cd : Nat) (Ap : Option Addr) (pl cp : Nat) (W : World) : Prop :=
  Below w.heap.size w W ∧ w.heap.size + 3 ≤ W.heap.size ∧ hp W w.heap.size = some (.cells #[.int .i64 no, .int .i64 kind, .int .u64 (a : Int), .int .u64 (b : Int), .slice C m c3] 53 (0, 0)) ∧
  hp W (w.heap.size + 1) = some (.cells #[.int .u64 (num : Int), .slice Ad dl cd, .slice Ap pl cp] 27 (0, 0)) ∧ hp W (w.heap.size + 2) = some (.cells #[.int .i64 0, .int .i64 0, .int .i64 0] 94 (0, 0))
theorem Bx.below {w : World} {no kind : Int} {a b : Nat} {C : Option Addr} {m c3 : Nat} {num : Nat} {Ad : Option Addr} {dl cd : Nat} {Ap : Option Addr} {pl cp : Nat} {W W' : World} (h : Bx w no kind a b C m c3 num Ad dl cd Ap pl cp W) (hb : Below W.heap.size W W') : Bx w no kind a b C m c3 num Ad dl cd Ap pl cp W' :=
  ⟨h.1.trans (hb.mono h.1.size), Nat.le_trans h.2.1 hb.size, below_hp h.2.2.1 hb, below_hp h.2.2.2.1 hb, below_hp h.2.2.2.2 hb⟩
theorem bx_new (w : World) (no kind : Int) (a b : Nat) (C : Option Addr) (m c3 : Nat) (num : Nat) (Ad : Option Addr) (dl cd : Nat) (Ap : Option Addr) (pl cp : Nat) :
    Bx w no kind a b C m c3 num Ad dl cd Ap pl cp (((w.alloc (.cells #[.int .i64 no, .int .i64 kind, .int .u64 (a : Int), .int .u64 (b : Int), .slice C m c3] 53)).alloc (.cells #[.int .u64 (num : Int), .slice Ad dl cd, .slice Ap pl cp] 27)).alloc (.cells #[.int .i64 0, .int .i64 0, .int .i64 0] 94)) := by
  have h : ∀ {w' : World} (o : Obj), Below w.heap.size w w' → Below w.heap.size w (w'.alloc o) := fun o hb => hb.alloc hb.size _
  exact ⟨h _ (h _ (h _ (Below.refl _ _))), by simp, (hp_alloc_past _ _ (by simp; omega)).trans ((hp_alloc_past _ _ (by simp)).trans (hp_alloc_at _ _ rfl)), (hp_alloc_past _ _ (by simp)).trans (hp_alloc_at _ _ (by simp)), hp_alloc_at _ _ (by simp)⟩
section
variable (n : Nat) (k m : Nat) (no : Int) (a b : Nat) (sub : List Slot) (C : Option Addr) (c3 : Nat) (x : Va) (deep : Int) (W w : World)
end
end Go.Proofs.YtinngljphjdpoaaDoor.Rr
/- The reference: check, and Codec.Check. -/
namespace Go.Proofs.YtinngljphjdpoaaDoor.Rt
open Go Go.RowKit Go.Proofs.YtinngljphjdpoaaDoor.Pa Go.Proofs.YtinngljphjdpoaaDoor.Pb Go.Proofs.YtinngljphjdpoaaDoor.Pf Go.Proofs.YtinngljphjdpoaaDoor.Pq Go.Proofs.YtinngljphjdpoaaDoor.Sc Go.Proofs.YtinngljphjdpoaaDoor.Rs Go.Proofs.YtinngljphjdpoaaDoor.Vu Go.Proofs.YtinngljphjdpoaaDoor.Vo Go.Proofs.YtinngljphjdpoaaDoor.Rp Go.Proofs.YtinngljphjdpoaaDoor.Rq Go.Proofs.YtinngljphjdpoaaDoor.Rr Go.Proofs.YtinngljphjdpoaaDoor.Hx
set_option linter.unusedVariables false
set_option linter.unusedSimpArgs false
end Go.Proofs.YtinngljphjdpoaaDoor.Rt
/- made: both codecs of a schema. -/
namespace Go.Proofs.YtinngljphjdpoaaDoor.Md
open Go Go.RowKit Go.Proofs.YtinngljphjdpoaaDoor.Pa Go.Proofs.YtinngljphjdpoaaDoor.Pb Go.Proofs.YtinngljphjdpoaaDoor.Pf Go.Proofs.YtinngljphjdpoaaDoor.Sc Go.Proofs.YtinngljphjdpoaaDoor.Rs Go.Proofs.YtinngljphjdpoaaDoor.Sl Go.Proofs.YtinngljphjdpoaaDoor.Hs Go.Proofs.YtinngljphjdpoaaDoor.Ht Go.Proofs.YtinngljphjdpoaaDoor.Va Go.Proofs.YtinngljphjdpoaaDoor.Vc Go.Proofs.YtinngljphjdpoaaDoor.Vd Go.Proofs.YtinngljphjdpoaaDoor.Vl Go.Proofs.YtinngljphjdpoaaDoor.Vs Go.Proofs.YtinngljphjdpoaaDoor.Ls Go.Proofs.YtinngljphjdpoaaDoor.Ca Go.Proofs.YtinngljphjdpoaaDoor.Cb Go.Proofs.YtinngljphjdpoaaDoor.Ce Go.Proofs.YtinngljphjdpoaaDoor.Tw Go.Proofs.YtinngljphjdpoaaDoor.Wi Go.Proofs.YtinngljphjdpoaaDoor.Cm
set_option linter.unusedVariables false
set_option linter.unusedSimpArgs false
end Go.Proofs.YtinngljphjdpoaaDoor.Md
/- errors.As at a target of type **api.Fault, after the guide's worked example. -/
namespace Go.Proofs.YtinngljphjdpoaaDoor.Fy
open Go Go.RowKit Go.Extern.Stop Go.Stop Go.Extern
set_option linter.unusedVariables false
set_option linter.unusedSimpArgs false
/-! ### CLOSED FACTS ON THE MODEL's ENTRIES FOR internal/reflectlite, at this program's types: 25: *p.E · 27: **p.E · 23: error · 45: reflectlite's rtype · 1: how many package-level variables the dump has -/
/-! ### THE ENTRIES THAT READ OR WRITE MEMORY: laws with a premise on the cell (after Derived/Lib/ReflectliteSlice.lean's manner: each unfolding a lemma of its own, by rfl) -/
end Go.Proofs.YtinngljphjdpoaaDoor.Fy
/- faulty: an error says a fault. -/
namespace Go.Proofs.YtinngljphjdpoaaDoor.Fz
open Go Go.RowKit Go.Proofs.YtinngljphjdpoaaDoor.Pa Go.Proofs.YtinngljphjdpoaaDoor.Fy
set_option linter.unusedVariables false
set_option linter.unusedSimpArgs false
end Go.Proofs.YtinngljphjdpoaaDoor.Fz
/- valueLeft, bigValue. -/
namespace Go.Proofs.YtinngljphjdpoaaDoor.Vk
open Go Go.RowKit Go.Proofs.YtinngljphjdpoaaDoor.Pa Go.Proofs.YtinngljphjdpoaaDoor.Pb Go.Proofs.YtinngljphjdpoaaDoor.Pf Go.Proofs.YtinngljphjdpoaaDoor.Sc Go.Proofs.YtinngljphjdpoaaDoor.Rs Go.Proofs.YtinngljphjdpoaaDoor.Vu Go.Proofs.YtinngljphjdpoaaDoor.Vo
set_option linter.unusedVariables false
set_option linter.unusedSimpArgs false
theorem b1 (w : World) (o : Obj) : Below w.heap.size w (w.alloc o) := (Below.refl _ _).alloc (Nat.le_refl _) _
set_option maxHeartbeats 1000000 in
set_option maxRecDepth 100000 in
theorem valueLeft : ∀ (n : Nat) (nv dv pv : Value) (x : Va) (left : Int) (W w : World), RdV W n nv dv pv x → Below W.heap.size W w → 0 ≤ left → left ≤ 10000 →
    Calls Tryd.prog 28 #[.agg #[nv, dv, pv], .int .i64 left] w fun e w' => e = .returned (.int .i64 (vl (n + 1) x left)) ∧ Below w.heap.size w w' ∧ -288230376151711744 ≤ vl (n + 1) x left := by
  intro n
  induction n with
  | zero => exact fun nv dv pv x left W w h _ _ _ => h.2.2.2.elim
  | succ n ih =>
    intro nv dv pv x left W w h hB h1 h2
    obtain ⟨hnum, rfl, hdv, hpv⟩ := h
    obtain ⟨Ad, cd, rfl, hd1, hd2⟩ : ∃ A c, dv = .slice A x.data.length c ∧ x.data.length ≤ c ∧ c ≤ maxLen := by obtain ⟨A, c, e, h1, h2, -⟩ := hdv; exact ⟨A, c, e, h1, h2⟩
    obtain ⟨Ap, cp, rfl, hp1, hp2⟩ := hpv.slice
    unfold maxLen at hd2 hp2
    have IH := Lib.hid ih; have H := Lib.hid hpv; have HB := Lib.hid hB; clear ih hpv hdv hB
    obtain ⟨w1, hw1⟩ : ∃ y, y = w.alloc (.cells #[.int .u64 x.num, .slice Ad x.data.length cd, .slice Ap x.parts.length cp] 27) := ⟨_, rfl⟩
    have hC : hp w1 w.heap.size = some (.cells #[.int .u64 x.num, .slice Ad x.data.length cd, .slice Ap x.parts.length cp] 27 (0, 0)) := by rw [hw1]; exact hp_alloc_at _ _ rfl
    have hsz : w1.heap.size = w.heap.size + 1 := by rw [hw1]; simp
    have hb1 : Below w.heap.size w w1 := by rw [hw1]; exact b1 _ _
    have hq : ((x.data.length : Int)).tdiv 64 = ((x.data.length / 64 : Nat) : Int) := by rw [Int.tdiv_eq_ediv_of_nonneg (by omega)]; omega
    obtain ⟨T, hT⟩ : ∃ T, T = vl (n + 2) x left := ⟨_, rfl⟩
    rw [← hT]
    have hT2 : vlGo (vl (n + 1)) x.parts (left - 1 - ((x.data.length / 64 : Nat) : Int)) = T := by rw [hT]; rfl
    have HT := Lib.hid hT2; clear hT hT2
    generalize hdl : x.data.length = dl at *
    generalize x.num = num at *
    clear hdl
    obtain ⟨L, hL⟩ : ∃ L, L = left - 1 - ((dl / 64 : Nat) : Int) := ⟨_, rfl⟩
    rw [← hL] at HT
    have HL := Lib.hid hL
    have HC := Lib.hid hC; have HSZ := Lib.hid hsz; have HB1 := Lib.hid hb1; clear hC hsz hb1 hL
    go_enter Tryd.func28, Tryd.ntmps28
    go_wp2_with fail
    rw [← hw1]
    have hLb : -288230376151711744 ≤ L ∧ L ≤ 10000 := by have := HL.out; omega
    have HLB := Lib.hid hLb; clear hLb hq
    go_loopw [1, 5] (fun s t wr => ∃ (i : Nat) (y : Int), i ≤ x.parts.length ∧ -288230376151711744 ≤ y ∧ y ≤ 10000 ∧ s = .int .i64 y ∧ t = .int .i64 i ∧ vlGo (vl (n + 1)) (x.parts.drop i) y = T ∧ Below w1.heap.size w1 wr) (fun _ t _ => x.parts.length - (intOf t).toNat)
    case atStart => exact ⟨0, L, by omega, HLB.out.1, HLB.out.2, by rw [HL.out]; congr 1, rfl, HT.out, Below.refl _ _⟩
    case round =>
      obtain ⟨i, y, hi, hy1, hy2, rfl, rfl, he, hbw⟩ := hrel
      have HE := Lib.hid he; have HBW := Lib.hid hbw; clear he hbw
      have hCr : hp wr w.heap.size = some (.cells #[.int .u64 num, .slice Ad dl cd, .slice Ap x.parts.length cp] 27 (0, 0)) := (HBW.out.hp _ (by have := HSZ.out; omega)).trans HC.out
      have hcr := fun i => hp_cell hCr i
      clear hCr
      by_cases hil : i < x.parts.length
      · by_cases hy0 : 0 ≤ y
        · have hBr : Below W.heap.size W wr := HB.out.trans ((HB1.out.trans (HBW.out.mono HB1.out.size)).mono HB.out.size)
          obtain ⟨ad, rfl, dv', pv', g1, g2, g3, g4⟩ := H.out.at_ i hil
          have hst := vlGo_drop (vl (n + 1)) x.parts i y hil hy0
          have hle := vl_le (n + 1) x.parts[i] y
          have k : ∀ a u, W.cell? a = some u → wr.cell? a = some u := fun a u hu => (World.cell?_of_block (hBr.block _ (World.block_lt_of_cell? W _ hu))).trans hu
          replace g1 := k _ _ g1; replace g2 := k _ _ g2; replace g3 := k _ _ g3
          have hcall := IH.out _ _ _ _ y W wr g4 hBr hy0 hy2
          rw [hst] at HE
          generalize x.parts[i] = z at *
          obtain ⟨pz, hpz⟩ : ∃ pz, ad.add (i * 3) = pz := ⟨_, rfl⟩
          rw [add_lit _ _ _ (by omega)] at g2 g3
          rw [hpz] at g1 g2 g3
          have HCALL := Lib.hid hcall; clear hcall g4 k hst
          obtain ⟨V, hV⟩ : ∃ V, V = vl (n + 1) z y := ⟨_, rfl⟩
          rw [← hV] at HCALL HE hle
          clear hV
          go_wp2_with (go_at_call 9999)
          go_at_call 28
          refine HCALL.out.mono ?_
          rintro _ w2 ⟨rfl, b2, hge⟩
          have HB2 := Lib.hid (HBW.out.trans (b2.mono HBW.out.size)); clear b2 hcr g1 g2 g3
          go_wp2_with fail
          go_roundw
          case rel => exact ⟨i + 1, V, by omega, hge, by omega, rfl, by go_num, HE.out, HB2.out⟩
          case measure => simp [intOf]; omega
        · have hfin : T = y := by rw [← HE.out, vlGo_neg _ _ _ (by omega)]
          subst hfin
          have HB2 := Lib.hid (HB1.out.trans (HBW.out.mono HB1.out.size))
          clear HE
          go_wp2_with fail
          go_ret
          first | exact ⟨rfl, HB2.out, hy1⟩ | exact ⟨rfl, HB2.out⟩
      · obtain rfl : i = x.parts.length := by omega
        have hfin : T = y := by rw [← HE.out, List.drop_length]; rfl
        subst hfin
        have HB2 := Lib.hid (HB1.out.trans (HBW.out.mono HB1.out.size))
        clear HE
        go_wp2_with fail
        go_ret
        first | exact ⟨rfl, HB2.out, hy1⟩ | exact ⟨rfl, HB2.out⟩
theorem big {n : Nat} {nv dv pv : Value} {x : Va} {W : World} (w : World) (h : RdV W n nv dv pv x) (hb : Below W.heap.size W w) :
    Calls Tryd.prog 13 #[.agg #[nv, dv, pv]] w fun e w' => e = .returned (.bool (decide (vl (n + 1) x 10000 < 0))) ∧ Below w.heap.size w w' := by
  have hv := fun w1 (h1 : Below w.heap.size w w1) => valueLeft n nv dv pv x 10000 W w1 h (hb.trans (h1.mono hb.size)) (by omega) (by omega)
  have HV := Lib.hid hv
  obtain ⟨hnum, rfl, hdv, hpv⟩ := h
  obtain ⟨Ad, cd, rfl, -⟩ := hdv
  obtain ⟨Ap, cp, rfl, -⟩ := hpv.slice
  have HB := Lib.hid (b1 w (.cells #[.int .u64 x.num, .slice Ad x.data.length cd, .slice Ap x.parts.length cp] 27))
  clear hv hpv hb
  go_enter Tryd.func13, Tryd.ntmps13
  go_wp2_with (go_at_call 9999)
  go_at_call 28
  refine (HV.out _ HB.out).mono ?_
  rintro _ w1 ⟨rfl, b, -⟩
  have HB2 := Lib.hid (HB.out.trans (b.mono HB.out.size)); clear b
  go_wp2_with fail
  go_ret
  exact ⟨rfl, HB2.out⟩
end Go.Proofs.YtinngljphjdpoaaDoor.Vk
/- The reference's Codec.Check; the law SchemaChecks, walked. -/
namespace Go.Proofs.YtinngljphjdpoaaDoor.Ck
open Go Go.RowKit Go.Proofs.YtinngljphjdpoaaDoor.Pa Go.Proofs.YtinngljphjdpoaaDoor.Pb Go.Proofs.YtinngljphjdpoaaDoor.Pf Go.Proofs.YtinngljphjdpoaaDoor.Pq Go.Proofs.YtinngljphjdpoaaDoor.Sc Go.Proofs.YtinngljphjdpoaaDoor.Rs Go.Proofs.YtinngljphjdpoaaDoor.Sl Go.Proofs.YtinngljphjdpoaaDoor.Hs Go.Proofs.YtinngljphjdpoaaDoor.Va Go.Proofs.YtinngljphjdpoaaDoor.Ca Go.Proofs.YtinngljphjdpoaaDoor.Cb Go.Proofs.YtinngljphjdpoaaDoor.Cm Go.Proofs.YtinngljphjdpoaaDoor.Md Go.Proofs.YtinngljphjdpoaaDoor.Rq Go.Proofs.YtinngljphjdpoaaDoor.Rr Go.Proofs.YtinngljphjdpoaaDoor.Rt Go.Proofs.YtinngljphjdpoaaDoor.Hx Go.Proofs.YtinngljphjdpoaaDoor.Vo Go.Proofs.YtinngljphjdpoaaDoor.Hv Go.Proofs.YtinngljphjdpoaaDoor.Fz
set_option linter.unusedVariables false
set_option linter.unusedSimpArgs false
/-- A schema that can be is read less than k + 1 levels deep. -/
theorem rds_ok {w : World} : ∀ (k n : Nat) (v : Value) (l : List Slot), okL k l → RdS w n v l → RdS w (k + 1) v l
  | 0, _, _, _, h, _ => h.elim
  | k + 1, 0, _, _, _, h => h.elim
  | k + 1, n + 1, v, l, hk, h => by
    obtain ⟨A, c, e, h1, h2, h3⟩ := h
    refine ⟨A, c, e, h1, h2, fun h0 => ?_⟩
    obtain ⟨ad, ha, hc⟩ := h3 h0
    refine ⟨ad, ha, fun i t ht => ?_⟩
    obtain ⟨g0, sv, g1, g2⟩ := hc i t ht
    obtain ⟨-, -, -, i4, i5⟩ := hk.2 t (List.mem_of_getElem? ht)
    refine ⟨g0, sv, g1, ?_⟩
    by_cases hn : nest t = true
    · exact rds_ok k n sv t.sub (i4 hn) g2
    · have he := i5 (by simpa using hn)
      rw [he] at g2 ⊢
      obtain ⟨A', c', e', h1', h2', _⟩ := g2.slice |>.elim fun A h => h.elim fun c h => (⟨A, c, h.1, h.2.1, h.2.2, trivial⟩ : ∃ A c, sv = .slice A ([] : List Slot).length c ∧ ([] : List Slot).length ≤ c ∧ c ≤ maxLen ∧ True)
      exact ⟨A', c', e', h1', h2', fun h => absurd h (by simp)⟩
theorem few_ok : ∀ (k : Nat) (l : List Slot), okL k l → Few (k + 1) l
  | 0, _, h => h.elim
  | k + 1, l, hk => by
    refine ⟨Nat.le_trans hk.1 (by omega), fun t ht => ?_⟩
    obtain ⟨-, -, -, i4, i5⟩ := hk.2 t ht
    by_cases hn : nest t = true
    · exact few_ok k t.sub (i4 hn)
    · rw [i5 (by simpa using hn)]
      exact ⟨by simp, fun u hu => by cases hu⟩
theorem errOf_below {f : Vu.Flt} {base : Nat} {v : Value} {w w' : World} (h : Vj.ErrOf f base v w) (hb : Below w.heap.size w w') : Vj.ErrOf f base v w' := by
  rcases h with h | ⟨h0, b, h1, h2, h3⟩
  · exact .inl h
  · exact .inr ⟨h0, b, h1, h2, below_hp h3 hb⟩
theorem vb {w : World} (o : Obj) : Below w.heap.size w (w.alloc o) := (Below.refl _ _).alloc (Nat.le_refl _) _
end Go.Proofs.YtinngljphjdpoaaDoor.Ck
/- Range on both sides. -/
namespace Go.Proofs.YtinngljphjdpoaaDoor.Ra
open Go Go.RowKit Go.Proofs.YtinngljphjdpoaaDoor.Pa Go.Proofs.YtinngljphjdpoaaDoor.Pb Go.Proofs.YtinngljphjdpoaaDoor.Pf Go.Proofs.YtinngljphjdpoaaDoor.Sc Go.Proofs.YtinngljphjdpoaaDoor.Rs Go.Proofs.YtinngljphjdpoaaDoor.Sl Go.Proofs.YtinngljphjdpoaaDoor.Hs Go.Proofs.YtinngljphjdpoaaDoor.Ht Go.Proofs.YtinngljphjdpoaaDoor.Va Go.Proofs.YtinngljphjdpoaaDoor.Vc Go.Proofs.YtinngljphjdpoaaDoor.Vd Go.Proofs.YtinngljphjdpoaaDoor.Vl Go.Proofs.YtinngljphjdpoaaDoor.Vs Go.Proofs.YtinngljphjdpoaaDoor.Ls Go.Proofs.YtinngljphjdpoaaDoor.Ca Go.Proofs.YtinngljphjdpoaaDoor.Cb Go.Proofs.YtinngljphjdpoaaDoor.Ce Go.Proofs.YtinngljphjdpoaaDoor.Tw Go.Proofs.YtinngljphjdpoaaDoor.Wi Go.Proofs.YtinngljphjdpoaaDoor.Cm Go.Proofs.YtinngljphjdpoaaDoor.Md
set_option linter.unusedVariables false
set_option linter.unusedSimpArgs false
set_option maxRecDepth 100000 in
theorem pRange {w : World} {S : Pl} {n g : Nat} {l : List Slot} (h : Cd w S n g l) : Calls Tryd.prog 18 #[ptr g] w fun e w' => e = .returned (.tuple #[.int .i64 (pSpan n l).1, .int .i64 (pSpan n l).2]) ∧ Below w.heap.size w w' := by
  cases n with
  | zero => exact h.elim
  | succ n =>
    obtain ⟨-, A, c, h2, -⟩ := h
    have hC := fun i => hp_cell h2 i
    clear h2
    unfold ptr
    generalize (pSpan (n + 1) l).1 = a at *
    generalize (pSpan (n + 1) l).2 = b at *
    go_enter Tryd.func18, Tryd.ntmps18
    go_wp2_with fail
    go_region
    go_wp2_with fail
    go_ret2
    exact ⟨rfl, (Below.refl _ _).drew⟩
end Go.Proofs.YtinngljphjdpoaaDoor.Ra
