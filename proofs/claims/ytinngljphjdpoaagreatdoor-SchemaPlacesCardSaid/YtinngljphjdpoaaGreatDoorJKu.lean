/- A block's contents below, and beside a store: plain. -/
import Derived.Test.YtinngljphjdpoaaGreatDoorJRq
import Derived.Test.YtinngljphjdpoaaGreatDoorJHt
import Derived.Test.YtinngljphjdpoaaGreatDoorJEp
import Derived.Deep.DeepCutAuto
import Derived.Test.YtinngljphjdpoaaGreatDoorProg
import Derived.WalkKit
import Derived.LaidEql
import Derived.Stop.Asserts
import Derived.RowKitTokens
import Derived.Test.YtinngljphjdpoaaGreatDoorJPl
import Derived.BigRegion
import Derived.Deep.RegionWith
import Derived.Test.YtinngljphjdpoaaGreatDoorRows
import Derived.Test.YtinngljphjdpoaaGreatDoorJUw
import Derived.Lib.LaidU8T
import Derived.LaidHandle
import Derived.LaidLaws
import Derived.LaidMore
import Derived.Lay
import Derived.MakeChecks
namespace Go.Proofs.YtinngljphjdpoaaGreatDoor.Hx
open Go Go.RowKit Go.Proofs.YtinngljphjdpoaaGreatDoor.Pa Go.Proofs.YtinngljphjdpoaaGreatDoor.Pb Go.Proofs.YtinngljphjdpoaaGreatDoor.Pc Go.Proofs.YtinngljphjdpoaaGreatDoor.Pf Go.Proofs.YtinngljphjdpoaaGreatDoor.Sc Go.Proofs.YtinngljphjdpoaaGreatDoor.Rs Go.Proofs.YtinngljphjdpoaaGreatDoor.Hs Go.Proofs.YtinngljphjdpoaaGreatDoor.Vu Go.Proofs.YtinngljphjdpoaaGreatDoor.Vo Go.Proofs.YtinngljphjdpoaaGreatDoor.Hv
set_option linter.unusedVariables false
set_option linter.unusedSimpArgs false
/-- What the bytes with marks are, k of them set. -/
theorem below_hp {w w' : World} {g : Nat} {o : Obj} (h : hp w g = some o) (hb : Below w.heap.size w w') : hp w' g = some o := by
  have hlt : g < w.heap.size := (Array.getElem?_eq_some_iff.1 h).1
  exact (hb.hp _ hlt).trans h
theorem set_hp {w : World} {g q o : Nat} {ob : Obj} {v : Value} (h : hp w g = some ob) (hne : g ≠ q) : hp (w.setCell ⟨q, o, none⟩ v) g = some ob := (hp_setCell_other _ _ _ hne).trans h
end Go.Proofs.YtinngljphjdpoaaGreatDoor.Hx
/- errors.As at a target of type **api.Fault, after the guide's worked example. -/
namespace Go.Proofs.YtinngljphjdpoaaGreatDoor.Fy
open Go Go.RowKit Go.Extern.Stop Go.Stop Go.Extern
set_option linter.unusedVariables false
set_option linter.unusedSimpArgs false
/-- errors.As(nil, target). -/
theorem as_nil (t : Value) (w : World) :
    Calls Tryz.prog 34 #[.nilIface, t] w fun e w' => e = .returned (.bool false) ∧ w' = w := by
  go_enter Tryz.func34, Tryz.ntmps34
  go_wp2
  go_ret
  exact ⟨rfl, rfl⟩

/-! ### CLOSED FACTS ON THE MODEL's ENTRIES FOR internal/reflectlite, at this program's types: 25: *p.E · 27: **p.E · 23: error · 45: reflectlite's rtype · 1: how many package-level variables the dump has -/
theorem valueOf27 (t : Addr) (w : World) : (ReflectliteValue.unpack (.iface 78 (.pointer (some t)))).run Tryz.prog w
    = .ok (.agg #[.pointer (some ⟨4, 78, none⟩), .pointer (some ⟨w.heap.size, 0, none⟩), .int .u64 150]) (w.alloc (.cells #[.pointer (some t)] 78)) := by kernel_rfl
theorem type27 (a : Addr) (w : World) : (ReflectliteValue.methodAny (ReflectliteValue.valueError "reflectlite.Value.Type" 0) (fun t _ _ _ => ReflectliteType.toType t) #[.agg #[.pointer (some ⟨4, 78, none⟩), .pointer (some a), .int .u64 150]]).run Tryz.prog w
    = .ok (.iface 161 (.agg #[.pointer (some ⟨4, 78, none⟩)])) w := by kernel_rfl
theorem methodKind (f : Nat) (h : Value) (w : World) : (Go.method (f + 1) 161 (.agg #[h]) "Kind").run Tryz.prog w = .ok (172, h) w := by kernel_rfl
theorem kind27 (w : World) : ((ReflectliteType.abiMethod fun t => (fun a : Nat => Value.int IntKind.u8 (a : Int)) <$> Rtype.kind t) #[.pointer (some ⟨4, 78, none⟩)]).run Tryz.prog w = .ok (.int .u8 22) w := by kernel_rfl
theorem kind25 (w : World) : ((ReflectliteType.abiMethod fun t => (fun a : Nat => Value.int IntKind.u8 (a : Int)) <$> Rtype.kind t) #[.pointer (some ⟨4, 76, none⟩)]).run Tryz.prog w = .ok (.int .u8 22) w := by kernel_rfl

/-! ### THE ENTRIES THAT READ OR WRITE MEMORY: laws with a premise on the cell (after Derived/Lib/ReflectliteSlice.lean's manner: each unfolding a lemma of its own, by rfl) -/
theorem rlm (z : Sem Value) (f : TypeId → Addr → Nat → Nat → Sem Value) (v : Value) :
    ReflectliteValue.method z f #[v] = (do match ← ReflectliteValue.parts v with | none => z | some (t, a, fl) => f t a fl (fl % 32)) := rfl
theorem parts27 (a : Addr) (w : World) : (ReflectliteValue.parts (.agg #[.pointer (some ⟨4, 78, none⟩), .pointer (some a), .int .u64 150])).run Tryz.prog w = .ok (some (78, a, 150)) w := by kernel_rfl
/-- (Value).IsNil at the Value of a **p.E that is not nil. -/
theorem isNil27 (a p : Addr) (W : World) (ha : W.cell? a = some (.pointer (some p))) :
    (ReflectliteValue.method (ReflectliteValue.valueError "reflectlite.Value.IsNil" 0) ReflectliteValue.isNil #[.agg #[.pointer (some ⟨4, 78, none⟩), .pointer (some a), .int .u64 150]]).run Tryz.prog W = .ok (.bool false) W := by
  rw [rlm]
  simp only [Sem.run_bind, parts27, Result.andThen]
  simp [ReflectliteValue.isNil, loadVar, isAgg, underlying, Tryz.underlying78, ha, Result.andThen]

theorem methodElem (f : Nat) (h : Value) (w : World) : (Go.method (f + 1) 161 (.agg #[h]) "Elem").run Tryz.prog w = .ok (184, .agg #[h]) w := by kernel_rfl
theorem methodImplements (f : Nat) (h : Value) (w : World) : (Go.method (f + 1) 161 (.agg #[h]) "Implements").run Tryz.prog w = .ok (185, .agg #[h]) w := by kernel_rfl
theorem methodAssignableTo (f : Nat) (h : Value) (w : World) : (Go.method (f + 1) 161 (.agg #[h]) "AssignableTo").run Tryz.prog w = .ok (182, .agg #[h]) w := by kernel_rfl
theorem elem27 (w : World) : (ReflectliteType.method ReflectliteType.elem #[.agg #[.pointer (some ⟨4, 78, none⟩)]]).run Tryz.prog w = .ok (.iface 161 (.agg #[.pointer (some ⟨4, 76, none⟩)])) w := by kernel_rfl
theorem implements25 (w : World) : (ReflectliteType.relation "Implements" ReflectliteType.implements_ #[.agg #[.pointer (some ⟨4, 76, none⟩)], .iface 161 (.agg #[.pointer (some ⟨4, 34, none⟩)])]).run Tryz.prog w = .ok (.bool true) w := by kernel_rfl
theorem typeOf25 (v : Value) (w : World) : (ReflectliteType.typeOf #[.iface 76 v]).run Tryz.prog w = .ok (.iface 161 (.agg #[.pointer (some ⟨4, 76, none⟩)])) w := by kernel_rfl
theorem assignable25 (w : World) : (ReflectliteType.relation "AssignableTo" ReflectliteType.assignableTo #[.agg #[.pointer (some ⟨4, 76, none⟩)], .iface 161 (.agg #[.pointer (some ⟨4, 76, none⟩)])]).run Tryz.prog w = .ok (.bool true) w := by kernel_rfl
theorem valueOf25 (e : Addr) (w : World) : (ReflectliteValue.unpack (.iface 76 (.pointer (some e)))).run Tryz.prog w
    = .ok (.agg #[.pointer (some ⟨4, 76, none⟩), .pointer (some ⟨w.heap.size, 0, none⟩), .int .u64 150]) (w.alloc (.cells #[.pointer (some e)] 76)) := by kernel_rfl

theorem elemOf27 (w : World) : (Rtype.elem? 78).run Tryz.prog w = .ok (some 76) w := by kernel_rfl
theorem mk25 (p : Addr) (w : World) : (ReflectliteValue.mk 76 p ReflectliteValue.flagAddr).run Tryz.prog w = .ok (.agg #[.pointer (some ⟨4, 76, none⟩), .pointer (some p), .int .u64 406]) w := by kernel_rfl
/-- (Value).Elem at the Value of a **p.E that is not nil: the Value of the *p.E variable that it points to, addressable. -/
theorem elemV27 (a p : Addr) (W : World) (ha : W.cell? a = some (.pointer (some p))) :
    (ReflectliteValue.method (ReflectliteValue.valueError "reflectlite.Value.Elem" 0) ReflectliteValue.elem #[.agg #[.pointer (some ⟨4, 78, none⟩), .pointer (some a), .int .u64 150]]).run Tryz.prog W
      = .ok (.agg #[.pointer (some ⟨4, 76, none⟩), .pointer (some p), .int .u64 406]) W := by
  rw [rlm]
  simp only [Sem.run_bind, parts27, Result.andThen]
  simp [ReflectliteValue.elem, loadVar, isAgg, underlying, Tryz.underlying78, ha, Result.andThen, elemOf27, mk25]
theorem rls (v x : Value) : ReflectliteValue.set #[v, x] = (do
    let (some (dst, a, fl), some (src, b, _)) := (← ReflectliteValue.parts v, ← ReflectliteValue.parts x)
      | unsupported (.noEntry "extern/(internal/reflectlite.Value).Set.zeroValue")
    if fl / ReflectliteValue.flagAddr % 2 == 0 then unsupported (.noEntry "extern/(internal/reflectlite.Value).Set.unaddressable")
    let val ← loadVar src b
    if ← Rtype.directlyAssignable dst src then storeVar dst a val
    else if ← Rtype.implements dst src then
      if (← Rtype.kind src) == 20 then
        match val with
        | .nilIface => unsupported (.noEntry "extern/reflectlite: a nil value of one interface type handed on as a value of another")
        | _ => storeVar dst a val
      else storeVar dst a (.iface src val)
    else panicString ("reflectlite.Set: value of type " ++ (← Rtype.spelt src) ++ " is not assignable to type " ++ (← Rtype.spelt dst))
    pure (.tuple #[])) := rfl
theorem parts25a (a : Addr) (w : World) : (ReflectliteValue.parts (.agg #[.pointer (some ⟨4, 76, none⟩), .pointer (some a), .int .u64 406])).run Tryz.prog w = .ok (some (76, a, 406)) w := by kernel_rfl
theorem parts25 (a : Addr) (w : World) : (ReflectliteValue.parts (.agg #[.pointer (some ⟨4, 76, none⟩), .pointer (some a), .int .u64 150])).run Tryz.prog w = .ok (some (76, a, 150)) w := by kernel_rfl
theorem direct25 (w : World) : (Rtype.directlyAssignable 76 76).run Tryz.prog w = .ok true w := by kernel_rfl
theorem size25 (w : World) : (sizeOf 76).run Tryz.prog w = .ok 1 w := by kernel_rfl
/-- (Value).Set: the *p.E variable at 'ta' gets what the Value's own variable 'b' holds. -/
theorem set25 (ta b e : Addr) (old : Value) (W : World) (hb : W.cell? b = some (.pointer (some e))) (ht : W.cell? ta = some old) (hf : W.frozen? ta = false) :
    (ReflectliteValue.set #[.agg #[.pointer (some ⟨4, 76, none⟩), .pointer (some ta), .int .u64 406], .agg #[.pointer (some ⟨4, 76, none⟩), .pointer (some b), .int .u64 150]]).run Tryz.prog W
      = .ok (.tuple #[]) (W.setCell ta (.pointer (some e))) := by
  rw [rls]
  simp only [Sem.run_bind, parts25a, parts25, Result.andThen]
  simp [ReflectliteValue.flagAddr, loadVar, isAgg, underlying, Tryz.underlying76, hb, Result.andThen, direct25, storeVar, Value.cells, storeCells, Addr.add]
  rw [run_store Tryz.prog W ta _ _ (by rfl)]
  simp [ht, hf]

set_option maxHeartbeats 4000000 in
theorem as_hit (e t : Addr) (old : Value) (w : World) (hg : w.cell? ⟨0, 0, none⟩ = some (.iface 161 (.agg #[.pointer (some ⟨4, 34, none⟩)]))) (ht0 : w.cell? t = some old) (hf0 : w.frozen? t = false) :
    Calls Tryz.prog 34 #[.iface 76 (.pointer (some e)), .iface 78 (.pointer (some t))] w fun ev w' => ev = .returned (.bool true) ∧ w' = ((((w.alloc (.cells #[.pointer (some t)] 78)).alloc (.cells #[.pointer (some ⟨4, 78, none⟩), .pointer (some ⟨w.heap.size, 0, none⟩), .int .u64 150] 123)).alloc (.cells #[.pointer (some ⟨4, 78, none⟩), .pointer (some ⟨w.heap.size, 0, none⟩), .int .u64 150] 123)).alloc (.cells #[.pointer (some e)] 76)).setCell t (.pointer (some e)) := by
  have h6 := @run_callFunc_extern Tryz.prog 65 _ (fun args => ReflectliteValue.unpack (args.getD 0 (.tuple #[]))) Tryz.func65 (by kernel_rfl) (by kernel_rfl) (by kernel_rfl) (by kernel_rfl)
  have h7 := @run_callFunc_extern Tryz.prog 66 _ (ReflectliteValue.methodAny (ReflectliteValue.valueError "reflectlite.Value.Type" 0) (fun t _ _ _ => ReflectliteType.toType t)) Tryz.func66 (by kernel_rfl) (by kernel_rfl) (by kernel_rfl) (by kernel_rfl)
  have h8 := @run_callFunc_extern Tryz.prog 67 _ (ReflectliteValue.method (ReflectliteValue.valueError "reflectlite.Value.IsNil" 0) ReflectliteValue.isNil) Tryz.func67 (by kernel_rfl) (by kernel_rfl) (by kernel_rfl) (by kernel_rfl)
  have h27 := @run_callFunc_extern Tryz.prog 172 _ (ReflectliteType.abiMethod fun t => do pure (.int .u8 (← Rtype.kind t))) Tryz.func172 (by kernel_rfl) (by kernel_rfl) (by kernel_rfl) (by kernel_rfl)
  have h37 := @run_callFunc_extern Tryz.prog 184 _ (ReflectliteType.method ReflectliteType.elem) Tryz.func184 (by kernel_rfl) (by kernel_rfl) (by kernel_rfl) (by kernel_rfl)
  have h38 := @run_callFunc_extern Tryz.prog 185 _ (ReflectliteType.relation "Implements" ReflectliteType.implements_) Tryz.func185 (by kernel_rfl) (by kernel_rfl) (by kernel_rfl) (by kernel_rfl)
  have h10 := @run_callFunc_extern Tryz.prog 94 _ ReflectliteType.typeOf Tryz.func94 (by kernel_rfl) (by kernel_rfl) (by kernel_rfl) (by kernel_rfl)
  have h35 := @run_callFunc_extern Tryz.prog 182 _ (ReflectliteType.relation "AssignableTo" ReflectliteType.assignableTo) Tryz.func182 (by kernel_rfl) (by kernel_rfl) (by kernel_rfl) (by kernel_rfl)
  have h11 := @run_callFunc_extern Tryz.prog 95 _ (ReflectliteValue.method (ReflectliteValue.valueError "reflectlite.Value.Elem" 0) ReflectliteValue.elem) Tryz.func95 (by kernel_rfl) (by kernel_rfl) (by kernel_rfl) (by kernel_rfl)
  have h12 := @run_callFunc_extern Tryz.prog 96 _ ReflectliteValue.set Tryz.func96 (by kernel_rfl) (by kernel_rfl) (by kernel_rfl) (by kernel_rfl)
  have tO := typeOf25
  have mA := methodAssignableTo
  have a25 := assignable25
  have v25 := valueOf25
  have f6 := valueOf27
  have f7 := type27
  have mK := methodKind
  have mE := methodElem
  have mI := methodImplements
  have k27 := kind27
  have k25 := kind25
  have e27 := elem27
  have i25 := implements25
  have n8 := isNil27 ⟨w.heap.size, 0, none⟩ t ((w.alloc (.cells #[.pointer (some t)] 78)).alloc (.cells #[.pointer (some ⟨4, 78, none⟩), .pointer (some ⟨w.heap.size, 0, none⟩), .int .u64 150] 123)) (by simp)
  have hlt : 0 < w.heap.size := by
    rcases Nat.eq_zero_or_pos w.heap.size with h0 | h
    · simp [World.cell?, h0] at hg
    · exact h
  have hg2 : ((w.alloc (.cells #[.pointer (some t)] 78)).alloc (.cells #[.pointer (some ⟨4, 78, none⟩), .pointer (some ⟨w.heap.size, 0, none⟩), .int .u64 150] 123)).cell? ⟨0, 0, none⟩ = some (.iface 161 (.agg #[.pointer (some ⟨4, 34, none⟩)])) := by
    rw [World.cell?_alloc_lt _ _ ⟨0, 0, none⟩ (by simp), World.cell?_alloc_lt _ _ ⟨0, 0, none⟩ hlt]; exact hg
  have htl : t.block < w.heap.size := by
    rcases Nat.lt_or_ge t.block w.heap.size with h | h
    · exact h
    · simp [World.cell?, Array.getElem?_eq_none h] at ht0
  have el := elemV27 ⟨w.heap.size, 0, none⟩ t (((w.alloc (.cells #[.pointer (some t)] 78)).alloc (.cells #[.pointer (some ⟨4, 78, none⟩), .pointer (some ⟨w.heap.size, 0, none⟩), .int .u64 150] 123)).alloc (.cells #[.pointer (some ⟨4, 78, none⟩), .pointer (some ⟨w.heap.size, 0, none⟩), .int .u64 150] 123)) (by rw [World.cell?_alloc_lt _ _ ⟨w.heap.size, 0, none⟩ (by simp; omega)]; simp)
  have st := set25 t ⟨w.heap.size + 1 + 1 + 1, 0, none⟩ e old ((((w.alloc (.cells #[.pointer (some t)] 78)).alloc (.cells #[.pointer (some ⟨4, 78, none⟩), .pointer (some ⟨w.heap.size, 0, none⟩), .int .u64 150] 123)).alloc (.cells #[.pointer (some ⟨4, 78, none⟩), .pointer (some ⟨w.heap.size, 0, none⟩), .int .u64 150] 123)).alloc (.cells #[.pointer (some e)] 76))
    (by rw [World.cell?_alloc_at _ _ _ _ (by simp)]; rfl)
    (by rw [World.cell?_alloc_lt _ _ t (by simp; omega), World.cell?_alloc_lt _ _ t (by simp; omega), World.cell?_alloc_lt _ _ t (by simp; omega), World.cell?_alloc_lt _ _ t htl]; exact ht0)
    (by rw [World.frozen?_alloc_old _ _ t (by simp; omega), World.frozen?_alloc_old _ _ t (by simp; omega), World.frozen?_alloc_old _ _ t (by simp; omega), World.frozen?_alloc_old _ _ t (Nat.ne_of_lt htl)]; exact hf0)
  go_enter Tryz.func34, Tryz.ntmps34
  go_wp2
  refine wp_loop_rounds 1 ?_
  rw [rounds_succ]
  go_wp2
  go_ret
  exact ⟨rfl, rfl⟩
end Go.Proofs.YtinngljphjdpoaaGreatDoor.Fy
/- faulty: an error says a fault. -/
namespace Go.Proofs.YtinngljphjdpoaaGreatDoor.Fz
open Go Go.RowKit Go.Proofs.YtinngljphjdpoaaGreatDoor.Pa Go.Proofs.YtinngljphjdpoaaGreatDoor.Fy
set_option linter.unusedVariables false
set_option linter.unusedSimpArgs false
/-- The variable errors.errorType stands as laid. -/
def Et (w : World) : Prop := w.cell? ⟨0, 0, none⟩ = some (.iface 161 (.agg #[.pointer (some ⟨4, 34, none⟩)]))
theorem Et.lt {w : World} (h : Et w) : 0 < w.heap.size := by
  have h1 := World.block_lt_of_cell? w _ h
  exact Nat.lt_of_le_of_lt (Nat.zero_le _) h1
theorem Et.below {w w' : World} (h : Et w) (hb : Below w.heap.size w w') : Et w' :=
  (World.cell?_of_block (hb.block _ (World.block_lt_of_cell? w _ h))).trans h
set_option maxRecDepth 100000 in
theorem faulty_no (f1 f2 : Int) (w : World) : Calls Tryz.prog 14 #[.nilIface, .agg #[.int .i64 f1, .int .i64 f2, .int .i64 0]] w fun e w' => e = .returned (.bool true) ∧ Below w.heap.size w w' := by
  have HB := Lib.hid (show Below w.heap.size w (w.alloc (.cells #[.int .i64 f1, .int .i64 f2, .int .i64 0] 39)) from (Below.refl _ _).alloc (Nat.le_refl _) _)
  go_enter Tryz.func14, Tryz.ntmps14
  go_wp2
  go_ret
  exact ⟨rfl, HB.out⟩
theorem found_below (w : World) (o1 o2 o3 o4 o5 o6 : Obj) (v : Value) : Below w.heap.size w (((((((w.alloc o1).alloc o2).alloc o3).alloc o4).alloc o5).alloc o6).setCell ⟨w.heap.size + 1, 0, none⟩ v) := by
  have h : ∀ {w' : World} (o : Obj), Below w.heap.size w w' → Below w.heap.size w (w'.alloc o) := fun o hb => hb.alloc hb.size _
  exact (h _ (h _ (h _ (h _ (h _ (h _ (Below.refl _ _))))))).setCell (by simp) _
set_option maxHeartbeats 1000000 in
set_option maxRecDepth 100000 in
theorem faulty_hit (f1 f2 f3 : Int) (b : Nat) (w : World) (hw : hp w b = some (.cells #[.int .i64 f1, .int .i64 f2, .int .i64 f3] 39 (0, 0))) (h3 : f3 ≠ 0) (hE : Et w) :
    Calls Tryz.prog 14 #[.iface 76 (.pointer (some ⟨b, 0, none⟩)), .agg #[.int .i64 f1, .int .i64 f2, .int .i64 f3]] w fun e w' => e = .returned (.bool true) ∧ Below w.heap.size w w' := by
  have hblt : b < w.heap.size := (Array.getElem?_eq_some_iff.1 hw).1
  have h3z : (f3 == 0) = false := by simpa using h3
  have h0 := hE.lt
  obtain ⟨w2, hw2⟩ : ∃ y, y = (w.alloc (.cells #[.int .i64 f1, .int .i64 f2, .int .i64 f3] 39)).alloc (.cells #[.pointer none] 76) := ⟨_, rfl⟩
  have hb2 : Below w.heap.size w w2 := by rw [hw2]; exact ((Below.refl _ _).alloc (Nat.le_refl _) _).alloc (by simp) _
  have hc2 : w2.cell? ⟨w.heap.size + 1, 0, none⟩ = some (.pointer none) := by rw [hw2]; simp
  have hf2 : w2.frozen? ⟨w.heap.size + 1, 0, none⟩ = false := by rw [hw2]; simp
  have hx2 : hp w2 w.heap.size = some (.cells #[.int .i64 f1, .int .i64 f2, .int .i64 f3] 39 (0, 0)) := by rw [hw2]; exact (hp_alloc_past _ _ (by simp)).trans (hp_alloc_at _ _ rfl)
  have hs2 : w2.heap.size = w.heap.size + 1 + 1 := by rw [hw2]; simp
  have hg2 : w2.cell? ⟨0, 0, none⟩ = some (.iface 161 (.agg #[.pointer (some ⟨4, 34, none⟩)])) := hE.below hb2
  have hw2b : hp w2 b = some (.cells #[.int .i64 f1, .int .i64 f2, .int .i64 f3] 39 (0, 0)) := (hb2.hp _ hblt).trans hw
  have H := Lib.hid (as_hit ⟨b, 0, none⟩ ⟨w.heap.size + 1, 0, none⟩ (.pointer none) w2.drew hg2 hc2 hf2)
  go_enter Tryz.func14, Tryz.ntmps14
  go_upto_region 4 with fail
  rw [← hw2]
  obtain ⟨w3, hw3⟩ : ∃ y, y = ((((w2.drew.alloc (.cells #[.pointer (some ⟨w.heap.size + 1, 0, none⟩)] 78)).alloc (.cells #[.pointer (some ⟨4, 78, none⟩), .pointer (some ⟨w2.drew.heap.size, 0, none⟩), .int .u64 150] 123)).alloc (.cells #[.pointer (some ⟨4, 78, none⟩), .pointer (some ⟨w2.drew.heap.size, 0, none⟩), .int .u64 150] 123)).alloc (.cells #[.pointer (some ⟨b, 0, none⟩)] 76)).setCell ⟨w.heap.size + 1, 0, none⟩ (.pointer (some ⟨b, 0, none⟩)) := ⟨_, rfl⟩
  have hb3 : Below w.heap.size w w3 := by
    have h : ∀ {w' : World} (o : Obj), Below w.heap.size w w' → Below w.heap.size w (w'.alloc o) := fun o hb => hb.alloc hb.size _
    rw [hw3]; exact (h _ (h _ (h _ (h _ hb2.drew)))).setCell (by simp) _
  have hh : ∀ k, k < w2.heap.size → k ≠ w.heap.size + 1 → hp w3 k = hp w2 k := fun k hk hne => by
    rw [hw3]
    refine (hp_setCell_other _ _ _ hne).trans ?_
    rw [hp_alloc_past _ _ (by simp; omega), hp_alloc_past _ _ (by simp; omega), hp_alloc_past _ _ (by simp; omega)]
    exact hp_alloc_past (w := w2.drew) _ _ hk
  have hx3 := (hh w.heap.size (by omega) (by omega)).trans hx2
  have hb3r := (hh b (by omega) (by omega)).trans hw2b
  have hc3 : w3.cell? ⟨w.heap.size + 1, 0, none⟩ = some (.pointer (some ⟨b, 0, none⟩)) := by
    have h2 : hp w2 (w.heap.size + 1) = some (.cells #[.pointer none] 76 (0, 0)) := by rw [hw2]; exact hp_alloc_at _ _ (by simp)
    have h3 : hp ((((w2.drew.alloc (.cells #[.pointer (some ⟨w.heap.size + 1, 0, none⟩)] 78)).alloc (.cells #[.pointer (some ⟨4, 78, none⟩), .pointer (some ⟨w2.drew.heap.size, 0, none⟩), .int .u64 150] 123)).alloc (.cells #[.pointer (some ⟨4, 78, none⟩), .pointer (some ⟨w2.drew.heap.size, 0, none⟩), .int .u64 150] 123)).alloc (.cells #[.pointer (some ⟨b, 0, none⟩)] 76)) (w.heap.size + 1) = some (.cells #[.pointer none] 76 (0, 0)) := by
      rw [hp_alloc_past _ _ (by simp; omega), hp_alloc_past _ _ (by simp; omega), hp_alloc_past _ _ (by simp; omega), hp_alloc_past _ _ (by simp; omega)]; exact h2
    have h4 := heap_setCell_same _ (w.heap.size + 1) 0 _ _ (.pointer (some ⟨b, 0, none⟩)) h3
    rw [← hw3] at h4
    have := hp_cell h4 0
    simpa using this
  have hcx := fun i => hp_cell hx3 i
  have hcb := fun i => hp_cell hb3r i
  have hk1 : ∀ i, w2.cell? ⟨w.heap.size, i, none⟩ = (#[.int .i64 f1, .int .i64 f2, .int .i64 f3] : Array Value)[i]? := fun i => hp_cell hx2 i
  rw [← hw3] at H
  have HB := Lib.hid hb3
  clear hw3 hw2 hb2 hc2 hf2 hx2 hs2 hg2 hw2b hb3 hh hx3 hb3r hE hw h0 hblt
  go_region_with (go_at_call 34; refine H.out.mono ?_; rintro _ w4 ⟨rfl, rfl⟩)
  all_goals (go_wp2_with fail; go_ret; exact ⟨rfl, HB.out⟩)
end Go.Proofs.YtinngljphjdpoaaGreatDoor.Fz
/- errors.As at a fault, the target a variable of its own. -/
namespace Go.Proofs.YtinngljphjdpoaaGreatDoor.Fj
open Go Go.RowKit Go.Proofs.YtinngljphjdpoaaGreatDoor.Pa Go.Proofs.YtinngljphjdpoaaGreatDoor.Fy Go.Proofs.YtinngljphjdpoaaGreatDoor.Fz
set_option linter.unusedVariables false
set_option linter.unusedSimpArgs false
set_option maxRecDepth 100000 in
theorem as_full (b t : Nat) (o : Obj) (w : World) (hb : hp w b = some o) (ht : hp w t = some (.cells #[.pointer none] 76 (0, 0))) (hne : b ≠ t) (hE : Et w) :
    Calls Tryz.prog 34 #[.iface 76 (.pointer (some ⟨b, 0, none⟩)), .iface 78 (.pointer (some ⟨t, 0, none⟩))] w fun e w' => e = .returned (.bool true) ∧ hp w' t = some (.cells #[.pointer (some ⟨b, 0, none⟩)] 76 (0, 0)) ∧
      (∀ k, k < w.heap.size → k ≠ t → hp w' k = hp w k) ∧ ∀ B W0, Below B W0 w → B ≤ w.heap.size → B ≤ t → Below B W0 w' := by
  have hc := hp_cell ht 0
  have hf : w.frozen? ⟨t, 0, none⟩ = false := by
    have h1 : w.heap[t]? = some (.cells #[.pointer none] 76 (0, 0)) := ht
    simp [World.frozen?, h1]
  have hlt : t < w.heap.size := (Array.getElem?_eq_some_iff.1 ht).1
  refine (as_hit ⟨b, 0, none⟩ ⟨t, 0, none⟩ (.pointer none) w hE (by simpa using hc) hf).mono ?_
  rintro _ w' ⟨rfl, rfl⟩
  refine ⟨rfl, ?_, fun k hk hne => ?_, fun B W0 h hB hBt => ?_⟩
  · have h3 : hp ((((w.alloc (.cells #[.pointer (some ⟨t, 0, none⟩)] 78)).alloc (.cells #[.pointer (some ⟨4, 78, none⟩), .pointer (some ⟨w.heap.size, 0, none⟩), .int .u64 150] 123)).alloc (.cells #[.pointer (some ⟨4, 78, none⟩), .pointer (some ⟨w.heap.size, 0, none⟩), .int .u64 150] 123)).alloc (.cells #[.pointer (some ⟨b, 0, none⟩)] 76)) t = some (.cells #[.pointer none] 76 (0, 0)) := by
      rw [hp_alloc_past _ _ (by simp; omega), hp_alloc_past _ _ (by simp; omega), hp_alloc_past _ _ (by simp; omega), hp_alloc_past _ _ hlt]
      exact ht
    have h4 := heap_setCell_same _ t 0 _ _ (.pointer (some ⟨b, 0, none⟩)) h3
    exact h4
  · refine (hp_setCell_other _ _ _ hne).trans ?_
    rw [hp_alloc_past _ _ (by simp; omega), hp_alloc_past _ _ (by simp; omega), hp_alloc_past _ _ (by simp; omega)]
    exact hp_alloc_past (w := w) _ _ hk
  · have hh : ∀ {w' : World} (o : Obj), Below B W0 w' ∧ B ≤ w'.heap.size → Below B W0 (w'.alloc o) ∧ B ≤ (w'.alloc o).heap.size := fun o hb => ⟨hb.1.alloc hb.2 _, by simp; omega⟩
    exact (hh _ (hh _ (hh _ (hh _ ⟨h, hB⟩)))).1.setCell (by simpa using hBt) _
end Go.Proofs.YtinngljphjdpoaaGreatDoor.Fj
/- What the laid variables give: the tables of utf8, the handle of errors; a world that has them. -/
namespace Go.Proofs.YtinngljphjdpoaaGreatDoor.Ku
open Go Go.RowKit Go.Lib
set_option linter.unusedVariables false
set_option maxRecDepth 100000
/-- The listed variables. -/
def LL : List (String × DataW Unit) := [("unicode/utf8.acceptRanges", Rows.laid_unicode_utf8_acceptRanges), ("errors.errorType", Rows.laid_errors_errorType), ("unicode/utf8.first", Rows.laid_unicode_utf8_first)]
def dataL : List (String × DataW Unit) := [("unicode/utf8.acceptRanges", Rows.laid_unicode_utf8_acceptRanges), ("unicode/utf8.first", Rows.laid_unicode_utf8_first)]
def hdL : List (String × DataW Unit) := [("errors.errorType", Rows.laid_errors_errorType)]
theorem filt_data : (LL.filter fun x => x.2.handleName?.isNone) = dataL := by kernel_rfl
theorem filt_hd : (LL.filter fun x => x.2.handleName?.isSome) = hdL := by kernel_rfl
theorem split_met {W : World} (h : laidMetH Tryz.prog LL W) : laidMet Tryz.prog dataL W ∧ handlesMet Tryz.prog hdL W := by
  unfold laidMetH at h
  rw [filt_hd, filt_data] at h
  exact h
/-- The names of a library's types and variables in this program. -/
def ρ : Go.Shelf.Ren := ⟨fun x => x, fun n => if n = 5 then 5 else if n = 119 then 234 else if n = 138 then 236 else 237, fun g => if g = 3 then 2 else 3⟩
theorem types : U8Types Tryz.prog ρ := ⟨Tryz.underlying5, Tryz.underlying234, Tryz.underlying236, Tryz.underlying237⟩
theorem extra : U8Extra Tryz.prog ρ := ⟨by kernel_rfl, by kernel_rfl, by kernel_rfl, by kernel_rfl, by kernel_rfl, by kernel_rfl, by kernel_rfl⟩
theorem first_is : Rows.laid_unicode_utf8_first = firstData := by kernel_rfl
theorem accept_is : (Rows.laid_unicode_utf8_acceptRanges : DataW Unit) = acceptData := by kernel_rfl
theorem tabu_of {W : World} (h : laidMetH Tryz.prog LL W) : Vh.TabU W := by
  have h1 := (split_met h).1
  have h3 : VarReads Tryz.prog W "unicode/utf8.first" firstData := first_is ▸ laidMet.reads h1 (by unfold dataL; simp)
  have h4 : VarReads Tryz.prog W "unicode/utf8.acceptRanges" acceptData := accept_is ▸ laidMet.reads h1 (by unfold dataL; simp)
  exact utf8Tabs_of_readsT types extra h3 h4
theorem et : Tryz.prog.globalNamed "errors.errorType" = some 0 := by kernel_rfl
theorem rt : (Tryz.prog.cutTypes.find? (·.1 == "internal/reflectlite.rtype")).map (·.2) = some 161 := by kernel_rfl
theorem oneRow : ((List.range Tryz.prog.types.size).filter fun t => Tryz.prog.rowNamed t [101, 114, 114, 111, 114]) = [34] := by kernel_rfl
theorem et_of {W : World} (h : laidMetH Tryz.prog LL W) : Fz.Et W := by
  have h' := (split_met h).2
  obtain ⟨name, u, ty, e1, e2, e3, e4, e5⟩ := h' _ (List.mem_singleton.2 rfl)
  have en : name = [101, 114, 114, 111, 114] := (Option.some.inj e1).symm
  subst en
  obtain rfl := Option.some.inj (rt.symm.trans e2)
  have hm : ty ∈ (List.range Tryz.prog.types.size).filter fun t => Tryz.prog.rowNamed t [101, 114, 114, 111, 114] := List.mem_filter.2 ⟨List.mem_range.2 e3, e4⟩
  rw [oneRow] at hm
  obtain rfl := List.mem_singleton.1 hm
  have hh : typeHandle Tryz.prog 34 = .pointer (some ⟨4, 34, none⟩) := by kernel_rfl
  rw [hh] at e5
  have := World.var?_cell et e5 0
  unfold Fz.Et
  simpa using this
/-- A world that has them. -/
noncomputable def start (os : Os) : World := (World.doorLaid Tryz.prog 400 os).layVars Tryz.prog dataL
theorem start_os (os : Os) : (start os).os = os := (World.layVars_os _ _ _).trans rfl
theorem great_all : (dataL.filter fun x => ["unicode/utf8.acceptRanges", "unicode/utf8.first"].contains x.1) = dataL := by kernel_rfl
theorem great_none : (dataL.filter fun x => !["unicode/utf8.acceptRanges", "unicode/utf8.first"].contains x.1) = [] := by kernel_rfl
theorem start_data (os : Os) : laidMet Tryz.prog dataL (start os) :=
  laidMet_layVars (w0 := World.doorLaid Tryz.prog 400 os) ["unicode/utf8.acceptRanges", "unicode/utf8.first"] [] (by rw [great_all]; rfl) (by rw [great_all]; kernel_rfl) (by rw [great_all]; kernel_rfl) (by rw [great_none]; exact LaidIn.none)
theorem start_met (os : Os) (args : Array Value) : laidMetH Tryz.prog LL ((start os).forCall (fun _ _ => 0) ⟨#[], args, []⟩).memory := by
  refine laidMetH_of_parts ?_ ?_
  · rw [filt_data]
    exact (start_data os).of_heap (by simp [World.memory, World.forCall, Input.heap])
  · rw [filt_hd]
    kernel_rfl
theorem data_plain (w : World) : laidMetH Tryz.prog dataL w = laidMet Tryz.prog dataL w := MakeChecks.laidMetH_plain _ _ _ (by kernel_rfl)
theorem tabu_data {W : World} (h : laidMetH Tryz.prog dataL W) : Vh.TabU W := by
  rw [data_plain] at h
  have h3 : VarReads Tryz.prog W "unicode/utf8.first" firstData := first_is ▸ laidMet.reads h (by unfold dataL; simp)
  have h4 : VarReads Tryz.prog W "unicode/utf8.acceptRanges" acceptData := accept_is ▸ laidMet.reads h (by unfold dataL; simp)
  exact utf8Tabs_of_readsT types extra h3 h4
theorem data_met (os : Os) (args : Array Value) : laidMetH Tryz.prog dataL ((start os).forCall (fun _ _ => 0) ⟨#[], args, []⟩).memory := by
  rw [data_plain]
  exact (start_data os).of_heap (by simp [World.memory, World.forCall, Input.heap])
end Go.Proofs.YtinngljphjdpoaaGreatDoor.Ku
