/- errors.Is at a fault and a reason, after the guide's worked example. -/
import Derived.Test.YtinngljphjdpoaaDoorJRa
import Derived.WalkKit
import Derived.LaidEql
import Derived.Stop.Asserts
import Derived.Lib.IfaceEq
import Derived.RowKitTokens
namespace Go.Proofs.YtinngljphjdpoaaDoor.Fi
open Go Go.RowKit Go.Extern.Stop Go.Stop Go.Extern Go.Proofs.YtinngljphjdpoaaDoor.Pa Go.Proofs.YtinngljphjdpoaaDoor.Pb Go.Proofs.YtinngljphjdpoaaDoor.Pf
set_option linter.unusedVariables false
set_option linter.unusedSimpArgs false
theorem isTypeOf (v : Value) (w : World) : (Extern.ReflectliteType.typeOf #[.iface 32 v]).run Tryd.prog w = .ok (.iface 113 (.agg #[.pointer (some ⟨3, 32, none⟩)])) w := by kernel_rfl
theorem isComparable (w : World) : ((Extern.ReflectliteType.method fun t => do Extern.Rtype.noPackHeld "Comparable" t; (fun a => Value.bool a.comparable) <$> typeInfo t) #[.agg #[.pointer (some ⟨3, 32, none⟩)]]).run Tryd.prog w = .ok (.bool true) w := by kernel_rfl
theorem methodComparable (f : Nat) (h : Value) (w : World) : (Go.method (f + 1) 113 (.agg #[h]) "Comparable").run Tryd.prog w = .ok (111, .agg #[h]) w := by kernel_rfl
theorem isComp : (Tryd.prog.info? 32).map (·.comparable) = some true := by kernel_rfl
theorem noIsF (v : Value) (xT : TypeId) (w : World) : (Instr.typeAssert (.iface 92 v) xT 115 true).run Tryd.prog w = .ok (.tuple #[.nilIface, .bool false]) w := run_typeAssert_lacksB Tryd.underlying115 (by kernel_rfl) (by kernel_rfl) v xT w
theorem noIsE (v : Value) (xT : TypeId) (w : World) : (Instr.typeAssert (.iface 32 v) xT 115 true).run Tryd.prog w = .ok (.tuple #[.nilIface, .bool false]) w := run_typeAssert_lacksB Tryd.underlying115 (by kernel_rfl) (by kernel_rfl) v xT w
theorem noUnE (v : Value) (xT : TypeId) (w : World) : (Instr.typeAssert (.iface 32 v) xT 118 true).run Tryd.prog w = .ok (.tuple #[.nilIface, .bool false]) w := run_typeAssert_lacksB Tryd.underlying118 (by kernel_rfl) (by kernel_rfl) v xT w
theorem noUnsE (v : Value) (xT : TypeId) (w : World) : (Instr.typeAssert (.iface 32 v) xT 120 true).run Tryd.prog w = .ok (.tuple #[.nilIface, .bool false]) w := run_typeAssert_lacksB Tryd.underlying120 (by kernel_rfl) (by kernel_rfl) v xT w
theorem hasUnF (v : Value) (xT : TypeId) (w : World) : (Instr.typeAssert (.iface 92 v) xT 118 true).run Tryd.prog w = .ok (.tuple #[.iface 92 v, .bool true]) w := run_typeAssert_hasB Tryd.underlying118 (by kernel_rfl) v xT w
theorem methodUnwrap (f : Nat) (v : Value) (w : World) : (Go.method (f + 1) 92 v "Unwrap").run Tryd.prog w = .ok (107, v) w := by kernel_rfl
theorem unwrap (k : Nat) (li at_ why : Int) (w : World) (hk : hp w k = some (.cells #[.int .i64 li, .int .i64 at_, .int .i64 why] 94 (0, 0))) :
    Calls Tryd.prog 107 #[.pointer (some ⟨k, 0, none⟩)] w fun e w' => e = .returned (.iface 32 (.int .i64 why)) ∧ w' = w := by
  have hc := fun i => hp_cell hk i
  clear hk
  go_enter Tryd.func107, Tryd.ntmps107
  go_wp2_with fail
  go_ret
  exact ⟨rfl, rfl⟩
set_option maxRecDepth 100000 in
/-- errors.is at a fault and a reason. -/
theorem is1 (k : Nat) (li at_ why z : Int) (w : World) (hk : hp w k = some (.cells #[.int .i64 li, .int .i64 at_, .int .i64 why] 94 (0, 0))) :
    Calls Tryd.prog 39 #[.iface 92 (.pointer (some ⟨k, 0, none⟩)), .iface 32 (.int .i64 z), .bool true] w fun e w' => e = .returned (.bool (why == z)) ∧ w' = w := by
  have nF := noIsF
  have nE := noIsE
  have uE := noUnE
  have vE := noUnsE
  have uF := hasUnF
  have mU := methodUnwrap
  have UW := Lib.hid (unwrap k li at_ why w hk)
  have heq := Go.Lib.run_eql_iface_int (P := Tryd.prog) w (k := .i64) why z Tryd.underlying36 isComp Tryd.underlying32
  have hty := run_eql_iface_types (P := Tryd.prog) 92 32 (.pointer (some ⟨k, 0, none⟩)) (.int .i64 z) Tryd.underlying36 (by decide) w
  clear hk
  cases hz : (why == z) with
  | true =>
    rw [hz] at heq
    clear hz
    go_enter Tryd.func39, Tryd.ntmps39
    go_wp2_with fail
    refine wp_loop_rounds 2 ?_
    rw [rounds_succ]
    go_wp2_with (go_at_call 9999)
    go_at_call 107
    refine UW.out.mono ?_
    rintro _ w' ⟨rfl, rfl⟩
    go_wp2_with fail
    rw [rounds_succ]
    go_wp2_with fail
    go_ret
    exact ⟨rfl, rfl⟩
  | false =>
    rw [hz] at heq
    clear hz
    go_enter Tryd.func39, Tryd.ntmps39
    go_wp2_with fail
    refine wp_loop_rounds 2 ?_
    rw [rounds_succ]
    go_wp2_with (go_at_call 9999)
    go_at_call 107
    refine UW.out.mono ?_
    rintro _ w' ⟨rfl, rfl⟩
    go_wp2_with fail
    rw [rounds_succ]
    go_wp2_with fail
    go_ret
    exact ⟨rfl, rfl⟩
set_option maxRecDepth 100000 in
/-- errors.Is at a fault and a reason. -/
theorem is_fault (k : Nat) (li at_ why z : Int) (w : World) (hk : hp w k = some (.cells #[.int .i64 li, .int .i64 at_, .int .i64 why] 94 (0, 0))) :
    Calls Tryd.prog 23 #[.iface 92 (.pointer (some ⟨k, 0, none⟩)), .iface 32 (.int .i64 z)] w fun e w' => e = .returned (.bool (why == z)) ∧ w' = w := by
  have hT := @run_callFunc_extern Tryd.prog 38 _ Extern.ReflectliteType.typeOf Tryd.func38 (by kernel_rfl) (by kernel_rfl) (by kernel_rfl) (by kernel_rfl)
  have hC := @run_callFunc_extern Tryd.prog 111 _ (Extern.ReflectliteType.method fun t => do Extern.Rtype.noPackHeld "Comparable" t; pure (.bool (← typeInfo t).comparable)) Tryd.func111 (by kernel_rfl) (by kernel_rfl) (by kernel_rfl) (by kernel_rfl)
  have tT := isTypeOf
  have cT := isComparable
  have mR := methodComparable
  have IS := Lib.hid (is1 k li at_ why z w hk)
  clear hk
  go_enter Tryd.func23, Tryd.ntmps23
  go_wp2_with (go_at_call 39; refine IS.out.mono ?_; rintro _ w' ⟨rfl, rfl⟩)

  go_ret
  exact ⟨rfl, rfl⟩
end Go.Proofs.YtinngljphjdpoaaDoor.Fi
