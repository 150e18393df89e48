/- caught, Check. -/
import Derived.Test.YtpfckpaokoifhaaGreatDoorVi
import Derived.Recover
namespace Go.Proofs.YtpfckpaokoifhaaGreatDoor.Vj
open Go Go.RowKit Go.Proofs.YtpfckpaokoifhaaGreatDoor.Pa Go.Proofs.YtpfckpaokoifhaaGreatDoor.Pb Go.Proofs.YtpfckpaokoifhaaGreatDoor.Pf Go.Proofs.YtpfckpaokoifhaaGreatDoor.Pq Go.Proofs.YtpfckpaokoifhaaGreatDoor.Sc Go.Proofs.YtpfckpaokoifhaaGreatDoor.Rs Go.Proofs.YtpfckpaokoifhaaGreatDoor.Hs Go.Proofs.YtpfckpaokoifhaaGreatDoor.Ca Go.Proofs.YtpfckpaokoifhaaGreatDoor.Cb Go.Proofs.YtpfckpaokoifhaaGreatDoor.Vu Go.Proofs.YtpfckpaokoifhaaGreatDoor.Vg Go.Proofs.YtpfckpaokoifhaaGreatDoor.Vh Go.Proofs.YtpfckpaokoifhaaGreatDoor.Vi
set_option linter.unusedVariables false
set_option linter.unusedSimpArgs false
theorem check_all (U : List UInt8 → Bool) (HU : UtfSaid U) : ∀ n, CheckSaid pF U n := by
  intro n
  induction n with
  | zero => exact fun S g k l nv dv pv x deep w hc => hc.elim
  | succ n ih => exact check U HU n ih
/-- A fault's cells. -/
def fcells (f : Flt) : Array Value := #[.int .i64 f.1, .int .i64 f.2.1, .int .i64 f.2.2]
@[go_sem] theorem ta_fault (xT : TypeId) (v : Value) (w : World) : (Instr.typeAssert (.iface 41 v) xT 41 true).run Tryz.prog w = .ok (.tuple #[v, .bool true]) w := by
  simp [Instr.typeAssert, Sem.run_bind, run_underlying Tryz.underlying41, Result.andThen_ok]
set_option maxRecDepth 100000 in
theorem caught_panic (g : Nat) (f1 f2 f3 : Int) (w : World) (hg : hp w g = some (.cells #[.nilIface] 37 (0, 0))) :
    CallsD Tryz.prog 23 #[.pointer (some ⟨g, 0, none⟩)] (.panicking ({ v := .iface 41 (.agg #[.int .i64 f1, .int .i64 f2, .int .i64 f3]), recovered := false } :: [])) w fun e u' w' =>
      e = .returned (.tuple #[]) ∧ u' = .panicking ({ v := .iface 41 (.agg #[.int .i64 f1, .int .i64 f2, .int .i64 f3]), recovered := true } :: []) ∧ w' = (w.setCell ⟨g, 0, none⟩ (.iface 58 (.pointer (some ⟨w.heap.size, 0, none⟩)))).alloc (.cells #[.int .i64 f1, .int .i64 f2, .int .i64 f3] 41) := by
  have hlt : g < w.heap.size := (Array.getElem?_eq_some_iff.1 hg).1
  have hne : ¬ g = w.heap.size := by omega
  have hne2 : ¬ w.heap.size = g := by omega
  have hc := fun i => hp_cell hg i
  have hz := fun i => hp_frozen hg i
  clear hg
  refine callsD_of_wpS Tryz.func23 rfl fun c₀ cs hu => ?_
  apply wpS_seq
  apply wpS_region
  simp [wpOpsS, go_sem, recoverD, hu, Tryz.ntmps23, Exit.thenS]
  rw [show (#[Value.pointer (some ⟨g, 0, none⟩)] ++ ((Array.replicate 18 undef).setIfInBounds 4 (Value.iface 41 (.agg #[.int .i64 f1, .int .i64 f2, .int .i64 f3]))).setIfInBounds 1 (Value.iface 41 (.agg #[.int .i64 f1, .int .i64 f2, .int .i64 f3]))) =
    #[.pointer (some ⟨g, 0, none⟩), undef, .iface 41 (.agg #[.int .i64 f1, .int .i64 f2, .int .i64 f3]), undef, undef, .iface 41 (.agg #[.int .i64 f1, .int .i64 f2, .int .i64 f3]), undef, undef, undef, undef, undef, undef, undef, undef, undef, undef, undef, undef, undef] from by kernel_rfl]
  refine wpS_of_wp ?_
  go_wp2
  exact ⟨rfl, _, rfl, _, results_none rfl _ _ _, rfl, rfl, rfl⟩
set_option maxRecDepth 100000 in
theorem caught_idle (g : Nat) (w : World) :
    CallsD Tryz.prog 23 #[.pointer (some ⟨g, 0, none⟩)] .returning w fun e u' w' => e = .returned (.tuple #[]) ∧ u' = .returning ∧ w' = w := by
  refine callsD_of_wpS Tryz.func23 rfl fun c₀ cs hu => ?_
  apply wpS_seq
  apply wpS_region
  simp [wpOpsS, go_sem, recoverD, hu, Tryz.ntmps23, Exit.thenS]
  rw [show (#[Value.pointer (some ⟨g, 0, none⟩)] ++ ((Array.replicate 18 undef).setIfInBounds 4 Value.nilIface).setIfInBounds 1 Value.nilIface) =
    #[.pointer (some ⟨g, 0, none⟩), undef, .nilIface, undef, undef, .nilIface, undef, undef, undef, undef, undef, undef, undef, undef, undef, undef, undef, undef, undef] from by kernel_rfl]
  refine wpS_of_wp ?_
  go_wp2
  cases c₀
  simp only at hu
  subst hu
  exact ⟨rfl, _, rfl, _, results_none rfl _ _ _, rfl, rfl, rfl⟩
/-- An error that says a fault (none: nil), in a block of its own not below base. -/
def ErrOf (f : Flt) (base : Nat) (v : Value) (w : World) : Prop :=
  (f.2.2 = 0 ∧ v = .nilIface) ∨ (f.2.2 ≠ 0 ∧ ∃ b, base ≤ b ∧ v = .iface 58 (ptr b) ∧ hp w b = some (.cells #[.int .i64 f.1, .int .i64 f.2.1, .int .i64 f.2.2] 41 (0, 0)))
set_option maxHeartbeats 1000000 in
set_option maxRecDepth 100000 in
/-- Check. -/
theorem pCheck (U : List UInt8 → Bool) (HU : UtfSaid U) (S : Pl) (g k n : Nat) (l : List Slot) (nv dv pv : Value) (x : Va) (w : World) (hc : Cd w S n g l) (hx : RdV w k nv dv pv x) (hT : TabU w) (hn : n ≤ 999999) :
    Calls Tryz.prog 10 #[ptr g, .agg #[nv, dv, pv]] w fun e w' => ∃ v, e = .returned v ∧ ErrOf (chk pF U n l x 1) w.heap.size v w' ∧ Below w.heap.size w w' := by
  have hcon : ∀ w4, Below w.heap.size w w4 → Calls Tryz.prog 24 #[ptr g, .agg #[nv, dv, pv], .int .i64 1] w4 (Vi.Ends (chk pF U n l x 1) w4) := fun w4 hb =>
    check_all U HU n S g k l nv dv pv x 1 w4 (hc.below hb) (hx.below hb) (hT.below hb) (by omega) (by omega)
  have HCON := Lib.hid hcon
  obtain ⟨hnum, rfl, hdv, hpv⟩ := hx
  obtain ⟨Ad, cd, rfl, -, -⟩ : ∃ A c, dv = .slice A x.data.length c ∧ x.data.length ≤ c ∧ c ≤ maxLen := by obtain ⟨A, c, e, h1, h2, -⟩ := hdv; exact ⟨A, c, e, h1, h2⟩
  obtain ⟨Ap, cp, rfl, -, -⟩ := hpv.slice
  clear hcon hc hdv hpv hT
  generalize chk pF U n l x 1 = f at *
  unfold ptr at *
  go_enter_defers Tryz.func10, Tryz.ntmps10
  go_wp2_with (go_at_call 9999)
  go_at_call 24
  obtain ⟨w2, hw2⟩ : ∃ y, y = (w.alloc (.cells #[.int .u64 x.num, .slice Ad x.data.length cd, .slice Ap x.parts.length cp] 27)).alloc (.cells #[.nilIface] 37) := ⟨_, rfl⟩
  have hb2 : Below w.heap.size w w2 := by rw [hw2]; exact b2 _ _ _
  have hs2 : w2.heap.size = w.heap.size + 1 + 1 := by rw [hw2]; simp
  have he2 : hp w2 (w.heap.size + 1) = some (.cells #[.nilIface] 37 (0, 0)) := by rw [hw2]; exact hp_alloc_at _ _ (by simp)
  rw [← hw2]
  have HB2 := Lib.hid hb2; have HE2 := Lib.hid he2; have HS2 := Lib.hid hs2
  clear hw2 hb2 he2 hs2
  refine (HCON.out w2 HB2.out).mono ?_
  rintro e w3 ⟨⟨h0, rfl⟩ | ⟨h0, rfl⟩, hb⟩
  · have he3 : hp w3 (w.heap.size + 1) = some (.cells #[.nilIface] 37 (0, 0)) := (hb.hp _ (by have := HS2.out; omega)).trans HE2.out
    have hc3 := fun i => hp_cell he3 i
    have hf3 := fun i => hp_frozen he3 i
    have HB3 := Lib.hid (HB2.out.trans (hb.mono HB2.out.size)); have H0 := Lib.hid h0
    clear he3 hb h0
    go_wp2_with fail
    refine leaves_cons (f := 23) (args := #[.pointer (some ⟨w.heap.size + 1, 0, none⟩)]) (by simp) (by simp [go_sem]) ?_
    refine (caught_idle (w.heap.size + 1) _).mono ?_
    rintro e u' w'' ⟨rfl, rfl, rfl⟩
    have hb4 := HB3.out.setCell (p := ⟨w.heap.size + 1, 0, none⟩) (by simp) (.nilIface)
    have hh4 := H0.out
    simp [Leaves, settle, results, Tryz.results10, go_sem, hc3]
    exact ⟨.inl ⟨hh4, rfl⟩, hb4⟩
  · have he3 : hp w3 (w.heap.size + 1) = some (.cells #[.nilIface] 37 (0, 0)) := (hb.hp _ (by have := HS2.out; omega)).trans HE2.out
    refine leaves_cons (f := 23) (args := #[.pointer (some ⟨w.heap.size + 1, 0, none⟩)]) (by simp) (by simp [go_sem]) ?_
    refine (caught_panic (w.heap.size + 1) f.1 f.2.1 f.2.2 w3 he3).mono ?_
    rintro e u' w'' ⟨rfl, rfl, rfl⟩
    have hb3 := HB2.out.trans (hb.mono HB2.out.size)
    have hc3 := fun i => hp_cell he3 i
    have hb4 := (hb3.setCell (p := ⟨w.heap.size + 1, 0, none⟩) (by simp) (.iface 58 (.pointer (some ⟨w3.heap.size, 0, none⟩)))).alloc (by simp [World.setCell]; exact hb3.size) (.cells #[.int .i64 f.1, .int .i64 f.2.1, .int .i64 f.2.2] 41)
    have hs3 := hb3.size
    have hs4 : w.heap.size + 1 < w3.heap.size := by have := HS2.out; have := hb.size; omega
    have hcell : ((w3.setCell ⟨w.heap.size + 1, 0, none⟩ (.iface 58 (.pointer (some ⟨w3.heap.size, 0, none⟩)))).alloc (.cells #[.int .i64 f.1, .int .i64 f.2.1, .int .i64 f.2.2] 41)).cell? ⟨w.heap.size + 1, 0, none⟩ = some (.iface 58 (.pointer (some ⟨w3.heap.size, 0, none⟩))) := by
      have h1 : hp (w3.setCell ⟨w.heap.size + 1, 0, none⟩ (.iface 58 (.pointer (some ⟨w3.heap.size, 0, none⟩)))) (w.heap.size + 1) = some (.cells #[.iface 58 (.pointer (some ⟨w3.heap.size, 0, none⟩))] 37 (0, 0)) := heap_setCell_same _ _ 0 _ _ _ he3
      exact hp_cell ((hp_alloc_past _ _ (by simp [World.setCell]; omega)).trans h1) 0
    have hq : hp ((w3.setCell ⟨w.heap.size + 1, 0, none⟩ (.iface 58 (.pointer (some ⟨w3.heap.size, 0, none⟩)))).alloc (.cells #[.int .i64 f.1, .int .i64 f.2.1, .int .i64 f.2.2] 41)) w3.heap.size = some (.cells #[.int .i64 f.1, .int .i64 f.2.1, .int .i64 f.2.2] 41 (0, 0)) := hp_alloc_at _ _ (by simp [World.setCell])
    simp [Leaves, settle, results, Tryz.results10, go_sem, hc3, hcell]
    exact ⟨.inr ⟨h0, _, hs3, rfl, hq⟩, hb4⟩
end Go.Proofs.YtpfckpaokoifhaaGreatDoor.Vj
