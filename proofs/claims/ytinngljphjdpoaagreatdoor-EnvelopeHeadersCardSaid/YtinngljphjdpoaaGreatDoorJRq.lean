/- caught, Check. -/
import Derived.Test.YtinngljphjdpoaaGreatDoorJVi
import Derived.Recover
import Derived.Test.YtinngljphjdpoaaGreatDoorJRp
import Derived.Test.YtinngljphjdpoaaGreatDoorJFt
import Derived.BigRegion
import Derived.Deep.RegionWith
namespace Go.Proofs.YtinngljphjdpoaaGreatDoor.Vj
open Go Go.RowKit Go.Proofs.YtinngljphjdpoaaGreatDoor.Pa Go.Proofs.YtinngljphjdpoaaGreatDoor.Pb Go.Proofs.YtinngljphjdpoaaGreatDoor.Pf Go.Proofs.YtinngljphjdpoaaGreatDoor.Pq Go.Proofs.YtinngljphjdpoaaGreatDoor.Sc Go.Proofs.YtinngljphjdpoaaGreatDoor.Rs Go.Proofs.YtinngljphjdpoaaGreatDoor.Hs Go.Proofs.YtinngljphjdpoaaGreatDoor.Ca Go.Proofs.YtinngljphjdpoaaGreatDoor.Cb Go.Proofs.YtinngljphjdpoaaGreatDoor.Vu Go.Proofs.YtinngljphjdpoaaGreatDoor.Vg Go.Proofs.YtinngljphjdpoaaGreatDoor.Vh Go.Proofs.YtinngljphjdpoaaGreatDoor.Vi
set_option linter.unusedVariables false
set_option linter.unusedSimpArgs false
theorem check_all (U : List UInt8 → Bool) (HU : UtfSaid U) : ∀ n, CheckSaid pF U n := by
  intro n
  induction n with
  | zero => exact fun S g k l nv dv pv x deep w hc => hc.elim
  | succ n ih => exact check U HU n ih
/-- A fault's cells. -/
def fcells (f : Flt) : Array Value := #[.int .i64 f.1, .int .i64 f.2.1, .int .i64 f.2.2]
@[go_sem] theorem ta_fault (xT : TypeId) (v : Value) (w : World) : (Instr.typeAssert (.iface 39 v) xT 39 true).run Tryz.prog w = .ok (.tuple #[v, .bool true]) w := by
  simp [Instr.typeAssert, Sem.run_bind, run_underlying Tryz.underlying39, Result.andThen_ok]
set_option maxRecDepth 100000 in
theorem caught_panic (g : Nat) (f1 f2 f3 : Int) (w : World) (hg : hp w g = some (.cells #[.nilIface] 34 (0, 0))) :
    CallsD Tryz.prog 59 #[.pointer (some ⟨g, 0, none⟩)] (.panicking ({ v := .iface 39 (.agg #[.int .i64 f1, .int .i64 f2, .int .i64 f3]), recovered := false } :: [])) w fun e u' w' =>
      e = .returned (.tuple #[]) ∧ u' = .panicking ({ v := .iface 39 (.agg #[.int .i64 f1, .int .i64 f2, .int .i64 f3]), recovered := true } :: []) ∧ w' = (w.setCell ⟨g, 0, none⟩ (.iface 76 (.pointer (some ⟨w.heap.size, 0, none⟩)))).alloc (.cells #[.int .i64 f1, .int .i64 f2, .int .i64 f3] 39) := by
  have hlt : g < w.heap.size := (Array.getElem?_eq_some_iff.1 hg).1
  have hne : ¬ g = w.heap.size := by omega
  have hne2 : ¬ w.heap.size = g := by omega
  have hc := fun i => hp_cell hg i
  have hz := fun i => hp_frozen hg i
  clear hg
  refine callsD_of_wpS Tryz.func59 rfl fun c₀ cs hu => ?_
  apply wpS_seq
  apply wpS_region
  simp [wpOpsS, go_sem, recoverD, hu, Tryz.ntmps59, Exit.thenS]
  rw [show (#[Value.pointer (some ⟨g, 0, none⟩)] ++ ((Array.replicate 18 undef).setIfInBounds 4 (Value.iface 39 (.agg #[.int .i64 f1, .int .i64 f2, .int .i64 f3]))).setIfInBounds 1 (Value.iface 39 (.agg #[.int .i64 f1, .int .i64 f2, .int .i64 f3]))) =
    #[.pointer (some ⟨g, 0, none⟩), undef, .iface 39 (.agg #[.int .i64 f1, .int .i64 f2, .int .i64 f3]), undef, undef, .iface 39 (.agg #[.int .i64 f1, .int .i64 f2, .int .i64 f3]), undef, undef, undef, undef, undef, undef, undef, undef, undef, undef, undef, undef, undef] from by kernel_rfl]
  refine wpS_of_wp ?_
  go_wp2
  exact ⟨rfl, _, rfl, _, results_none rfl _ _ _, rfl, rfl, rfl⟩
set_option maxRecDepth 100000 in
theorem caught_idle (g : Nat) (w : World) :
    CallsD Tryz.prog 59 #[.pointer (some ⟨g, 0, none⟩)] .returning w fun e u' w' => e = .returned (.tuple #[]) ∧ u' = .returning ∧ w' = w := by
  refine callsD_of_wpS Tryz.func59 rfl fun c₀ cs hu => ?_
  apply wpS_seq
  apply wpS_region
  simp [wpOpsS, go_sem, recoverD, hu, Tryz.ntmps59, Exit.thenS]
  rw [show (#[Value.pointer (some ⟨g, 0, none⟩)] ++ ((Array.replicate 18 undef).setIfInBounds 4 Value.nilIface).setIfInBounds 1 Value.nilIface) =
    #[.pointer (some ⟨g, 0, none⟩), undef, .nilIface, undef, undef, .nilIface, undef, undef, undef, undef, undef, undef, undef, undef, undef, undef, undef, undef, undef] from by kernel_rfl]
  refine wpS_of_wp ?_
  go_wp2
  cases c₀
  simp only at hu
  subst hu
  exact ⟨rfl, _, rfl, _, results_none rfl _ _ _, rfl, rfl, rfl⟩
/-- An error that says a fault (none: nil), in a block of its own not below base. -/
def ErrOf (f : Flt) (base : Nat) (v : Value) (w : World) : Prop :=
  (f.2.2 = 0 ∧ v = .nilIface) ∨ (f.2.2 ≠ 0 ∧ ∃ b, base ≤ b ∧ v = .iface 76 (ptr b) ∧ hp w b = some (.cells #[.int .i64 f.1, .int .i64 f.2.1, .int .i64 f.2.2] 39 (0, 0)))
set_option maxHeartbeats 1000000 in
set_option maxRecDepth 100000 in
/-- Check. -/
theorem pCheck (U : List UInt8 → Bool) (HU : UtfSaid U) (S : Pl) (g k n : Nat) (l : List Slot) (nv dv pv : Value) (x : Va) (w : World) (hc : Cd w S n g l) (hx : RdV w k nv dv pv x) (hT : TabU w) (hn : n ≤ 999999) :
    Calls Tryz.prog 28 #[ptr g, .agg #[nv, dv, pv]] w fun e w' => ∃ v, e = .returned v ∧ ErrOf (chk pF U n l x 1) w.heap.size v w' ∧ Below w.heap.size w w' := by
  have hcon : ∀ w4, Below w.heap.size w w4 → Calls Tryz.prog 60 #[ptr g, .agg #[nv, dv, pv], .int .i64 1] w4 (Vi.Ends (chk pF U n l x 1) w4) := fun w4 hb =>
    check_all U HU n S g k l nv dv pv x 1 w4 (hc.below hb) (hx.below hb) (hT.below hb) (by omega) (by omega)
  have HCON := Lib.hid hcon
  obtain ⟨hnum, rfl, hdv, hpv⟩ := hx
  obtain ⟨Ad, cd, rfl, -, -⟩ : ∃ A c, dv = .slice A x.data.length c ∧ x.data.length ≤ c ∧ c ≤ maxLen := by obtain ⟨A, c, e, h1, h2, -⟩ := hdv; exact ⟨A, c, e, h1, h2⟩
  obtain ⟨Ap, cp, rfl, -, -⟩ := hpv.slice
  clear hcon hc hdv hpv hT
  generalize chk pF U n l x 1 = f at *
  unfold ptr at *
  go_enter_defers Tryz.func28, Tryz.ntmps28
  go_wp2_with (go_at_call 9999)
  go_at_call 60
  obtain ⟨w2, hw2⟩ : ∃ y, y = (w.alloc (.cells #[.int .u64 x.num, .slice Ad x.data.length cd, .slice Ap x.parts.length cp] 32)).alloc (.cells #[.nilIface] 34) := ⟨_, rfl⟩
  have hb2 : Below w.heap.size w w2 := by rw [hw2]; exact b2 _ _ _
  have hs2 : w2.heap.size = w.heap.size + 1 + 1 := by rw [hw2]; simp
  have he2 : hp w2 (w.heap.size + 1) = some (.cells #[.nilIface] 34 (0, 0)) := by rw [hw2]; exact hp_alloc_at _ _ (by simp)
  rw [← hw2]
  have HB2 := Lib.hid hb2; have HE2 := Lib.hid he2; have HS2 := Lib.hid hs2
  clear hw2 hb2 he2 hs2
  refine (HCON.out w2 HB2.out).mono ?_
  rintro e w3 ⟨⟨h0, rfl⟩ | ⟨h0, rfl⟩, hb⟩
  · have he3 : hp w3 (w.heap.size + 1) = some (.cells #[.nilIface] 34 (0, 0)) := (hb.hp _ (by have := HS2.out; omega)).trans HE2.out
    have hc3 := fun i => hp_cell he3 i
    have hf3 := fun i => hp_frozen he3 i
    have HB3 := Lib.hid (HB2.out.trans (hb.mono HB2.out.size)); have H0 := Lib.hid h0
    clear he3 hb h0
    go_wp2_with fail
    refine leaves_cons (f := 59) (args := #[.pointer (some ⟨w.heap.size + 1, 0, none⟩)]) (by simp) (by simp [go_sem]) ?_
    refine (caught_idle (w.heap.size + 1) _).mono ?_
    rintro e u' w'' ⟨rfl, rfl, rfl⟩
    have hb4 := HB3.out.setCell (p := ⟨w.heap.size + 1, 0, none⟩) (by simp) (.nilIface)
    have hh4 := H0.out
    simp [Leaves, settle, results, Tryz.results28, go_sem, hc3]
    exact ⟨.inl ⟨hh4, rfl⟩, hb4⟩
  · have he3 : hp w3 (w.heap.size + 1) = some (.cells #[.nilIface] 34 (0, 0)) := (hb.hp _ (by have := HS2.out; omega)).trans HE2.out
    refine leaves_cons (f := 59) (args := #[.pointer (some ⟨w.heap.size + 1, 0, none⟩)]) (by simp) (by simp [go_sem]) ?_
    refine (caught_panic (w.heap.size + 1) f.1 f.2.1 f.2.2 w3 he3).mono ?_
    rintro e u' w'' ⟨rfl, rfl, rfl⟩
    have hb3 := HB2.out.trans (hb.mono HB2.out.size)
    have hc3 := fun i => hp_cell he3 i
    have hb4 := (hb3.setCell (p := ⟨w.heap.size + 1, 0, none⟩) (by simp) (.iface 76 (.pointer (some ⟨w3.heap.size, 0, none⟩)))).alloc (by simp [World.setCell]; exact hb3.size) (.cells #[.int .i64 f.1, .int .i64 f.2.1, .int .i64 f.2.2] 39)
    have hs3 := hb3.size
    have hs4 : w.heap.size + 1 < w3.heap.size := by have := HS2.out; have := hb.size; omega
    have hcell : ((w3.setCell ⟨w.heap.size + 1, 0, none⟩ (.iface 76 (.pointer (some ⟨w3.heap.size, 0, none⟩)))).alloc (.cells #[.int .i64 f.1, .int .i64 f.2.1, .int .i64 f.2.2] 39)).cell? ⟨w.heap.size + 1, 0, none⟩ = some (.iface 76 (.pointer (some ⟨w3.heap.size, 0, none⟩))) := by
      have h1 : hp (w3.setCell ⟨w.heap.size + 1, 0, none⟩ (.iface 76 (.pointer (some ⟨w3.heap.size, 0, none⟩)))) (w.heap.size + 1) = some (.cells #[.iface 76 (.pointer (some ⟨w3.heap.size, 0, none⟩))] 34 (0, 0)) := heap_setCell_same _ _ 0 _ _ _ he3
      exact hp_cell ((hp_alloc_past _ _ (by simp [World.setCell]; omega)).trans h1) 0
    have hq : hp ((w3.setCell ⟨w.heap.size + 1, 0, none⟩ (.iface 76 (.pointer (some ⟨w3.heap.size, 0, none⟩)))).alloc (.cells #[.int .i64 f.1, .int .i64 f.2.1, .int .i64 f.2.2] 39)) w3.heap.size = some (.cells #[.int .i64 f.1, .int .i64 f.2.1, .int .i64 f.2.2] 39 (0, 0)) := hp_alloc_at _ _ (by simp [World.setCell])
    simp [Leaves, settle, results, Tryz.results28, go_sem, hc3, hcell]
    exact ⟨.inr ⟨h0, _, hs3, rfl, hq⟩, hb4⟩
end Go.Proofs.YtinngljphjdpoaaGreatDoor.Vj
/- The reference: plain joined, part, check. -/
namespace Go.Proofs.YtinngljphjdpoaaGreatDoor.Rq
open Go Go.RowKit Go.Proofs.YtinngljphjdpoaaGreatDoor.Pa Go.Proofs.YtinngljphjdpoaaGreatDoor.Pb Go.Proofs.YtinngljphjdpoaaGreatDoor.Pf Go.Proofs.YtinngljphjdpoaaGreatDoor.Sc Go.Proofs.YtinngljphjdpoaaGreatDoor.Rs Go.Proofs.YtinngljphjdpoaaGreatDoor.Vu Go.Proofs.YtinngljphjdpoaaGreatDoor.Vo Go.Proofs.YtinngljphjdpoaaGreatDoor.Vh Go.Proofs.YtinngljphjdpoaaGreatDoor.Fl Go.Proofs.YtinngljphjdpoaaGreatDoor.Rf Go.Proofs.YtinngljphjdpoaaGreatDoor.Tx Go.Proofs.YtinngljphjdpoaaGreatDoor.Rp
set_option linter.unusedVariables false
set_option linter.unusedSimpArgs false
theorem re_int {a b : Int} {w : World} (e : a = b) : (fun (en : Ending) (w' : World) => en = .returned (.int .i64 a) ∧ Below w.heap.size w w') = (fun en w' => en = .returned (.int .i64 b) ∧ Below w.heap.size w w') := by rw [e]
theorem calls_eq {f : Nat} {args : Array Value} {w : World} {a b : Int} (h : Calls Tryz.prog f args w fun e w' => e = .returned (.int .i64 a) ∧ Below w.heap.size w w') (e : a = b) : Calls Tryz.prog f args w fun e w' => e = .returned (.int .i64 b) ∧ Below w.heap.size w w' := e ▸ h
theorem wz {n a b : Nat} : (if Vu.within n a b ≠ 0 then (83 : Int) else 0) = Vu.within n a b := by unfold Vu.within; split <;> split <;> simp_all
/-- plain, of every kind but a message. -/
theorem rplain (no kind : Int) (a b : Nat) (sub : List Slot) (C Ad Ap : Option Addr) (m cd cp c3 : Nat) (x : Va) (w : World) (hb : bnd (.mk no kind a b sub) = true) (h8 : kind ≠ 8) (hn : x.num < 18446744073709551616) (hp : x.parts.length ≤ 10000) (hd : x.data.length ≤ 700000) (hrd : Rd w (.slice Ad x.data.length cd) x.data) :
    Calls Tryz.prog 101 #[.agg #[.int .i64 no, .int .i64 kind, .int .u64 (a : Int), .int .u64 (b : Int), .slice C m c3], .agg #[.int .u64 (x.num : Int), .slice Ad x.data.length cd, .slice Ap x.parts.length cp]] w fun e w' => e = .returned (.int .i64 (plainOf Lib.validD (.mk no kind a b sub) x)) ∧ Below w.heap.size w w' := by
  have hbb := _root_.Go.Proofs.YtinngljphjdpoaaGreatDoor.Va.bnd_at no kind a b sub
  rw [hb] at hbb
  rcases bnd_kind hb with e | e | e | e | e | e | e | e | e
  all_goals simp only [Slot.kind] at e; subst e
  · refine calls_eq (plain_num1 no a b x.num x.data.length x.parts.length Ad Ap C m cd cp c3 x.data w hn (by omega) (by omega)) ?_
    simp only [plainOf, isOf, badOf, Slot.kind, Slot.least, Slot.most]
    by_cases g1 : x.data.length = 0 <;> by_cases g2 : x.parts.length = 0 <;> simp [g1, g2]
  · refine calls_eq (plain_num2 no a b x.num x.data.length x.parts.length Ad Ap C m cd cp c3 x.data w hn (by omega) (by omega)) ?_
    simp only [plainOf, isOf, badOf, Slot.kind, Slot.least, Slot.most]
    by_cases g1 : x.data.length = 0 <;> by_cases g2 : x.parts.length = 0 <;> simp [g1, g2]
  · refine calls_eq (plain_num3 no a b x.num x.data.length x.parts.length Ad Ap C m cd cp c3 x.data w hn (by omega) (by omega)) ?_
    simp only [plainOf, isOf, badOf, Slot.kind, Slot.least, Slot.most]
    by_cases g1 : x.data.length = 0 <;> by_cases g2 : x.parts.length = 0 <;> simp [g1, g2]
  · refine calls_eq (plain_flag no a b x.num x.data.length x.parts.length Ad Ap C m cd cp c3 x.data w hn (by omega) (by omega)) ?_
    simp only [plainOf, isOf, badOf, Slot.kind, Slot.least, Slot.most]
    by_cases g1 : x.data.length = 0 <;> by_cases g2 : x.parts.length = 0 <;> simp [g1, g2, Vu.within]
  · refine calls_eq (plain_bytes no a b x.num x.data.length x.parts.length Ad Ap C m cd cp c3 x.data w hn (by omega) (by omega)) ?_
    have := @wz x.data.length a b
    simp only [plainOf, isOf, badOf, Slot.kind, Slot.least, Slot.most]
    by_cases g1 : x.num = 0 <;> by_cases g2 : x.parts.length = 0 <;> simp_all
  · refine calls_eq (plain_text no a b x.num x.data.length x.parts.length Ad Ap C m cd cp c3 x.data w hn (by omega) (by omega) hrd) ?_
    simp only [plainOf, isOf, badOf, Slot.kind, Slot.least, Slot.most]
    by_cases g1 : x.num = 0 <;> by_cases g2 : x.parts.length = 0 <;> simp [g1, g2]
  · have h2 : b ≤ 9007199254740992 := by
      have h := hbb.symm
      simp at h
      omega
    refine calls_eq (plain_float no a b x.num x.data.length x.parts.length Ad Ap C m cd cp c3 x.data w hn (by omega) (by omega) h2) ?_
    simp only [plainOf, isOf, badOf, Slot.kind, Slot.least, Slot.most]
    by_cases g1 : x.data.length = 0 <;> by_cases g2 : x.parts.length = 0 <;> simp [g1, g2]
  · exact absurd rfl h8
  · refine calls_eq (plain_list no a b x.num x.data.length x.parts.length Ad Ap C m cd cp c3 x.data w hn (by omega) (by omega)) ?_
    simp only [plainOf, isOf, badOf, Slot.kind, Slot.least, Slot.most]
    by_cases g1 : x.num = 0 <;> by_cases g2 : x.data.length = 0 <;> simp [g1, g2]
/-- A fault as a value. -/
def fl (f : Flt) : Value := .agg #[.int .i64 f.1, .int .i64 f.2.1, .int .i64 f.2.2]
/-- What part answers. -/
def partOf (U : List UInt8 → Bool) (n : Nat) (t : Slot) (x : Va) (deep : Int) : Flt :=
  if t.kind = 8 then chk pF U n t.sub x (deep + 1)
  else if plainOf U t x ≠ 0 then (deep, t.no, plainOf U t x)
  else if t.kind = 9 then itemsGo (fun y => chk pF U n t.sub y (deep + 1)) x.parts
  else (0, 0, 0)
theorem chk_succ (U : List UInt8 → Bool) (n : Nat) (s : List Slot) (v : Va) (deep : Int) : chk pF U (n + 1) s v deep =
    (if v.num ≠ 0 ∨ v.data.length ≠ 0 then (deep, 0, 84) else if v.parts.length ≠ s.length then (deep, 0, 81) else chkGo (fun t x => partOf U n t x deep) s v.parts) := by
  simp only [chk]
  congr 2
  congr 1
  funext t x
  simp only [partOf, plainOf]
  by_cases h8 : t.kind = 8
  · simp [h8]
  · rw [if_neg h8, if_neg h8]
    by_cases hi : isOf t x = false
    · simp [hi]
    · simp [hi]
theorem itemsGo_drop (f : Va → Flt) (p : List Va) (i : Nat) (h : i < p.length) : itemsGo f (p.drop i) = if (f p[i]).2.2 ≠ 0 then f p[i] else itemsGo f (p.drop (i + 1)) := by
  rw [List.drop_eq_getElem_cons h]; rfl
theorem chkGo_drop (f : Slot → Va → Flt) (s : List Slot) (p : List Va) (i : Nat) (h : i < p.length) (h2 : i < s.length) : chkGo f (s.drop i) (p.drop i) = if (f s[i] p[i]).2.2 ≠ 0 then f s[i] p[i] else chkGo f (s.drop (i + 1)) (p.drop (i + 1)) := by
  rw [List.drop_eq_getElem_cons h, List.drop_eq_getElem_cons h2]; rfl
/-- What check answers. -/
def RChk (n : Nat) : Prop := ∀ (k m : Nat) (sv nv dv pv : Value) (l : List Slot) (x : Va) (deep : Int) (W w : World), RdS W n sv l → okL k l → RdV W m nv dv pv x → FewV (m + 1) x → Below W.heap.size W w → 0 ≤ deep → deep + n ≤ 1000000 →
  Calls Tryz.prog 61 #[sv, .agg #[nv, dv, pv], .int .i64 deep] w fun e w' => e = .returned (fl (chk pF Lib.validD n l x deep)) ∧ Below w.heap.size w w'
/-- The world where a fault is laid. -/
def set3 (w : World) (g : Nat) (f : Flt) : World := ((w.setCell ⟨g, 0, none⟩ (.int .i64 f.1)).setCell ⟨g, 1, none⟩ (.int .i64 f.2.1)).setCell ⟨g, 2, none⟩ (.int .i64 f.2.2)
theorem hp_set3 {w : World} {g : Nat} {a b c : Value} {t : TypeId} (h : hp w g = some (.cells #[a, b, c] t (0, 0))) (f : Flt) : hp (set3 w g f) g = some (.cells #[.int .i64 f.1, .int .i64 f.2.1, .int .i64 f.2.2] t (0, 0)) := by
  have h1 := heap_setCell_same w g 0 _ _ (.int .i64 f.1) h
  have h2 := heap_setCell_same _ g 1 _ _ (.int .i64 f.2.1) h1
  exact heap_setCell_same _ g 2 _ _ (.int .i64 f.2.2) h2
theorem below_set3 {B : Nat} {w0 w : World} (h : Below B w0 w) {g : Nat} (hg : B ≤ g) (f : Flt) : Below B w0 (set3 w g f) := ((h.setCell hg _).setCell hg _).setCell hg _
end Go.Proofs.YtinngljphjdpoaaGreatDoor.Rq
