/- append, kept whole. -/
import Derived.Test.YtinngljphjdpoaaGreatDoorJPl
import Derived.Test.YtinngljphjdpoaaGreatDoorJGn
namespace Go.Proofs.YtinngljphjdpoaaGreatDoor.Ce
open Go Go.RowKit
/-- append, kept whole. -/
def appX (a : Array TypeId) (ty : TypeId) (args : Array Value) : Sem Value := Builtin.append_ a ty args
theorem app_x (a : Array TypeId) (ty : TypeId) (args : Array Value) : Builtin.append_ a ty args = appX a ty args := by rw [appX]
@[go_sem ↓] theorem app_y (a : Array TypeId) (ty : TypeId) (args : Array Value) : Builtin.append_ a ty args = appX a ty args := app_x a ty args
end Go.Proofs.YtinngljphjdpoaaGreatDoor.Ce
/- The program's head of a field. -/
namespace Go.Proofs.YtinngljphjdpoaaGreatDoor.Gh
theorem below_hp {w w' : World} {g : Nat} {o : Obj} (h : Pa.hp w g = some o) (hb : RowKit.Below w.heap.size w w') : Pa.hp w' g = some o := (hb.block g (Array.getElem?_eq_some_iff.1 h).1).trans h
open Go Go.RowKit Go.Proofs.YtinngljphjdpoaaGreatDoor.Pa Go.Proofs.YtinngljphjdpoaaGreatDoor.Pb Go.Proofs.YtinngljphjdpoaaGreatDoor.Pf Go.Proofs.YtinngljphjdpoaaGreatDoor.Nz Go.Proofs.YtinngljphjdpoaaGreatDoor.Nm Go.Proofs.YtinngljphjdpoaaGreatDoor.Ea Go.Proofs.YtinngljphjdpoaaGreatDoor.Gp Go.Proofs.YtinngljphjdpoaaGreatDoor.Gn
set_option linter.unusedVariables false
set_option linter.unusedSimpArgs false
def set4 (w : World) (g : Nat) (a b c d : Value) : World := (((w.setCell ⟨g, 0, none⟩ a).setCell ⟨g, 1, none⟩ b).setCell ⟨g, 2, none⟩ c).setCell ⟨g, 3, none⟩ d
theorem hp_set4 {w : World} {g : Nat} {p q r s : Value} {t : TypeId} (h : hp w g = some (.cells #[p, q, r, s] t (0, 0))) (a b c d : Value) : hp (set4 w g a b c d) g = some (.cells #[a, b, c, d] t (0, 0)) := by
  have h1 := heap_setCell_same w g 0 _ _ a h
  have h2 := heap_setCell_same _ g 1 _ _ b h1
  have h3 := heap_setCell_same _ g 2 _ _ c h2
  exact heap_setCell_same _ g 3 _ _ d h3
theorem below_set4 {B : Nat} {w0 w : World} (h : Below B w0 w) {g : Nat} (hg : B ≤ g) (a b c d : Value) : Below B w0 (set4 w g a b c d) := (((h.setCell hg _).setCell hg _).setCell hg _).setCell hg _
theorem set4_other (w : World) (g k : Nat) (a b c d : Value) (h : k ≠ g) : (set4 w g a b c d).heap[k]? = w.heap[k]? := by
  unfold set4
  rw [heap_setCell_other _ _ _ _ h, heap_setCell_other _ _ _ _ h, heap_setCell_other _ _ _ _ h, heap_setCell_other _ _ _ _ h]
theorem results_cell2 {P : Program} {fn : Func} {q r p : Tmp} {ty : TypeId} (h : fn.results = #[.cell p ty, .tmp q, .tmp r]) (tmps : Array Value) (w : World) (g : Nat) (t : TypeId) (cs : Array Value) (fr : Nat × Nat) (d : TypeDesc)
    (hp : tmps.getD p undef = .pointer (some ⟨g, 0, none⟩)) (hg : w.heap[g]? = some (.cells cs t fr))
    (hu : P.underlying ty = some d) (hd : (match d with | .struct _ | .array _ _ => true | _ => false) = true) (hi : (P.info? ty).map (·.size) = some cs.size) :
    (results fn tmps).run P w = .ok (.tuple #[.agg cs, tmps.getD q undef, tmps.getD r undef]) w := by
  have hp' : tmps[p]?.getD undef = .pointer (some ⟨g, 0, none⟩) := by simpa using hp
  simp [results, h, hp', asAddr, run_loadVar_row w g t ty cs fr d hg hu hd hi]
theorem ret_cell2 {P : Program} {fn : Func} {R : Ending → World → Prop} {a : Act} {w : World} {q r p : Tmp} {ty t : TypeId} {g : Nat} {cs : Array Value} {fr : Nat × Nat} {d : TypeDesc} {v u : Value} (h : fn.results = #[.cell p ty, .tmp q, .tmp r])
    (hu : P.underlying ty = some d) (hd : (match d with | .struct _ | .array _ _ => true | _ => false) = true) (hi : (P.info? ty).map (·.size) = some cs.size)
    (ht : a.tmps.getD p undef = .pointer (some ⟨g, 0, none⟩)) (hv : a.tmps.getD q undef = v) (hu' : a.tmps.getD r undef = u) (hg : hp w g = some (.cells cs t fr)) (hdf : a.defers = []) (hR : R (.returned (.tuple #[.agg cs, v, u])) w) : bodyPost P fn R .ret a w := by
  subst hv hu'
  exact bodyPost_ret (v := .tuple #[.agg cs, a.tmps.getD q undef, a.tmps.getD r undef]) (results_cell2 h a.tmps w g t cs fr d ht hg hu hd hi) hdf hR
def headEnd (e : Int) (a k : Nat) : Int := if e = 0 then ((a + k : Nat) : Int) else (a : Int)
theorem numEnd_ok (a k : Nat) : numEnd 0 a k = ((a + k : Nat) : Int) := rfl
def hv4 (no ty : Nat) : Value := .agg #[.int .i64 (no : Int), .int .i64 (ty : Int), .int .u64 0, .slice none 0 0]
/-- What is wrong with a head whose number was read. -/
def headE (n : Nat) (count : Nat) (last : Int) : Int :=
  if count = 64 then 2 else if n / 8 < 1 ∨ 536870911 < n / 8 ∨ ((n / 8 : Nat) : Int) ≤ last then 71
  else if n % 8 = 2 ∨ n % 8 = 0 ∨ n % 8 = 1 ∨ n % 8 = 5 then 0 else 72
theorem head_of {l : List UInt8} {n k : Nat} (h : rdn l = (0, n, k)) (count : Nat) (last : Int) : Gp.head l count last = if headE n count last = 0 then (0, n / 8, n % 8, k) else (headE n count last, 0, 0, 0) := by
  simp only [Gp.head, h, headE, ne_eq, not_true, if_false]
  by_cases h1 : count = 64
  · simp [h1]
  · by_cases h2 : n / 8 < 1 ∨ 536870911 < n / 8 ∨ ((n / 8 : Nat) : Int) ≤ last
    · simp only [if_neg h1, if_pos h2]; rfl
    · by_cases h3 : n % 8 = 2 ∨ n % 8 = 0 ∨ n % 8 = 1 ∨ n % 8 = 5
      · simp only [if_neg h1, if_neg h2, if_pos h3, if_true]
      · simp only [if_neg h1, if_neg h2, if_neg h3]; rfl
theorem wrong_head (n : Nat) (last : Int) (h1 : 1 ≤ n / 8) (h2 : n / 8 ≤ 536870911) (h3 : last < ((n / 8 : Nat) : Int)) :
    Ep.wrong ⟨(n : Int) / 8, (n : Int) % 8, 0, []⟩ last = if n % 8 = 2 ∨ n % 8 = 0 ∨ n % 8 = 1 ∨ n % 8 = 5 then 0 else 72 := by
  unfold Ep.wrong
  rw [if_neg (by simp only [not_or]; omega)]
  have hm : n % 8 < 8 := Nat.mod_lt _ (by omega)
  simp only [List.length_nil, ne_eq, not_true_eq_false, if_false, false_or]
  split <;> split <;> (try rfl) <;> (try omega)
set_option maxHeartbeats 1000000 in
set_option maxRecDepth 100000 in
theorem head (v : Value) (b : List UInt8) (p : Nat) (w : World) (hv : Rd w v b) (hp : p ≤ b.length) (hb : b.length ≤ 100000000) (count : Nat) (hc : count ≤ 64) (last : Int) (hl0 : 0 ≤ last) (hl1 : last ≤ 536870911)
    (e : Int) (no ty k : Nat) (hh : Gp.head (b.drop p) count last = (e, no, ty, k)) :
    Calls Tryz.prog 150 #[v, .int .i64 (p : Int), .int .i64 (count : Int), .int .i64 last] w fun e' w' => e' = .returned (.tuple #[hv4 no ty, .int .i64 (headEnd e p k), .int .i64 e]) ∧ Below w.heap.size w w' := by
  obtain ⟨e1, n, k1, hr⟩ : ∃ e1 n k1, rdn (b.drop p) = (e1, n, k1) := ⟨_, _, _, rfl⟩
  obtain ⟨w1', hw1⟩ : ∃ y, y = w.alloc (.cells #[.int .i64 0, .int .i64 0, .int .u64 0, .slice none 0 0] 140) := ⟨_, rfl⟩
  have hb1 : Below w.heap.size w w1' := by rw [hw1]; exact vb _ _
  have hv1 := hv.below hb1
  have NUM := Lib.hid (number v b p w1' hv1 hp hb e1 n k1 hr)
  have HB1 := Lib.hid hb1
  have hg1 : Pa.hp w1' w.heap.size = some (.cells #[.int .i64 0, .int .i64 0, .int .u64 0, .slice none 0 0] 140 (0, 0)) := by rw [hw1]; exact hp_alloc_at _ _ rfl
  have HG1 := Lib.hid hg1
  have hsz : w1'.heap.size = w.heap.size + 1 := by rw [hw1]; simp
  have HSZ := Lib.hid hsz
  clear hb1 hg1 hsz
  obtain ⟨qe, hqe⟩ : ∃ q, q = headEnd e p k := ⟨_, rfl⟩
  rw [← hqe]
  have HHE := Lib.hid hh; have HQE := Lib.hid hqe
  clear hh hqe
  go_enter Tryz.func150, Tryz.ntmps150
  go_wp2_with (go_at_call 9999)
  rw [← hw1]
  clear hw1
  go_at_call 156
  refine NUM.out.mono ?_
  rintro _ w1 ⟨rfl, rfl⟩
  have hc1 := fun i => hp_cell HG1.out i
  have hf1 := fun i => hp_frozen HG1.out i
  by_cases h1 : e1 = 0
  · subst h1
    have hnb := rdn_back hr
    have hn : n < 18446744073709551616 := hnb.2.2.1
    have hh := HHE.out
    rw [head_of hr] at hh
    rw [numEnd_ok]
    have HX := Lib.hid hh
    clear hh
    clear NUM hr hnb
    by_cases c64 : count = 64
    · have hE : headE n count last = 2 := by unfold headE; rw [if_pos c64]
      have hx := HX.out
      rw [hE, if_neg (by decide)] at hx
      simp only [Prod.mk.injEq] at hx
      obtain ⟨rfl, rfl, rfl, rfl⟩ := hx
      have hq := HQE.out
      have hq2 : headEnd 2 p 0 = (p : Int) := rfl
      rw [hq2] at hq
      subst hq c64
      clear hE HX HHE
      go_wp2_with fail
      refine ret_cell2 (g := w.heap.size) (cs := #[.int .i64 0, .int .i64 0, .int .u64 0, .slice none 0 0]) (t := 140) (fr := (0, 0)) Tryz.results150 Tryz.underlying140 rfl (by kernel_rfl) rfl rfl rfl (hp_set4 HG1.out _ _ _ _) rfl ?_
      exact ⟨rfl, below_set4 HB1.out (Nat.le_refl _) _ _ _ _⟩
    · by_cases c71 : n / 8 < 1 ∨ 536870911 < n / 8 ∨ ((n / 8 : Nat) : Int) ≤ last
      · have hE : headE n count last = 71 := by unfold headE; rw [if_neg c64, if_pos c71]
        have hx := HX.out
        rw [hE, if_neg (by decide)] at hx
        simp only [Prod.mk.injEq] at hx
        obtain ⟨rfl, rfl, rfl, rfl⟩ := hx
        have hq := HQE.out
        have hq2 : headEnd 71 p 0 = (p : Int) := rfl
        rw [hq2] at hq
        subst hq
        clear hE HX HHE
        go_wp2_with fail
        all_goals
          refine ret_cell2 (g := w.heap.size) (cs := #[.int .i64 0, .int .i64 0, .int .u64 0, .slice none 0 0]) (t := 140) (fr := (0, 0)) Tryz.results150 Tryz.underlying140 rfl (by kernel_rfl) rfl rfl rfl (hp_set4 HG1.out _ _ _ _) rfl ?_
          exact ⟨rfl, below_set4 HB1.out (Nat.le_refl _) _ _ _ _⟩
      · have hw := wrong_head n last (by omega) (by omega) (by omega)
        have hm : n % 8 < 8 := Nat.mod_lt _ (by omega)
        have d1 : ¬ (n : Int) / 8 < 1 := by omega
        have d2 : ¬ 536870911 < (n : Int) / 8 := by omega
        have d3 : ¬ (n : Int) / 8 ≤ last := by omega
        have hE : headE n count last = if n % 8 = 2 ∨ n % 8 = 0 ∨ n % 8 = 1 ∨ n % 8 = 5 then 0 else 72 := by unfold headE; rw [if_neg c64, if_neg c71]
        rw [← hE] at hw
        have hx := HX.out
        have WR := Lib.hid (wrong ((n : Int) / 8) ((n : Int) % 8) last 0 none 0 0 [] rfl (by omega) (w1.alloc (.cells #[.int .i64 ((n : Int) / 8), .int .i64 ((n : Int) % 8), .int .u64 0, .slice none 0 0] 140)))
        have HG2 := Lib.hid (hp_alloc_at (.cells #[.int .i64 ((n : Int) / 8), .int .i64 ((n : Int) % 8), .int .u64 0, .slice none 0 0] 140) w1.heap.size (w := w1) rfl)
        have HG0 := Lib.hid (below_hp HG1.out (vb w1 (.cells #[.int .i64 ((n : Int) / 8), .int .i64 ((n : Int) % 8), .int .u64 0, .slice none 0 0] 140)))
        have HB2 := Lib.hid (HB1.out.trans ((vb w1 (.cells #[.int .i64 ((n : Int) / 8), .int .i64 ((n : Int) % 8), .int .u64 0, .slice none 0 0] 140)).mono HB1.out.size))
        have HE := Lib.hid hE; have HXX := Lib.hid hx; have HW := Lib.hid hw
        clear hw hE hx HX HHE hm c71
        go_wp2_with (go_at_call 9999)
        go_at_call 104
        refine WR.out.mono ?_
        rintro _ w3 ⟨rfl, b3⟩
        have hg3 := below_hp HG2.out b3
        have hg0 := below_hp HG0.out b3
        have hc3 := fun i => hp_cell hg3 i
        have hc0 := fun i => hp_cell hg0 i
        have hf0 := fun i => hp_frozen hg0 i
        have hb3 := HB2.out.trans (b3.mono HB2.out.size)
        have HB3 := Lib.hid hb3; have HG3 := Lib.hid hg0
        rw [HW.out]
        clear hg3 hg0 hb3 b3 WR hc1 hf1
        by_cases h0 : headE n count last = 0
        · have hx := HXX.out
          rw [if_pos h0] at hx
          simp only [Prod.mk.injEq] at hx
          obtain ⟨rfl, rfl, rfl, rfl⟩ := hx
          have hq := HQE.out
          have hq2 : headEnd 0 p k1 = ((p + k1 : Nat) : Int) := rfl
          rw [hq2] at hq
          subst hq
          rw [h0]
          clear HXX HW HE h0 hq2 HQE
          go_wp2_with fail
          refine ret_cell2 (g := w.heap.size) (cs := #[.int .i64 ((n : Int) / 8), .int .i64 ((n : Int) % 8), .int .u64 0, .slice none 0 0]) (t := 140) (fr := (0, 0)) Tryz.results150 Tryz.underlying140 rfl (by kernel_rfl) rfl rfl rfl (hp_set4 HG3.out _ _ _ _) rfl ?_
          exact ⟨by simp [hv4], below_set4 HB3.out (Nat.le_refl _) _ _ _ _⟩
        · have hx := HXX.out
          rw [if_neg h0] at hx
          simp only [Prod.mk.injEq] at hx
          obtain ⟨he, rfl, rfl, rfl⟩ := hx
          rw [he] at h0
          rw [he]
          have hq := HQE.out
          have hq2 : headEnd e p 0 = (p : Int) := by unfold headEnd; rw [if_neg h0]
          rw [hq2] at hq
          subst hq
          clear HXX HW HE hq2 HQE he
          go_wp2_with fail
          refine ret_cell2 (g := w.heap.size) (cs := #[.int .i64 0, .int .i64 0, .int .u64 0, .slice none 0 0]) (t := 140) (fr := (0, 0)) Tryz.results150 Tryz.underlying140 rfl (by kernel_rfl) rfl rfl rfl (hp_set4 HG3.out _ _ _ _) rfl ?_
          exact ⟨rfl, below_set4 HB3.out (Nat.le_refl _) _ _ _ _⟩
  · have hz : e = e1 ∧ no = 0 ∧ ty = 0 ∧ k = 0 := by
      have hh := HHE.out
      simp only [Gp.head, hr] at hh
      rw [if_pos h1] at hh
      simp only [Prod.mk.injEq] at hh
      exact ⟨hh.1.symm, hh.2.1.symm, hh.2.2.1.symm, hh.2.2.2.symm⟩
    obtain ⟨rfl, rfl, rfl, rfl⟩ := hz
    have hq := HQE.out
    have hx : headEnd e p 0 = (p : Int) := by unfold headEnd; rw [if_neg h1]
    rw [hx] at hq
    subst hq
    clear HHE hr NUM HQE hx
    go_wp2_with fail
    refine ret_cell2 (g := w.heap.size) (cs := #[.int .i64 0, .int .i64 0, .int .u64 0, .slice none 0 0]) (t := 140) (fr := (0, 0)) Tryz.results150 Tryz.underlying140 rfl (by kernel_rfl) rfl rfl rfl (hp_set4 HG1.out _ _ _ _) rfl ?_
    exact ⟨rfl, below_set4 HB1.out (Nat.le_refl _) _ _ _ _⟩
end Go.Proofs.YtinngljphjdpoaaGreatDoor.Gh
/- A slice cut out of a slice; numbers put together byte by byte: plain. -/
namespace Go.Proofs.YtinngljphjdpoaaGreatDoor.Gs
open Go Go.RowKit Go.Proofs.YtinngljphjdpoaaGreatDoor.Pa Go.Proofs.YtinngljphjdpoaaGreatDoor.Pb Go.Proofs.YtinngljphjdpoaaGreatDoor.Pf Go.Proofs.YtinngljphjdpoaaGreatDoor.Nz Go.Proofs.YtinngljphjdpoaaGreatDoor.Ce Go.Proofs.YtinngljphjdpoaaGreatDoor.Ea Go.Proofs.YtinngljphjdpoaaGreatDoor.Gp
set_option linter.unusedVariables false
set_option linter.unusedSimpArgs false
/-- A copy of bytes: append onto nothing. -/
theorem run_copy {P : Program} {T E : TypeId} (hU : U8 P T E) (ty : TypeId) {w : World} {x : Value} {m : List UInt8} (hx : Rd w x m) (hl : m.length ≤ 140737488355328) :
    ∃ A c w', (appX #[T, T] ty #[.slice none 0 0, x]).run P w = .ok (.slice A m.length c) w' ∧ Own w' w.heap.size E (.slice A m.length c) m ∧ Below w.heap.size w w' := by
  obtain ⟨v', w', h1, h2, h3, h4⟩ := run_app hU ty (Own.nil w w.heap.size E) hx (Nat.le_refl _) (by simpa using hl)
  rw [List.nil_append] at h2
  obtain ⟨A, c, rfl⟩ := h2.slice
  exact ⟨A, c, w', by rw [← app_x]; exact h1, h2, below_grown (Below.refl _ _) (Own.nil w w.heap.size E) (Nat.le_refl _) (Nat.le_refl _) h3⟩
theorem run_mid {P : Program} {T E : TypeId} (hU : U8 P T E) (A : Option Addr) (n c lo hi : Nat) (h1 : lo ≤ hi) (h2 : hi ≤ n) (hc : n ≤ c) (W : World) :
    (Instr.slice T (.slice A n c) (some (.int .i64 (lo : Int))) (some (.int .i64 (hi : Int))) none).run P W = .ok (.slice (if c = lo then A else A.map (·.add lo)) (hi - lo) (c - lo)) W := by
  obtain ⟨i, hi', hzz⟩ := Option.map_eq_some_iff.1 hU.info
  simp only [Prod.mk.injEq] at hzz
  have hel : P.elem T = E := by simp [Program.elem, hU.sl]
  have hu : P.underlying T = some (.slice (P.elem T)) := by rw [hel]; exact hU.sl
  rw [run_slice_lh W T A n c hu .i64 .i64 lo hi (by omega) (by omega) (by omega), hel]
  simp [sizeOf, typeInfo, hi', hzz.2.1, sliced, Result.andThen]
theorem wp_mid {P : Program} {T E : TypeId} (hU : U8 P T E) {o : Oper} {a : Act} {K : Act → World → Prop} {Q : Exit → Act → World → Prop} {w : World} (s x y : Operand) (ho : o.op = .slice T s (some x) (some y) none)
    {A : Option Addr} {n c : Nat} {lo' hi' : Int} (hs : a.eval s = .slice A n c) (hx : a.eval x = .int .i64 lo') (hy : a.eval y = .int .i64 hi') (lo hi : Nat) (hlo : lo' = (lo : Int)) (hhi : hi' = (hi : Int)) (h1 : lo ≤ hi) (h2 : hi ≤ n) (hc : n ≤ c)
    {u : Value} (hu : .slice (if c = lo then A else A.map (·.add lo)) (hi - lo) (c - lo) = u) (h : K (a.put o.dst u) w) : o.wp P a w K Q := by
  subst hlo hhi hu
  have hel : P.elem T = E := by simp [Program.elem, hU.sl]
  have hr := (run_sliceAt_slice (w := w) T (.slice A n c) (some (.int .i64 (lo : Int))) (some (.int .i64 (hi : Int))) none (by rw [hel]; exact hU.sl)).trans (run_mid hU A n c lo hi h1 h2 hc w)
  unfold Oper.wp execOp
  simp only [ho, hs, hx, hy, Option.map_some, Option.map_none, hr, Sem.run_bind, Result.andThen_ok, Sem.run_pure]
  exact h
theorem rd_mid {w : World} {A : Option Addr} {n c : Nat} {l : List UInt8} (h : Rd w (.slice A n c) l) (lo hi : Nat) (h1 : lo ≤ hi) (h2 : hi ≤ l.length) :
    Rd w (.slice (if c = lo then A else A.map (·.add lo)) (hi - lo) (c - lo)) ((l.drop lo).take (hi - lo)) := by
  have hl : ((l.drop lo).take (hi - lo)).length = hi - lo := by simp; omega
  obtain ⟨h3, h4, h5⟩ := h.len
  refine ⟨_, _, by rw [hl], by omega, by omega, fun h0 => ?_⟩
  rw [hl] at h0
  obtain ⟨ad, rfl, -⟩ := h.at_ lo (by omega)
  rw [if_neg (by omega)]
  refine ⟨ad.add lo, rfl, fun j u hu => ?_⟩
  have hj := (List.getElem?_eq_some_iff.1 hu).1
  simp at hj
  obtain ⟨ad', e, hc⟩ := h.at_ (lo + j) (by omega)
  cases e
  have hadd : (ad.add lo).add j = ad.add (lo + j) := by
    unfold Addr.add
    split <;> split <;> simp_all <;> omega
  rw [hadd, hc, ← hu]
  simp [cb, hj]
theorem own_mid {A : Option Addr} {n c lo hi : Nat} {g : Nat} (h : (Value.slice A n c).ownBlock ≠ some g) : (Value.slice (if c = lo then A else A.map (·.add lo)) (hi - lo) (c - lo)).ownBlock ≠ some g := by
  cases A with
  | none => split <;> simp [Value.ownBlock]
  | some ad =>
    have hb : (ad.add lo).block = ad.block := by unfold Addr.add; split <;> rfl
    have h' : ad.block ≠ g := fun e => h (by simp [Value.ownBlock, e])
    split
    · simp [Value.ownBlock, h']
    · simp [Value.ownBlock, hb, h']
/-- Other blocks' bytes lie as they lay. -/
theorem rd_keep {w w' : World} {v : Value} {l : List UInt8} {row : Option Nat} (h : Rd w v l) (hg : w.grownBy w' row) (hne : ∀ k, row = some k → v.ownBlock ≠ some k) : Rd w' v l := by
  obtain ⟨A, c, rfl, h1, h2, h3⟩ := h
  refine ⟨A, c, rfl, h1, h2, fun h0 => ?_⟩
  obtain ⟨ad, rfl, hc⟩ := h3 h0
  refine ⟨ad, rfl, fun j u hu => ?_⟩
  have hb : (ad.add j).block = ad.block := by unfold Addr.add; split <;> rfl
  have hlt := World.block_lt_of_cell? w _ (hc j u hu)
  rw [World.cell?_of_block (hg.block _ hlt (fun e => hne _ e.symm (by rw [hb]; rfl)))]
  exact hc j u hu
theorem grown_set (w : World) (g i : Nat) (x : Value) : w.grownBy (w.setCell ⟨g, i, none⟩ x) (some g) :=
  ⟨rfl, rfl, rfl, by simp [World.setCell], fun b _ hne => heap_setCell_other _ _ _ _ (fun e => hne (by rw [e]))⟩
theorem grown_trans {w w1 w2 : World} {r : Option Nat} (h : w.grownBy w1 r) (k : w1.grownBy w2 r) : w.grownBy w2 r :=
  ⟨k.os.trans h.os, k.tape.trans h.tape, k.output.trans h.output, Nat.le_trans h.size k.size, fun b hb hne => (k.block b (Nat.lt_of_lt_of_le hb h.size) hne).trans (h.block b hb hne)⟩
theorem grown_drew (w : World) (r : Option Nat) : w.grownBy w.drew r := grown_below (Below.refl _ _).drew r
theorem low'_snoc : ∀ (l : List UInt8) (x : UInt8), low' (l ++ [x]) = low' l + x.toNat * 256 ^ l.length
  | [], x => by simp [low']
  | y :: t, x => by
    simp only [List.cons_append, low', low'_snoc t x, List.length_cons, Nat.pow_succ, Nat.mul_add]
    rw [Nat.add_assoc, ← Nat.mul_assoc, Nat.mul_comm 256 x.toNat, Nat.mul_assoc, Nat.mul_comm 256 (256 ^ _)]
theorem low'_lt : ∀ (l : List UInt8), low' l < 256 ^ l.length
  | [] => by simp [low']
  | y :: t => by
    have := low'_lt t
    have hy := y.toNat_lt
    simp only [low', List.length_cons, Nat.pow_succ]
    omega
theorem or_shl8 (acc X i : Nat) (hi : i ≤ 7) (ha : acc < 256 ^ i) (hx : X < 256) : bits .or .u64 (acc : Int) (IntKind.u64.wrap ((X : Int) * 2 ^ (8 * i))) = ((acc + X * 256 ^ i : Nat) : Int) := by
  have hpow : 256 ^ i = 2 ^ (8 * i) := by rw [show (256 : Nat) = 2 ^ 8 from rfl, ← Nat.pow_mul]
  have e7 : 256 ^ 7 = 72057594037927936 := by decide
  have h7 : 256 ^ i ≤ 256 ^ 7 := Nat.pow_le_pow_right (by omega) hi
  rw [e7] at h7
  have hs : X * 256 ^ i ≤ 255 * 72057594037927936 := Nat.mul_le_mul (by omega) h7
  have h1 : (X : Int) * 2 ^ (8 * i) = ((X * 256 ^ i : Nat) : Int) := by rw [hpow]; push_cast; rfl
  rw [h1, IntKind.wrap_u64, Int.emod_eq_of_lt (by omega) (by omega)]
  rw [u64_or_nat _ _ (by omega) (by omega)]
  have := Nat.shiftLeft_add_eq_or_of_lt (i := 8 * i) (b := acc) (by rw [← hpow]; exact ha) X
  rw [Nat.shiftLeft_eq, ← hpow] at this
  rw [Nat.or_comm, ← this, Nat.add_comm]
end Go.Proofs.YtinngljphjdpoaaGreatDoor.Gs
/- The program's value of a field. -/
namespace Go.Proofs.YtinngljphjdpoaaGreatDoor.Gv
open Go Go.RowKit Go.Proofs.YtinngljphjdpoaaGreatDoor.Pa Go.Proofs.YtinngljphjdpoaaGreatDoor.Pb Go.Proofs.YtinngljphjdpoaaGreatDoor.Pf Go.Proofs.YtinngljphjdpoaaGreatDoor.Nz Go.Proofs.YtinngljphjdpoaaGreatDoor.Nm Go.Proofs.YtinngljphjdpoaaGreatDoor.Ce Go.Proofs.YtinngljphjdpoaaGreatDoor.Ea Go.Proofs.YtinngljphjdpoaaGreatDoor.Gp Go.Proofs.YtinngljphjdpoaaGreatDoor.Gn Go.Proofs.YtinngljphjdpoaaGreatDoor.Gh Go.Proofs.YtinngljphjdpoaaGreatDoor.Gs
set_option linter.unusedVariables false
set_option linter.unusedSimpArgs false
/-- What reading a value leaves behind. -/
def VSaid (w : World) (g : Nat) (no : Int) (ty : Nat) (q : Nat) (e : Int) (num : Nat) (data : List UInt8) (k : Nat) (e' : Ending) (w' : World) : Prop :=
  e' = .returned (.tuple #[.int .i64 (numEnd e q k), .int .i64 e]) ∧ w.grownBy w' (some g) ∧
  (e = 0 → ∃ dv, Pa.hp w' g = some (.cells #[.int .i64 no, .int .i64 (ty : Int), .int .u64 (num : Int), dv] 140 (0, 0)) ∧ Own w' w.heap.size 5 dv data)
set_option maxHeartbeats 1000000 in
set_option maxRecDepth 100000 in
theorem value0 (v : Value) (b : List UInt8) (q g : Nat) (no : Int) (w : World) (hv : Rd w v b) (hq : q ≤ b.length) (hb : b.length ≤ 100000000)
    (hg : Pa.hp w g = some (.cells #[.int .i64 no, .int .i64 0, .int .u64 0, .slice none 0 0] 140 (0, 0))) (e : Int) (num : Nat) (data : List UInt8) (k : Nat) (hh : Gp.val 0 (b.drop q) = (e, num, data, k)) :
    Calls Tryz.prog 151 #[v, .pointer (some ⟨g, 0, none⟩), .int .i64 (q : Int)] w (VSaid w g no 0 q e num data k) := by
  obtain ⟨e1, n, k1, hr⟩ : ∃ e1 n k1, rdn (b.drop q) = (e1, n, k1) := ⟨_, _, _, rfl⟩
  have hx : e1 = e ∧ n = num ∧ data = [] ∧ k1 = k := by
    simp only [Gp.val, hr, if_true] at hh
    split at hh
    · rename_i h0
      obtain ⟨h1, h2, -⟩ := rdn_bad hr h0
      simp only [Prod.mk.injEq] at hh
      exact ⟨hh.1, by rw [h1, ← hh.2.1], hh.2.2.1.symm, by rw [h2, ← hh.2.2.2]⟩
    · rename_i h0
      simp only [ne_eq, Decidable.not_not] at h0
      simp only [Prod.mk.injEq] at hh
      exact ⟨by rw [h0, ← hh.1], hh.2.1, hh.2.2.1.symm, hh.2.2.2⟩
  obtain ⟨rfl, rfl, rfl, rfl⟩ := hx
  have NUM := Lib.hid (number v b q w hv hq hb e1 n k1 hr)
  have hc0 := fun i => hp_cell hg i
  have hf0 := fun i => hp_frozen hg i
  have HG := Lib.hid hg
  clear hh hr hv hg
  go_enter Tryz.func151, Tryz.ntmps151
  go_wp2_with (go_at_call 9999)
  go_at_call 156
  refine NUM.out.mono ?_
  rintro _ _ ⟨rfl, rfl⟩
  obtain ⟨qe, hqe⟩ : ∃ y, y = numEnd e1 q k1 := ⟨_, rfl⟩
  rw [← hqe]
  have HQ := Lib.hid hqe; clear hqe
  go_wp2_with fail
  go_ret2
  have h1 := heap_setCell_same _ g 2 _ _ (.int .u64 (n : Int)) HG.out
  exact ⟨by rw [← HQ.out]; rfl, grown_set _ _ _ _, fun _ => ⟨_, h1, Own.nil _ _ _⟩⟩
set_option maxHeartbeats 1000000 in
set_option maxRecDepth 100000 in
theorem value2 (v : Value) (b : List UInt8) (q g : Nat) (no : Int) (w : World) (hv : Rd w v b) (hq : q ≤ b.length) (hb : b.length ≤ 100000000) (hvg : v.ownBlock ≠ some g)
    (hg : Pa.hp w g = some (.cells #[.int .i64 no, .int .i64 2, .int .u64 0, .slice none 0 0] 140 (0, 0))) (e : Int) (num : Nat) (data : List UInt8) (k : Nat) (hh : Gp.val 2 (b.drop q) = (e, num, data, k)) :
    Calls Tryz.prog 151 #[v, .pointer (some ⟨g, 0, none⟩), .int .i64 (q : Int)] w (VSaid w g no 2 q e num data k) := by
  obtain ⟨e1, n, k1, hr⟩ : ∃ e1 n k1, rdn (b.drop q) = (e1, n, k1) := ⟨_, _, _, rfl⟩
  have NUM := Lib.hid (number v b q w hv hq hb e1 n k1 hr)
  have hc0 := fun i => hp_cell hg i
  have hf0 := fun i => hp_frozen hg i
  have HG := Lib.hid hg; have HV := Lib.hid hv
  obtain ⟨A, c, rfl, -⟩ := id hv
  have HVG := Lib.hid hvg
  simp only [Gp.val, hr, List.length_drop] at hh
  rw [if_neg (by decide), if_pos trivial] at hh
  clear hv hg hvg
  by_cases h0 : e1 = 0
  · subst h0
    obtain ⟨hk0, hkl, hn64, -⟩ := rdn_back hr
    simp only [List.length_drop] at hkl
    have hne : numEnd 0 q k1 = ((q + k1 : Nat) : Int) := rfl
    rw [hne] at NUM
    rw [if_neg (by simp)] at hh
    clear hr hne
    by_cases hlt : b.length - q - k1 < n
    · rw [if_pos hlt] at hh
      simp only [Prod.mk.injEq] at hh
      obtain ⟨rfl, rfl, rfl, rfl⟩ := hh
      have hgt : (b.length : Int) - ((q : Int) + (k1 : Int)) < (n : Int) := by omega
      have hge : 0 ≤ (b.length : Int) - ((q : Int) + (k1 : Int)) := by omega
      go_enter Tryz.func151, Tryz.ntmps151
      go_wp2_with (go_at_call 9999)
      go_at_call 156
      refine NUM.out.mono ?_
      rintro _ _ ⟨rfl, rfl⟩
      go_wp2_with fail
      all_goals go_ret2
      all_goals exact ⟨rfl, ⟨rfl, rfl, rfl, Nat.le_refl _, fun _ _ _ => rfl⟩, fun h => absurd h (by decide)⟩
    · rw [if_neg hlt] at hh
      simp only [Prod.mk.injEq] at hh
      obtain ⟨rfl, rfl, rfl, rfl⟩ := hh
      have hle : (n : Int) ≤ (b.length : Int) - ((q : Int) + (k1 : Int)) := by omega
      have hge : 0 ≤ (b.length : Int) - ((q : Int) + (k1 : Int)) := by omega
      have hcl := HV.out.len.2.1
      have hcm := HV.out.len.2.2
      have hn100 : n ≤ 100000000 := by omega
      have hrm := rd_mid HV.out (q + k1) (q + k1 + n) (by omega) (by omega)
      rw [← List.drop_drop] at hrm
      rw [show q + k1 + n - (q + k1) = n by omega] at hrm
      have hdl : (((b.drop q).drop k1).take n).length = n := by simp; omega
      obtain ⟨A3, c3, w3, hap, hod, hb3⟩ := run_copy u8 23 hrm (by rw [hdl]; omega)
      rw [hdl] at hap hod
      have hg3 := below_hp HG.out hb3
      have hc3 := fun i => hp_cell hg3 i
      have hf3 := fun i => hp_frozen hg3 i
      have HG3 := Lib.hid hg3; have HB3 := Lib.hid hb3; have HOD := Lib.hid hod
      have hfin : VSaid w g no 2 q 0 0 (((b.drop q).drop k1).take n) (k1 + n) (.returned (.tuple #[.int .i64 ((q : Int) + (k1 : Int) + (n : Int)), .int .i64 0])) (w3.setCell ⟨g, 3, none⟩ (.slice A3 n c3)) := by
        have h1 := heap_setCell_same w3 g 3 _ _ (.slice A3 n c3) HG3.out
        have hn2 : numEnd 0 q (k1 + n) = (q : Int) + (k1 : Int) + (n : Int) := by unfold numEnd; rw [if_pos rfl]; push_cast; omega
        refine ⟨by rw [hn2], ?_, fun _ => ⟨_, h1, ?_⟩⟩
        · exact ⟨HB3.out.os, HB3.out.tape, HB3.out.output, by simp [World.setCell]; exact HB3.out.size, fun r hr hne => (heap_setCell_other _ _ _ _ (fun e => hne (by rw [e]))).trans (HB3.out.block r hr)⟩
        · refine HOD.out.kept (grown_set w3 g 3 _) (.inr (fun e => ?_))
          have h2 := (HOD.out.lt g e).1
          have h3 := (Array.getElem?_eq_some_iff.1 HG.out).1
          omega
      have HF := Lib.hid hfin
      clear hrm hod hg3 hb3 hcm hfin
      by_cases hcc : c = q + k1
      · rw [if_pos hcc] at hap
        subst hcc
        simp only [Nat.sub_self] at hap
        go_enter Tryz.func151, Tryz.ntmps151
        go_wp2_with (go_at_call 9999)
        go_at_call 156
        refine NUM.out.mono ?_
        rintro _ _ ⟨rfl, rfl⟩
        go_wp2_with fail
        all_goals go_ret2
        all_goals exact HF.out
      · rw [if_neg hcc] at hap
        go_enter Tryz.func151, Tryz.ntmps151
        go_wp2_with (go_at_call 9999)
        go_at_call 156
        refine NUM.out.mono ?_
        rintro _ _ ⟨rfl, rfl⟩
        go_wp2_with fail
        all_goals go_ret2
        all_goals exact HF.out
  · rw [if_pos h0] at hh
    simp only [Prod.mk.injEq] at hh
    obtain ⟨rfl, rfl, rfl, rfl⟩ := hh
    have hx : numEnd e1 q 0 = 0 := by unfold numEnd; rw [if_neg h0]
    go_enter Tryz.func151, Tryz.ntmps151
    go_wp2_with (go_at_call 9999)
    go_at_call 156
    refine NUM.out.mono ?_
    rintro _ _ ⟨rfl, rfl⟩
    generalize numEnd e1 q k1 = z
    go_wp2_with fail
    go_ret2
    exact ⟨by rw [hx]; rfl, ⟨rfl, rfl, rfl, Nat.le_refl _, fun _ _ _ => rfl⟩, fun h => absurd h h0⟩
set_option maxHeartbeats 2000000 in
set_option maxRecDepth 100000 in
theorem value5 (v : Value) (b : List UInt8) (q g : Nat) (no : Int) (w : World) (hv : Rd w v b) (hq : q ≤ b.length) (hb : b.length ≤ 100000000) (hvg : v.ownBlock ≠ some g)
    (hg : Pa.hp w g = some (.cells #[.int .i64 no, .int .i64 5, .int .u64 0, .slice none 0 0] 140 (0, 0))) (e : Int) (num : Nat) (data : List UInt8) (k : Nat)
    (hh : Gp.val 5 (b.drop q) = (e, num, data, k)) :
    Calls Tryz.prog 151 #[v, .pointer (some ⟨g, 0, none⟩), .int .i64 (q : Int)] w (VSaid w g no 5 q e num data k) := by
  have hc0 := fun i => hp_cell hg i
  have hf0 := fun i => hp_frozen hg i
  have HG := Lib.hid hg; have HV := Lib.hid hv
  obtain ⟨A, c, rfl, -⟩ := id hv
  have HVG := Lib.hid hvg
  simp only [Gp.val, List.length_drop] at hh
  rw [if_neg (by decide), if_neg (by decide), if_pos trivial] at hh
  clear hv hg hvg
  by_cases hlt : b.length - q < 4
  · rw [if_pos hlt] at hh
    simp only [Prod.mk.injEq] at hh
    obtain ⟨rfl, rfl, rfl, rfl⟩ := hh
    go_enter Tryz.func151, Tryz.ntmps151
    go_wp2_with fail
    all_goals go_ret2
    all_goals exact ⟨rfl, ⟨rfl, rfl, rfl, Nat.le_refl _, fun _ _ _ => rfl⟩, fun h => absurd h (by decide)⟩
  · rw [if_neg hlt] at hh
    simp only [Prod.mk.injEq] at hh
    obtain ⟨rfl, rfl, rfl, rfl⟩ := hh
    have hqm : q + 4 ≤ b.length := by omega
    go_enter Tryz.func151, Tryz.ntmps151
    go_wp2_with fail
    go_loopw [15, 78] (fun _ s wr => ∃ i : Nat, i ≤ 4 ∧ s = .int .i64 i ∧ Pa.hp wr g = some (.cells #[.int .i64 no, .int .i64 5, .int .u64 ((low' ((b.drop q).take i) : Nat) : Int), .slice none 0 0] 140 (0, 0)) ∧ w.grownBy wr (some g)) (fun _ s _ => 4 - (intOf s).toNat)
    case atStart => exact ⟨0, by omega, rfl, by simpa [low'] using HG.out, ⟨rfl, rfl, rfl, Nat.le_refl _, fun _ _ _ => rfl⟩⟩
    case round =>
      obtain ⟨i, hi, rfl, hgi, hgr⟩ := hrel
      by_cases him : i < 4
      · have hrd := rd_keep HV.out hgr (fun k e => by cases e; exact HVG.out)
        obtain ⟨ad, rfl, hcell⟩ := hrd.at_ (q + i) (by omega)
        have hxl : b[q + i].toNat < 256 := UInt8.toNat_lt _
        have hsn : (b.drop q).take (i + 1) = (b.drop q).take i ++ [b[q + i]] := by
          rw [List.take_add_one, List.getElem?_drop, List.getElem?_eq_getElem (by omega)]; rfl
        have hln : ((b.drop q).take i).length = i := by simp; omega
        have hlo := low'_snoc ((b.drop q).take i) b[q + i]
        rw [← hsn, hln] at hlo
        have hacc := low'_lt ((b.drop q).take i)
        rw [hln] at hacc
        obtain ⟨X, hX⟩ : ∃ X, X = b[q + i].toNat := ⟨_, rfl⟩
        rw [← hX] at hlo hcell hxl
        obtain ⟨acc, hac⟩ : ∃ y, y = low' ((b.drop q).take i) := ⟨_, rfl⟩
        rw [← hac] at hlo hacc hgi
        have ho := or_shl8 acc X i (by omega) hacc hxl
        rw [← hlo] at ho
        obtain ⟨acc', hac'⟩ : ∃ y, y = low' ((b.drop q).take (i + 1)) := ⟨_, rfl⟩
        rw [← hac'] at ho
        have hci := fun j => hp_cell hgi j
        have hfi := fun j => hp_frozen hgi j
        have HO := Lib.hid ho; have HAC := Lib.hid hac'; have HGI := Lib.hid hgi; have HGR := Lib.hid hgr
        have hj : ((q : Int) + (i : Int)).toNat = q + i := by omega
        have hne : ¬ ad.block = g := fun e => HVG.out (by rw [← e]; rfl)
        have hne' : ¬ g = ad.block := fun e => hne e.symm
        clear ho hac' hlo hacc hrd hX hac hsn hln hgi hgr
        go_wp2_with fail
        go_region
        go_wp2_with fail
        go_roundw
        case rel =>
          refine ⟨i + 1, by omega, by simp, ?_, ?_⟩
          · refine (hp_drew _).trans ?_
            rw [HO.out, HAC.out]
            exact heap_setCell_same wr g 2 _ _ _ HGI.out
          · exact grown_trans HGR.out (grown_trans (grown_set _ _ _ _) (grown_drew _ _))
        case measure => simp [intOf]; omega
      · obtain rfl : i = 4 := by omega
        have HGI := Lib.hid hgi; have HGR := Lib.hid hgr
        clear hgi hgr
        go_wp2_with fail
        all_goals go_ret2
        all_goals exact ⟨by rfl, HGR.out, fun _ => ⟨_, HGI.out, Own.nil _ _ _⟩⟩
set_option maxHeartbeats 2000000 in
set_option maxRecDepth 100000 in
theorem value1 (v : Value) (b : List UInt8) (q g : Nat) (no : Int) (w : World) (hv : Rd w v b) (hq : q ≤ b.length) (hb : b.length ≤ 100000000) (hvg : v.ownBlock ≠ some g)
    (hg : Pa.hp w g = some (.cells #[.int .i64 no, .int .i64 1, .int .u64 0, .slice none 0 0] 140 (0, 0))) (e : Int) (num : Nat) (data : List UInt8) (k : Nat)
    (hh : Gp.val 1 (b.drop q) = (e, num, data, k)) :
    Calls Tryz.prog 151 #[v, .pointer (some ⟨g, 0, none⟩), .int .i64 (q : Int)] w (VSaid w g no 1 q e num data k) := by
  have hc0 := fun i => hp_cell hg i
  have hf0 := fun i => hp_frozen hg i
  have HG := Lib.hid hg; have HV := Lib.hid hv
  obtain ⟨A, c, rfl, -⟩ := id hv
  have HVG := Lib.hid hvg
  simp only [Gp.val, List.length_drop] at hh
  rw [if_neg (by decide), if_neg (by decide), if_neg (by decide)] at hh
  clear hv hg hvg
  by_cases hlt : b.length - q < 8
  · rw [if_pos hlt] at hh
    simp only [Prod.mk.injEq] at hh
    obtain ⟨rfl, rfl, rfl, rfl⟩ := hh
    go_enter Tryz.func151, Tryz.ntmps151
    go_wp2_with fail
    all_goals go_ret2
    all_goals exact ⟨rfl, ⟨rfl, rfl, rfl, Nat.le_refl _, fun _ _ _ => rfl⟩, fun h => absurd h (by decide)⟩
  · rw [if_neg hlt] at hh
    simp only [Prod.mk.injEq] at hh
    obtain ⟨rfl, rfl, rfl, rfl⟩ := hh
    have hqm : q + 8 ≤ b.length := by omega
    go_enter Tryz.func151, Tryz.ntmps151
    go_wp2_with fail
    go_loopw [15, 78] (fun _ s wr => ∃ i : Nat, i ≤ 8 ∧ s = .int .i64 i ∧ Pa.hp wr g = some (.cells #[.int .i64 no, .int .i64 1, .int .u64 ((low' ((b.drop q).take i) : Nat) : Int), .slice none 0 0] 140 (0, 0)) ∧ w.grownBy wr (some g)) (fun _ s _ => 8 - (intOf s).toNat)
    case atStart => exact ⟨0, by omega, rfl, by simpa [low'] using HG.out, ⟨rfl, rfl, rfl, Nat.le_refl _, fun _ _ _ => rfl⟩⟩
    case round =>
      obtain ⟨i, hi, rfl, hgi, hgr⟩ := hrel
      by_cases him : i < 8
      · have hrd := rd_keep HV.out hgr (fun k e => by cases e; exact HVG.out)
        obtain ⟨ad, rfl, hcell⟩ := hrd.at_ (q + i) (by omega)
        have hxl : b[q + i].toNat < 256 := UInt8.toNat_lt _
        have hsn : (b.drop q).take (i + 1) = (b.drop q).take i ++ [b[q + i]] := by
          rw [List.take_add_one, List.getElem?_drop, List.getElem?_eq_getElem (by omega)]; rfl
        have hln : ((b.drop q).take i).length = i := by simp; omega
        have hlo := low'_snoc ((b.drop q).take i) b[q + i]
        rw [← hsn, hln] at hlo
        have hacc := low'_lt ((b.drop q).take i)
        rw [hln] at hacc
        obtain ⟨X, hX⟩ : ∃ X, X = b[q + i].toNat := ⟨_, rfl⟩
        rw [← hX] at hlo hcell hxl
        obtain ⟨acc, hac⟩ : ∃ y, y = low' ((b.drop q).take i) := ⟨_, rfl⟩
        rw [← hac] at hlo hacc hgi
        have ho := or_shl8 acc X i (by omega) hacc hxl
        rw [← hlo] at ho
        obtain ⟨acc', hac'⟩ : ∃ y, y = low' ((b.drop q).take (i + 1)) := ⟨_, rfl⟩
        rw [← hac'] at ho
        have hci := fun j => hp_cell hgi j
        have hfi := fun j => hp_frozen hgi j
        have HO := Lib.hid ho; have HAC := Lib.hid hac'; have HGI := Lib.hid hgi; have HGR := Lib.hid hgr
        have hj : ((q : Int) + (i : Int)).toNat = q + i := by omega
        have hne : ¬ ad.block = g := fun e => HVG.out (by rw [← e]; rfl)
        have hne' : ¬ g = ad.block := fun e => hne e.symm
        clear ho hac' hlo hacc hrd hX hac hsn hln hgi hgr
        go_wp2_with fail
        go_region
        go_wp2_with fail
        go_roundw
        case rel =>
          refine ⟨i + 1, by omega, by simp, ?_, ?_⟩
          · refine (hp_drew _).trans ?_
            rw [HO.out, HAC.out]
            exact heap_setCell_same wr g 2 _ _ _ HGI.out
          · exact grown_trans HGR.out (grown_trans (grown_set _ _ _ _) (grown_drew _ _))
        case measure => simp [intOf]; omega
      · obtain rfl : i = 8 := by omega
        have HGI := Lib.hid hgi; have HGR := Lib.hid hgr
        clear hgi hgr
        go_wp2_with fail
        all_goals go_ret2
        all_goals exact ⟨by rfl, HGR.out, fun _ => ⟨_, HGI.out, Own.nil _ _ _⟩⟩
/-- A field's value read: any type that a field can have. -/
theorem value (ty : Nat) (ht : ty = 2 ∨ ty = 0 ∨ ty = 1 ∨ ty = 5) (v : Value) (b : List UInt8) (q g : Nat) (no : Int) (w : World) (hv : Rd w v b) (hq : q ≤ b.length) (hb : b.length ≤ 100000000) (hvg : v.ownBlock ≠ some g)
    (hg : Pa.hp w g = some (.cells #[.int .i64 no, .int .i64 (ty : Int), .int .u64 0, .slice none 0 0] 140 (0, 0))) (e : Int) (num : Nat) (data : List UInt8) (k : Nat)
    (hh : Gp.val ty (b.drop q) = (e, num, data, k)) :
    Calls Tryz.prog 151 #[v, .pointer (some ⟨g, 0, none⟩), .int .i64 (q : Int)] w (VSaid w g no ty q e num data k) := by
  rcases ht with rfl | rfl | rfl | rfl
  · exact value2 v b q g no w hv hq hb hvg hg e num data k hh
  · exact value0 v b q g no w hv hq hb hg e num data k hh
  · exact value1 v b q g no w hv hq hb hvg hg e num data k hh
  · exact value5 v b q g no w hv hq hb hvg hg e num data k hh
end Go.Proofs.YtinngljphjdpoaaGreatDoor.Gv
