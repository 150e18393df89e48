/- The program's read of a message. -/
import Derived.Test.YtinngljphjdpoaaGreatDoorJRk
import Derived.Test.YtinngljphjdpoaaGreatDoorJGt
import Derived.Test.YtinngljphjdpoaaGreatDoorJYl
namespace Go.Proofs.YtinngljphjdpoaaGreatDoor.Rd
open Go Go.RowKit Go.Proofs.YtinngljphjdpoaaGreatDoor.Pa Go.Proofs.YtinngljphjdpoaaGreatDoor.Pb Go.Proofs.YtinngljphjdpoaaGreatDoor.Pf Go.Proofs.YtinngljphjdpoaaGreatDoor.Nz Go.Proofs.YtinngljphjdpoaaGreatDoor.Nm Go.Proofs.YtinngljphjdpoaaGreatDoor.Sc Go.Proofs.YtinngljphjdpoaaGreatDoor.Hs Go.Proofs.YtinngljphjdpoaaGreatDoor.Va Go.Proofs.YtinngljphjdpoaaGreatDoor.Vu Go.Proofs.YtinngljphjdpoaaGreatDoor.Vg Go.Proofs.YtinngljphjdpoaaGreatDoor.Vh Go.Proofs.YtinngljphjdpoaaGreatDoor.Ca Go.Proofs.YtinngljphjdpoaaGreatDoor.Ce Go.Proofs.YtinngljphjdpoaaGreatDoor.Ea Go.Proofs.YtinngljphjdpoaaGreatDoor.Gp Go.Proofs.YtinngljphjdpoaaGreatDoor.Gw Go.Proofs.YtinngljphjdpoaaGreatDoor.Gq Go.Proofs.YtinngljphjdpoaaGreatDoor.Gi Go.Proofs.YtinngljphjdpoaaGreatDoor.Gd Go.Proofs.YtinngljphjdpoaaGreatDoor.Hq Go.Proofs.YtinngljphjdpoaaGreatDoor.Hx Go.Proofs.YtinngljphjdpoaaGreatDoor.Ow Go.Proofs.YtinngljphjdpoaaGreatDoor.Rv Go.Proofs.YtinngljphjdpoaaGreatDoor.Rw Go.Proofs.YtinngljphjdpoaaGreatDoor.Pq Go.Proofs.YtinngljphjdpoaaGreatDoor.Rg Go.Proofs.YtinngljphjdpoaaGreatDoor.Ox Go.Proofs.YtinngljphjdpoaaGreatDoor.Rk Go.Proofs.YtinngljphjdpoaaGreatDoor.Rl Go.Proofs.YtinngljphjdpoaaGreatDoor.Fs
set_option linter.unusedVariables false
set_option linter.unusedSimpArgs false
attribute [local go_sem] Oper.semAt_some
/-- A function's post where a panic may come ahead of a range over a function, or behind one. -/
def MPost (F : Fence) (n : Nat) (P : Program) (fn : Func) (R : Ending → World → Prop) : Exit → Act → World → Prop
  | .panic c, a, w => (a.defers = [] ∧ R (.panicked c) w) ∨ ∃ D, a.defers = [{ target := .collected D, args := #[] }] ∧ w.heap[D]? = some (.deferred (some [])) ∧ R (.panicked c) (w.putObj D (.deferred none))
  | e, a, w => bodyPostM F n P fn R e a w
theorem mpost_imp {F : Fence} {n : Nat} {P : Program} {fn : Func} {R : Ending → World → Prop} (e : Exit) (a : Act) (w : World) (h : MPost F n P fn R e a w) : bodyPostM F n P fn R e a w := by
  cases e with
  | panic c =>
    rcases h with ⟨hd, hR⟩ | ⟨D, hd, hw, hR⟩
    · show LeavesInM F n P fn a.tmps R a.defers (.panicking c) w
      rw [hd]; exact hR
    · show LeavesInM F n P fn a.tmps R a.defers (.panicking c) w
      rw [hd]
      exact ⟨by simp, .inl ⟨_, _, rfl, run_takeDeferred hw, hR⟩⟩
  | _ => exact h
/-- How far the slots' values have been read. -/
structure Rar (f : Slot → Ep.Fd → Int → Flt × Vu.Va) (l : List Slot) (fs : List Ep.Fd) (p0 : Int) (i : Nat) (p : Int) (vals : List Vu.Va) : Prop where
  le : i ≤ l.length
  lef : i ≤ fs.length
  len : vals.length = i
  at_ : p = p0 + (Ep.bytes (fs.take i)).length
  flt : (Rv.rGo f l fs p0).1 = (Rv.rGo f (l.drop i) (fs.drop i) p).1
  vs : (Rv.rGo f l fs p0).2 = vals ++ (Rv.rGo f (l.drop i) (fs.drop i) p).2
theorem bytes_snoc (l : List Ep.Fd) (f : Ep.Fd) : Ep.bytes (l ++ [f]) = Ep.bytes l ++ Ep.one f := by
  induction l with
  | nil => simp [Ep.bytes]
  | cons g r ih => simp only [List.cons_append, Ep.bytes, ih, List.append_assoc]
theorem bytes_take : ∀ (l : List Ep.Fd) (i : Nat), (Ep.bytes (l.take i)).length ≤ (Ep.bytes l).length
  | [], i => by simp [Ep.bytes]
  | x :: l, 0 => by simp [Ep.bytes]
  | x :: l, i + 1 => by
    have := bytes_take l i
    simp only [List.take_succ_cons, Ep.bytes, List.length_append] at *
    omega
theorem pl_get : ∀ (l : List Ep.Fd) (i p : Nat), i < l.length → (pl p l)[i]? = some ((p + (Ep.bytes (l.take i)).length : Nat) : Int)
  | [], i, p, h => by simp at h
  | f :: t, 0, p, h => by simp [pl, Ep.bytes]
  | f :: t, i + 1, p, h => by
    simp only [pl, List.getElem?_cons_succ]
    rw [pl_get t i _ (by simpa using h)]
    simp [Ep.bytes]
    omega
section
variable {f : Slot → Ep.Fd → Int → Flt × Vu.Va} {l : List Slot} {fs : List Ep.Fd} {p0 p : Int} {i : Nat} {vals : List Vu.Va}
theorem Rar.zero (f : Slot → Ep.Fd → Int → Flt × Vu.Va) (l : List Slot) (fs : List Ep.Fd) (p0 : Int) : Rar f l fs p0 0 p0 [] := ⟨by omega, by omega, rfl, by simp [Ep.bytes], rfl, rfl⟩
theorem Rar.done (h : Rar f l fs p0 l.length p vals) (hl : fs.length = l.length) : (Rv.rGo f l fs p0).1 = (0, 0, 0) ∧ (Rv.rGo f l fs p0).2 = vals := by
  have h1 := h.flt; have h2 := h.vs
  rw [List.drop_length, ← hl, List.drop_length] at h1 h2
  exact ⟨h1, by rw [h2]; simp [Rv.rGo]⟩
theorem Rar.more (h : Rar f l fs p0 l.length p vals) (hl : l.length < fs.length) : (Rv.rGo f l fs p0).1 = (0, p, 81) := by
  have h1 := h.flt
  rw [List.drop_length, List.drop_eq_getElem_cons hl] at h1
  exact h1
theorem Rar.none_ (h : Rar f l fs p0 fs.length p vals) (hl : fs.length < l.length) : (Rv.rGo f l fs p0).1 = (0, p, 81) := by
  have h1 := h.flt
  rw [List.drop_length, List.drop_eq_getElem_cons hl] at h1
  exact h1
theorem Rar.no (h : Rar f l fs p0 i p vals) (h1 : i < l.length) (h2 : i < fs.length) (hn : fs[i].no ≠ l[i].no) : (Rv.rGo f l fs p0).1 = (0, p, 81) := by
  have h3 := h.flt
  rw [List.drop_eq_getElem_cons h1, List.drop_eq_getElem_cons h2] at h3
  simp only [Rv.rGo] at h3
  rw [if_pos hn] at h3
  exact h3
theorem Rar.ty (h : Rar f l fs p0 i p vals) (h1 : i < l.length) (h2 : i < fs.length) (hn : fs[i].no = l[i].no) (ht : fs[i].ty ≠ (wt l[i].kind : Int)) : (Rv.rGo f l fs p0).1 = (0, p, 82) := by
  have h3 := h.flt
  rw [List.drop_eq_getElem_cons h1, List.drop_eq_getElem_cons h2] at h3
  simp only [Rv.rGo] at h3
  rw [if_neg (by simp [hn]), if_pos ht] at h3
  exact h3
theorem wlen {b : List UInt8} (h : wErr b = 0) : b.length ≤ 4194304 := by
  unfold wErr at h
  split at h
  · exact absurd h (by decide)
  · omega
theorem Rar.bad (h : Rar f l fs p0 i p vals) (h1 : i < l.length) (h2 : i < fs.length) (hn : fs[i].no = l[i].no) (ht : fs[i].ty = (wt l[i].kind : Int)) (hb : (f l[i] fs[i] p).1.2.2 ≠ 0) : (Rv.rGo f l fs p0).1 = (f l[i] fs[i] p).1 := by
  have h3 := h.flt
  rw [List.drop_eq_getElem_cons h1, List.drop_eq_getElem_cons h2] at h3
  simp only [Rv.rGo] at h3
  rw [if_neg (by simp [hn]), if_neg (by simp [ht]), if_pos hb] at h3
  exact h3
theorem Rar.step (h : Rar f l fs p0 i p vals) (h1 : i < l.length) (h2 : i < fs.length) (hn : fs[i].no = l[i].no) (ht : fs[i].ty = (wt l[i].kind : Int)) (hb : (f l[i] fs[i] p).1.2.2 = 0) :
    Rar f l fs p0 (i + 1) (p + (Ep.one fs[i]).length) (vals ++ [(f l[i] fs[i] p).2]) := by
  have h3 := h.flt; have h4 := h.vs; have h5 := h.at_; have h6 := h.len
  rw [List.drop_eq_getElem_cons h1, List.drop_eq_getElem_cons h2] at h3 h4
  simp only [Rv.rGo] at h3 h4
  rw [if_neg (by simp [hn]), if_neg (by simp [ht]), if_neg (by simp [hb])] at h3 h4
  refine ⟨by omega, by omega, by simp [h6], ?_, h3, by rw [h4]; simp⟩
  rw [List.take_succ_eq_append_getElem h2, bytes_snoc, h5]
  simp only [List.length_append]
  push_cast
  omega
end
/-! ### The places, in a row of ints -/
def plc (ps : List Int) (n : Nat) : Array Value := (ps.map (Value.int .i64 ·) ++ List.replicate (n - ps.length) (Value.int .i64 0)).toArray
theorem int_info : (Tryz.prog.info? 3).map (fun i => (i.zero, i.size, i.bytes)) = some (some (.int .i64 0), 1, 8) := by kernel_rfl
theorem mk_ints (n : Nat) (hn : n ≤ 64) (W : World) : (Instr.makeSlice 175 (.int .i64 0) (.int .i64 (n : Int))).run Tryz.prog W = .ok (.slice (some ⟨W.heap.size, 0, none⟩) 0 n) (W.alloc (.cells (plc [] n) 3)) := by
  obtain ⟨i, hi, hzz⟩ := Option.map_eq_some_iff.1 int_info
  simp only [Prod.mk.injEq] at hzz
  obtain ⟨hz0, hz1, hz2⟩ := hzz
  have hr := run_make (P := Tryz.prog) W 175 3 i _ Tryz.underlying175 hi hz0 .i64 .i64 0 n (by omega) (by omega) (by rw [hz2]; omega) (by omega)
  simp only [Int.toNat_natCast, hz1] at hr
  have e : (madeCells (Value.int .i64 0).cells (n * 1)) = plc [] n := by
    apply Array.ext'
    simp [madeCells, plc, Value.cells]
    apply List.ext_getElem
    · simp
    · intro i h1 h2
      have : i % 1 = 0 := by omega
      simp [this]
  rw [e] at hr
  exact hr
set_option maxRecDepth 100000 in
theorem push_int (w : World) (g n : Nat) (ps : List Int) (p : Int) (hg : Pa.hp w g = some (.cells (plc ps n) 3 (0, 0))) (hr : ps.length < n) :
    ∃ w8, (appX #[175, 175] 175 #[.slice (some ⟨g, 0, none⟩) ps.length n, .slice (some ⟨w.heap.size, 0, none⟩) 1 1]).run Tryz.prog (w.alloc (.cells #[.int .i64 p] 3)) = .ok (.slice (some ⟨g, 0, none⟩) (ps.length + 1) n) w8 ∧
      Pa.hp w8 g = some (.cells (plc (ps ++ [p]) n) 3 (0, 0)) ∧ w.grownBy w8 (some g) := by
  obtain ⟨i, hi, hzz⟩ := Option.map_eq_some_iff.1 int_info
  simp only [Prod.mk.injEq] at hzz
  obtain ⟨hz0, hz1, hz2⟩ := hzz
  have hlt : g < w.heap.size := (Array.getElem?_eq_some_iff.1 hg).1
  have hg1 : Pa.hp (w.alloc (.cells #[.int .i64 p] 3)) g = some (.cells (plc ps n) 3 (0, 0)) := (hp_alloc_past _ _ hlt).trans hg
  have h := run_append_room (P := Tryz.prog) (w.alloc (.cells #[.int .i64 p] 3)) 175 175 3 i Tryz.underlying175 hi g ps.length n (plc ps n) hg1 ⟨w.heap.size, 0, none⟩ 1 1 [.int .i64 p] (by rw [hz1]; rfl)
    (fun j u hu => by
      have hj : j = 0 := by
        rcases j with _ | j
        · rfl
        · simp at hu
      subst hj
      have : u = .int .i64 p := by simpa using hu.symm
      subst this
      simp [Addr.add]) (by intro u hu; simp at hu; rw [hu]; rfl) (by omega) (by rw [hz1]; simp [plc]; omega)
  rw [hz1] at h
  refine ⟨_, h, ?_, ⟨rfl, rfl, rfl, by simp [World.setRow], fun k hk hne => (setRow_other _ _ _ _ (fun e => hne (by rw [e]))).trans (Below.heap_alloc _ _ _ hk)⟩⟩
  rw [show Pa.hp _ g = _ from hp_setRow_same _ _ _ _ _ hg1]
  congr 2
  apply Array.ext'
  simp [plc]
  obtain ⟨m, hm⟩ : ∃ m, n - ps.length = m + 1 := ⟨n - ps.length - 1, by omega⟩
  rw [hm, show n - (ps.length + 1) = m by omega, List.replicate_succ]
  simp [List.drop_append]
theorem OwP.put {w : World} (r : Nat) (o o' : Obj) (hr : w.heap[r]? = some o) (ho : o.isCells = false) : ∀ (n D lo hi : Nat) (pv : Value) (l : List Vu.Va), OwP w n D lo hi pv l → OwP (w.putObj r o') n D lo hi pv l
  | 0, _, _, _, _, _, h => h.elim
  | n + 1, D, lo, hi, pv, l, h => by
    obtain ⟨A, c, xs, a, b, h1, h2, h3, h7⟩ := h
    refine ⟨A, c, xs, a, b, h1, ownsRow_putObj h2 o' hr ho, h3, fun i x hx => ?_⟩
    obtain ⟨gm, g0, dv, pv', g1, g2, g3, g4, g5, g6⟩ := h7 i x hx
    exact ⟨gm, g0, dv, pv', g1, g2, g3, ownsRow_putObj g4 o' hr ho, OwP.put r o o' hr ho n _ _ _ _ _ g5, g6⟩
theorem inPl_le (g : Ep.Fd) (p : Int) (hty : g.ty = 0 ∨ g.ty = 1 ∨ g.ty = 5 ∨ g.ty = 2) (hdat : g.ty ≠ 2 → g.data = []) : p ≤ inPl g p ∧ inPl g p + g.data.length ≤ p + (Ep.one g).length := by
  unfold inPl Ep.one
  simp only [List.length_append]
  rw [show (num (8 * g.no.toNat + g.ty.toNat)).length = sz (8 * g.no.toNat + g.ty.toNat) from rfl]
  refine ⟨by omega, ?_⟩
  by_cases h2 : g.ty = 2
  · rw [if_neg (by omega), if_neg (by omega), if_neg (by omega), List.length_append]
    rw [show (num g.data.length).length = sz g.data.length from rfl]
    push_cast
    omega
  · rw [hdat h2]
    have h1 : sz ([] : List UInt8).length = 1 := sz_end (by simp)
    rw [h1]
    have hn : 1 ≤ (num g.num).length := sz_pos g.num
    rcases hty with h | h | h | h
    · rw [if_pos h]; simp only [List.length_nil]; push_cast; omega
    · rw [if_neg (by omega), if_pos h, Ep.low_length]; simp only [List.length_nil]; push_cast; omega
    · rw [if_neg (by omega), if_neg (by omega), if_pos h, Ep.low_length]; simp only [List.length_nil]; push_cast; omega
    · exact absurd h h2
theorem rdy_fn {C : Nat → List Slot → Prop} {w : World} {S : Pl} {t : Slot} {chk wr rd : Value} (h : Rdy C w S t chk wr rd) : (∃ f a c, chk = .func (.func f) a c) ∧ (∃ f a c, wr = .func (.func f) a c) ∧ (∃ f a c, rd = .func (.func f) a c) := by
  unfold Rdy at h
  split at h
  · obtain ⟨c, b5, b9, -, -, -, -, -, h0, h1, h2⟩ := h
    exact ⟨⟨_, _, _, h0⟩, ⟨_, _, _, h1⟩, ⟨_, _, _, h2⟩⟩
  · obtain ⟨sh, b4, b1, sv, -, -, -, -, -, h0, h⟩ := h
    refine ⟨⟨_, _, _, h0⟩, ?_⟩
    split at h
    · obtain ⟨c, -, h1, h2⟩ := h
      exact ⟨⟨_, _, _, h1⟩, ⟨_, _, _, h2⟩⟩
    · split at h
      · exact ⟨⟨_, _, _, h.1⟩, ⟨_, _, _, h.2⟩⟩
      · exact ⟨⟨_, _, _, h.1⟩, ⟨_, _, _, h.2⟩⟩
/-- Between two rounds: the places so far. -/
def IR (w2 : World) (sz3 N : Nat) (base : Int) (xs : List Px) (X : World) : Prop :=
  Below w2.heap.size w2 X ∧ sz3 ≤ X.heap.size ∧ Pa.hp X w2.heap.size = some (.cells (plc (xs.map fun x => base + x.1) N) 3 (0, 0)) ∧ Pa.hp X (w2.heap.size + 1) = some (.cells #[.slice (some ⟨w2.heap.size, 0, none⟩) xs.length N] 175 (0, 0))
theorem IR.below {w2 : World} {sz3 N : Nat} {base : Int} {xs : List Px} {A B : World} (h : IR w2 sz3 N base xs A) (hb : Below A.heap.size A B) : IR w2 sz3 N base xs B :=
  ⟨h.1.trans (hb.mono h.1.size), Nat.le_trans h.2.1 hb.size, below_hp h.2.2.1 hb, below_hp h.2.2.2 hb⟩
theorem IR.put {w2 : World} {sz3 N : Nat} {base : Int} {xs : List Px} {A : World} (h : IR w2 sz3 N base xs A) (hz : w2.heap.size + 2 ≤ sz3) (r : Nat) (o' : Obj) (hr : sz3 ≤ r) : IR w2 sz3 N base xs (A.putObj r o') := by
  obtain ⟨h1, h2, h3, h4⟩ := h
  exact ⟨h1.grown (grownBy_putObj' A r o') h1.size (fun k e => by cases e; omega), Nat.le_trans h2 (grownBy_putObj' A r o').size, (World.putObj_heap_other (by omega)).trans h3, (World.putObj_heap_other (by omega)).trans h4⟩
variable {P : Program} {α : Type} in
/-- The same law, the round's first state told by what the assignment turns. -/
theorem rangeLaw2 {g : Operand} {ps : Array Tmp} {assign body : Code} {Q : Exit → Act → World → Prop} {a : Act} {w : World} {m gf : Nat} {lb : Array Value}
    (hg : a.eval g = .func (.func gf) #[] lb) (eg : ∀ args w, (callFunc gf args).run P w = .ok (.enter gf args) w)
    {encs : α → Array Value} (hps : ∀ x, (encs x).size = ps.size) {Ab Kp : World → World → Prop} {Ok : List α → α → World → Prop} {Fin : List α → World → Prop}
    (hAb : ∀ A B (r : Nat) (o : Obj), Ab A B → A.heap[r]? = some o → o.isCells = false → B.heap[r]? = some o)
    (hseq : Gives P m gf lb encs Ab Kp Ok Fin w)
    (hKt : ∀ A B C, Kp A B → Kp B C → Kp A C) (hKput : ∀ (A : World) (r : Nat) (o o' : Obj), A.heap[r]? = some o → o.isCells = false → Kp A (A.putObj r o'))
    (I : List α → World → Prop) (hIab : ∀ s A B, I s A → Ab A B → I s B) (hIput : ∀ s (A : World) (r : Nat) (o o' : Obj), w.heap.size ≤ r → I s A → A.heap[r]? = some o → o.isCells = false → I s (A.putObj r o'))
    (h0 : ∀ o o' : Obj, I [] ((w.alloc o).alloc o')) (upd : α → Act → Act)
    (hassign : ∀ (l : Nat) (x : α) (A : World) (K : Act → World → Prop) (a1 : Act), upd x { tmps := (ps.zip (encs x)).foldl (fun t (p, v) => t.setIfInBounds p v) a.tmps, defers := [] } = a1 → K a1 A → assign.wpIn (Fence.wide.inRound l) m P (Exit.then K (fun _ _ _ => False)) { tmps := (ps.zip (encs x)).foldl (fun t (p, v) => t.setIfInBounds p v) a.tmps, defers := [] } A)
    (hbody : ∀ (l : Nat) (pre : List α) (x : α) (A : World) (a1 : Act), upd x { tmps := (ps.zip (encs x)).foldl (fun t (p, v) => t.setIfInBounds p v) a.tmps, defers := [] } = a1 → I pre A → Ok pre x A → body.wpIn (Fence.wide.inRound l) m P (roundEnd Kp I (pre ++ [x]) A) a1 A)
    (hOput : ∀ pre x (A : World) (r : Nat) (o o' : Obj), Ok pre x A → A.heap[r]? = some o → o.isCells = false → Ok pre x (A.putObj r o'))
    (hFput : ∀ xs (A : World) (r : Nat) (o o' : Obj), Fin xs A → A.heap[r]? = some o → o.isCells = false → Fin xs (A.putObj r o'))
    (hdone : ∀ (D : Nat) (xs : List α) (B : World), w.heap.size ≤ D → Fin xs B → I xs B → B.heap[D]? = some (.deferred (some [])) → Q .normal { a with defers := { target := .collected D, args := #[] } :: a.defers } B) :
    (Code.rangeFunc g ps assign body).wp P Q a w :=
  rangeLaw hg eg hps hAb hseq hKt hKput I hIab hIput h0 (fun x => upd x { tmps := (ps.zip (encs x)).foldl (fun t (p, v) => t.setIfInBounds p v) a.tmps, defers := [] }) (fun l x A K hK => hassign l x A K _ rfl hK) (fun l pre x A h1 h2 => hbody l pre x A _ rfl h1 h2) hOput hFput hdone
theorem fields (v : Value) (w : World) (hv : ∃ A n c, v = .slice A n c) : Calls Tryz.prog 99 #[v] w fun e w' => e = .returned (.func (.func 132) #[] #[.pointer (some ⟨w.heap.size, 0, none⟩)]) ∧ w' = w.alloc (.cells #[v] 23) := by
  obtain ⟨A, n, c, rfl⟩ := hv
  go_enter Tryz.func99, Tryz.ntmps99
  go_wp2_with fail
  go_ret
  exact ⟨rfl, rfl⟩
set_option maxHeartbeats 4000000 in
set_option maxRecDepth 100000 in
theorem read (U : List UInt8 → Bool) (HUT : UtfSaid U) (n : Nat) (IH : ReadSaid U n) : ReadSaid U (n + 1) := by
  intro S g j l v b base w hc hv hok hT hb0 hb1
  refine callsIn_wide.1 (callsIn_of_wp_marks (n := 3) Tryz.func75 rfl trivial ?_ rfl)
  refine wpIn_wide.2 ?_
  refine Code.wp_mono mpost_imp ?_
  obtain ⟨A, c, rfl, -⟩ := id hv
  obtain ⟨-, Ac, cc, hg, hcs⟩ := id hc
  obtain ⟨j, rfl⟩ : ∃ q, j = q + 1 := by cases j with
    | zero => exact hok.elim
    | succ j => exact ⟨j, rfl⟩
  obtain ⟨h16, hall⟩ := hok
  have HCS := Lib.hid hcs; have HALL := Lib.hid hall
  clear hcs hall
  obtain ⟨w1, hw1⟩ : ∃ y, y = (w.alloc (.cells #[.int .i64 base] 3)).alloc (.cells #[.int .u64 0, .slice none 0 0, .slice none 0 0] 32) := ⟨_, rfl⟩
  have hB1 : Below w.heap.size w w1 := by rw [hw1]; exact Vh.b2 w _ _
  have hbx1 : Pa.hp w1 w.heap.size = some (.cells #[.int .i64 base] 3 (0, 0)) := by rw [hw1]; exact below_hp (hp_alloc_at _ _ rfl) (vb _ _)
  have hr1 : Pa.hp w1 (w.heap.size + 1) = some (.cells #[.int .u64 0, .slice none 0 0, .slice none 0 0] 32 (0, 0)) := by rw [hw1]; exact hp_alloc_at _ _ (by simp)
  have hs1 : w1.heap.size = w.heap.size + 2 := by rw [hw1]; simp
  have DEC := Lib.hid (Gd.decode (.slice A b.length c) b w1 (hv.below hB1) (by omega))
  have HB1 := Lib.hid hB1; have HBX1 := Lib.hid hbx1; have HR1 := Lib.hid hr1; have HS1 := Lib.hid hs1; have HC := Lib.hid hc; have HV := Lib.hid hv; have HG := Lib.hid hg; have HT := Lib.hid hT; have HIH := Lib.hid IH
  clear hB1 hbx1 hr1 hs1 hc hv hg hT IH
  simp only [Tryz.ntmps75, List.size_toArray, List.length_cons, List.length_nil, Nat.reduceAdd, Nat.reduceSub, Array.replicate_succ, Array.replicate_zero, List.push_toArray, List.append_toArray, List.nil_append, List.cons_append]
  go_upto_region 1 with fail
  rw [← hw1]
  clear hw1
  go_wp2_with (go_at_call 9999)
  go_at_call 98
  refine DEC.out.mono ?_
  rintro _ w2 ⟨v2, rfl, b2, hok2⟩
  have HB2 := Lib.hid (HB1.out.trans (b2.mono HB1.out.size))
  have hbx2 := below_hp HBX1.out b2
  have hcb2 := fun i => hp_cell hbx2 i
  by_cases he : wErr b = 0
  · rw [he]
    obtain ⟨A3, c3, xs, rfl, hu⟩ := hok2 he
    have hfl : (D b 0 0).fs.length ≤ 64 := by
      have hbl : ¬ 4194304 < b.length := by
        intro h; unfold wErr at he; rw [if_pos h] at he; exact absurd he (by decide)
      have hde : (D b 0 0).err = 0 := by unfold wErr at he; rwa [if_neg hbl] at he
      have := (Ya.D_good _ b 0 0 rfl (by omega) (by omega) hde).2
      omega
    obtain ⟨fs, hfs⟩ : ∃ y, y = (D b 0 0).fs := ⟨_, rfl⟩
    rw [← hfs] at hu hfl ⊢
    have HFS := Lib.hid hfs; have HU := Lib.hid hu; have HFL := Lib.hid hfl; have HE := Lib.hid he
    have hmk := mk_ints fs.length HFL.out w2
    clear hok2 hfs hu he
    go_wp2_with (go_at_call 9999)
    go_at_call 99
    refine (fields _ _ ⟨_, _, _, rfl⟩).mono ?_
    rintro _ w3 ⟨rfl, rfl⟩
    clear hmk
    go_wp2_with fail
    obtain ⟨w3, hw3⟩ : ∃ y, y = ((w2.alloc (.cells (plc [] fs.length) 3)).alloc (.cells #[.slice (some ⟨w2.heap.size, 0, none⟩) 0 fs.length] 175)).alloc (.cells #[.slice A b.length c] 23) := ⟨_, rfl⟩
    have hB3 : Below w2.heap.size w2 w3 := by rw [hw3]; exact Vh.b3 w2 _ _ _
    have hs3 : w3.heap.size = w2.heap.size + 3 := by rw [hw3]; simp
    have hp3 : Pa.hp w3 w2.heap.size = some (.cells (plc [] fs.length) 3 (0, 0)) := by rw [hw3]; exact below_hp (below_hp (hp_alloc_at _ _ rfl) (vb _ _)) (vb _ _)
    have ht3 : Pa.hp w3 (w2.heap.size + 1) = some (.cells #[.slice (some ⟨w2.heap.size, 0, none⟩) 0 fs.length] 175 (0, 0)) := by rw [hw3]; exact below_hp (hp_alloc_at _ _ (by simp)) (vb _ _)
    have hf3 : Pa.hp w3 (w2.heap.size + 1 + 1) = some (.cells #[.slice A b.length c] 23 (0, 0)) := by rw [hw3]; exact hp_alloc_at _ _ (by simp)
    rw [← hw3]
    clear hw3
    have HB3 := Lib.hid hB3; have HS3 := Lib.hid hs3; have HP3 := Lib.hid hp3; have HT3 := Lib.hid ht3; have HF3 := Lib.hid hf3
    clear hB3 hs3 hp3 ht3 hf3 hcb2 hbx2
    refine rangeLaw2 (m := 1) (gf := 132) rfl (enters_of Tryz.func132 (by kernel_rfl) rfl) (encs := encP) (fun _ => rfl)
      (Ab := fun A B => Below A.heap.size A B) (Kp := Fs.Kp w3.heap.size) (Ok := fun pre x _ => pre.length < (D b 0 0).fs.length ∧ 0 ≤ x.1 ∧ x.1 ≤ 5000000) (Fin := fun xs _ => xs.map (·.1) = pl 0 (D b 0 0).fs)
      (fun A B r o h hr ho => (h.block r (Array.getElem?_eq_some_iff.1 hr).1).trans hr) ?gives (fun _ _ _ h k => h.trans k) (fun X r o o' h ho => Fs.Kp.put X r o o' h ho) (IR w2 w3.heap.size fs.length base) (fun _ _ _ h hab => h.below hab) (fun _ _ r o o' hr h ho hc => h.put (by rw [HS3.out]; omega) r o' hr) ?start
      (fun x a => a.put (some 11) (.int .i64 x.1)) ?assign ?body (fun _ _ _ _ _ _ h _ _ => h) (fun _ _ _ _ _ h _ _ => h) ?done
    case gives =>
      exact Fs.gives 1 (.slice A b.length c) b _ w3 HF3.out ((HV.out.below (HB2.out)).below HB3.out) (by have := wlen HE.out; omega) HE.out
    case start =>
      intro o o'
      have hb : Below w3.heap.size w3 ((w3.alloc o).alloc o') := (vb _ _).trans ((vb _ _).mono (by simp))
      have h0 : IR w2 w3.heap.size fs.length base [] w3 := ⟨HB3.out, Nat.le_refl _, HP3.out, HT3.out⟩
      exact h0.below hb
    case assign =>
      intro lo x X K a1 ha hK
      simp [encP, Act.put, go_sem] at ha
      subst ha
      simp only [encP]
      gi_wp2
      exact hK
    case body =>
        rintro lo pre x X a1 ha ⟨i1, i2, i3, i4⟩ ⟨hlen, hx0, hx1⟩
        simp [encP, Act.put, go_sem] at ha
        subst ha
        rw [← HFS.out] at hlen
        have hbxX : Pa.hp X w.heap.size = some (.cells #[.int .i64 base] 3 (0, 0)) := below_hp (below_hp HBX1.out b2) i1
        obtain ⟨w8, hap, hp8, hg8⟩ := push_int X w2.heap.size fs.length (pre.map fun y => base + y.1) (base + x.1) i3 (by simpa using hlen)
        rw [List.length_map] at hap
        have hcX := fun i => hp_cell hbxX i
        have hcT := fun i => hp_cell i4 i
        have hlw : w2.heap.size + 1 < X.heap.size := (Array.getElem?_eq_some_iff.1 i4).1
        have ht8 : Pa.hp w8 (w2.heap.size + 1) = some (.cells #[.slice (some ⟨w2.heap.size, 0, none⟩) pre.length fs.length] 175 (0, 0)) := (hg8.block _ hlw (fun e => by simp only [Option.some.injEq] at e; omega)).trans i4
        have hct8 := fun i => hp_cell ht8 i
        have hft8 := fun i => hp_frozen ht8 i
        have e1 : IntKind.i64.wrap (base + x.1) = base + x.1 := by rw [IntKind.wrap_i64]; omega
        gi_wp2
        have hkeep : ∀ (k : Nat) (o : Obj), X.heap[k]? = some o → k ≠ w2.heap.size → k ≠ w2.heap.size + 1 → (w8.setCell ⟨w2.heap.size + 1, 0, none⟩ (.slice (some ⟨w2.heap.size, 0, none⟩) (pre.length + 1) fs.length)).heap[k]? = some o := by
          intro k o hk hne hnb
          have hlt := (Array.getElem?_eq_some_iff.1 hk).1
          exact (heap_setCell_other w8 ⟨w2.heap.size + 1, 0, none⟩ k _ hnb).trans ((hg8.block k hlt (fun e => hne (by simp only [Option.some.injEq] at e; exact e))).trans hk)
        have hszf : (w8.setCell ⟨w2.heap.size + 1, 0, none⟩ (.slice (some ⟨w2.heap.size, 0, none⟩) (pre.length + 1) fs.length)).heap.size = w8.heap.size := by simp [World.setCell]
        have hs8 := hg8.size
        have hs33 := HS3.out
        refine ⟨⟨by rw [hszf]; omega, fun k o hk ho => hkeep k o hk (fun e => ?_) (fun e => ?_)⟩, ⟨by rw [hszf]; omega, fun r cc tt fr hr hk => hkeep r _ hk (by omega) (by omega)⟩, ⟨?_, by rw [hszf]; omega, ?_, ?_⟩⟩
        · subst e
          rw [show X.heap[w2.heap.size]? = _ from i3] at hk
          cases hk
          cases ho
        · subst e
          rw [show X.heap[w2.heap.size + 1]? = _ from i4] at hk
          cases hk
          cases ho
        · exact (i1.grown hg8 (by omega) (fun k e => by simp only [Option.some.injEq] at e; omega)).setCell (p := ⟨w2.heap.size + 1, 0, none⟩) (by show w2.heap.size ≤ w2.heap.size + 1; omega) _
        · rw [List.map_append, List.map_singleton]
          exact (heap_setCell_other w8 ⟨w2.heap.size + 1, 0, none⟩ w2.heap.size _ (by show w2.heap.size ≠ w2.heap.size + 1; omega)).trans hp8
        · rw [List.length_append, List.length_singleton]
          exact heap_setCell_same w8 (w2.heap.size + 1) 0 _ _ _ ht8
    case done =>
      rintro D ps X hD hfin ⟨i1, i2, i3, i4⟩ hdef
      have hlx : ps.length = fs.length := by have := congrArg List.length hfin; rw [← HFS.out] at this; simpa [pl_length] using this
      have hcp : ∀ i, i < fs.length → X.cell? ⟨w2.heap.size, i, none⟩ = some (.int .i64 (base + (Ep.bytes (fs.take i)).length)) := fun i hi => by
        rw [hp_cell i3]
        have h1 := pl_get fs i 0 hi
        rw [HFS.out, ← hfin, ← HFS.out, List.getElem?_map] at h1
        unfold plc
        simp only [List.getElem?_toArray, List.map_map]
        rw [List.getElem?_append_left (by simp; omega)]
        simp only [List.getElem?_map, Function.comp]
        cases hq : ps[i]? with
        | none => rw [hq] at h1; simp at h1
        | some y => rw [hq] at h1; simp at h1 ⊢; omega
      rw [hlx] at i4
      obtain ⟨w4, hw4⟩ : ∃ y, y = X.alloc (.cells #[.int .u64 0, .slice none 0 0, .slice none 0 0] 32) := ⟨_, rfl⟩
      have hb4 : Below X.heap.size X w4 := by rw [hw4]; exact vb _ _
      have hv4 : Pa.hp w4 X.heap.size = some (.cells #[.int .u64 0, .slice none 0 0, .slice none 0 0] 32 (0, 0)) := by rw [hw4]; exact hp_alloc_at _ _ rfl
      have hBX : Below w.heap.size w X := HB2.out.trans (i1.mono HB2.out.size)
      have hgX := below_hp HG.out hBX
      have hgc := fun i => hp_cell (below_hp hgX hb4) i
      have hgXX := hgX
      have HCP := Lib.hid hcp; have HB4 := Lib.hid hb4; have HV4 := Lib.hid hv4; have HBX := Lib.hid hBX; have HDEF := Lib.hid hdef; have HI1 := Lib.hid i1; have HI2 := Lib.hid i2; have HI4 := Lib.hid i4; have HD := Lib.hid hD
      clear hcp hb4 hv4 hBX hdef i1 i2 i3 i4 hfin hlx hgX hD
      go_upto_region 9 with fail
      rw [← hw4]
      clear hw4
      have HGX := Lib.hid hgXX
      clear hgXX
      go_wp2_with fail
      clear hgc
      have hrd : rdv U (n + 1) l b base = ((Rv.rGo (rSlot U (rdv U n)) l fs base).1, .mk 0 [] (Rv.rGo (rSlot U (rdv U n)) l fs base).2) := by
        rw [rdv_succ, if_neg (by rw [HE.out]; simp), ← HFS.out]
      have HRD := Lib.hid hrd
      clear hrd
      go_loopw [46] (fun s wr => ∃ (i : Nat) (p : Int) (vals : List Vu.Va) (Ai : Option Addr) (ci : Nat), s = .int .i64 i ∧ Rar (rSlot U (rdv U n)) l fs base i p vals ∧ Below X.heap.size X wr ∧
          Pa.hp wr X.heap.size = some (.cells #[.int .u64 0, .slice none 0 0, .slice Ai vals.length ci] 32 (0, 0)) ∧ OwP wr (2 * n + 3) w.heap.size (X.heap.size + 1) wr.heap.size (.slice Ai vals.length ci) vals) (fun s _ => l.length - (intOf s).toNat)
      case atStart => exact ⟨0, base, [], none, 0, rfl, Rar.zero _ _ _ _, HB4.out, HV4.out, OwP.nil _ (2 * n + 2) _ _ _ (Array.getElem?_eq_some_iff.1 HV4.out).1⟩
      case round =>
        obtain ⟨i, p, vals, Ai, ci, rfl, hra, hbr, hvx, hov⟩ := hrel
        have hcv := fun i => hp_cell hvx i
        have hgr := below_hp HGX.out hbr
        have hcg := fun i => hp_cell hgr i
        have hile := hra.le
        have hlef := hra.lef
        have hbWr : Below w.heap.size w wr := HBX.out.trans (hbr.mono HBX.out.size)
        have hdr : wr.heap[D]? = some (.deferred (some [])) := (hbr.block D (Array.getElem?_eq_some_iff.1 HDEF.out).1).trans HDEF.out
        have HRA := Lib.hid hra; have HBR := Lib.hid hbr; have HVX := Lib.hid hvx; have HOV := Lib.hid hov; have HBW := Lib.hid hbWr; have HDR := Lib.hid hdr
        clear hra hbr hvx hov hbWr hdr hgr
        by_cases hil : i = l.length
        · subst hil
          by_cases hmore : l.length < fs.length
          · have hmz : (l.length : Int) < (fs.length : Int) := by omega
            have hgv := HRA.out.more hmore
            have hpc : wr.cell? ⟨w2.heap.size, l.length, none⟩ = some (.int .i64 p) := by
              rw [HRA.out.at_]
              exact Pb.cell_kept HBR.out (World.block_lt_of_cell? X _ (HCP.out l.length hmore)) (HCP.out l.length hmore)
            have htr := below_hp HI4.out HBR.out
            have hct := fun i => hp_cell htr i
            have GV := Lib.hid (fun w => Vg.give 0 p 81 w)
            have HGV := Lib.hid hgv
            have HPC := Lib.hid hpc; have HTR := Lib.hid htr
            clear hgv
            go_upto_region 21 with fail
            refine wp_region_calm_tail (S := fun W => Below wr.heap.size wr W) 8 (by kernel_rfl) (by kernel_rfl) (Below.refl _ _).drew ?_
            intro hN
            have y0 : ∀ u : Held (fun W => Below wr.heap.size wr W), u.w.cell? ⟨w2.heap.size + 1, 0, none⟩ = some (.slice (some ⟨w2.heap.size, 0, none⟩) fs.length fs.length) := fun u => hp_cell (below_hp HTR.out u.h) 0
            have y1 : ∀ u : Held (fun W => Below wr.heap.size wr W), u.w.cell? ⟨g, 0, none⟩ = some (.slice Ac l.length cc) := fun u => hp_cell (below_hp (below_hp HGX.out HBR.out) u.h) 0
            have y2 : ∀ u : Held (fun W => Below wr.heap.size wr W), u.w.cell? ⟨w2.heap.size, l.length, none⟩ = some (.int .i64 p) := fun u => Pb.cell_kept u.h (World.block_lt_of_cell? wr _ HPC.out) HPC.out
            have hl0 : (0 : Int) ≤ (l.length : Int) := by omega
            simp only [List.take_succ_cons, List.take_zero, List.drop_succ_cons, List.drop_zero]
            repeat (go_big_quiet_step (fail))
            refine wpQuiet_nil ?_
            intro u
            go_wp2_with (go_at_call 9999)
            go_at_call 86
            refine (GV.out _).mono ?_
            rintro _ w9 ⟨rfl, hw9⟩
            subst hw9
            have hdu : u.w.heap[D]? = some (.deferred (some [])) := (u.h.block D (Array.getElem?_eq_some_iff.1 HDR.out).1).trans HDR.out
            have hDw : w.heap.size ≤ D := by have := HD.out; have := HB2.out.size; have := HS3.out; omega
            exact .inr ⟨D, rfl, hdu, .inl ⟨by rw [HRD.out, HGV.out]; simp, by rw [HRD.out, HGV.out]; rfl⟩, (HBW.out.trans (u.h.mono HBW.out.size)).grown (grownBy_putObj' u.w D (.deferred none)) (HBW.out.trans (u.h.mono HBW.out.size)).size (fun k e => by simp only [Option.some.injEq] at e; omega)⟩
          · obtain hl : fs.length = l.length := by omega
            obtain ⟨q1, q2⟩ := HRA.out.done hl
            have hmz : ¬ (l.length : Int) < (fs.length : Int) := by omega
            have hrr := below_hp HR1.out (b2.trans ((HI1.out.trans (HBR.out.mono HI1.out.size)).mono b2.size))
            have hcr := fun i => hp_cell hrr i
            have hfr := fun i => hp_frozen hrr i
            have HRR := Lib.hid hrr
            have HQ1 := Lib.hid q1; have HQ2 := Lib.hid q2
            clear q1 q2 hrr
            go_wp2_with fail
            have hs2 := HB2.out.size; have hs1 := HS1.out; have hs3 := HS3.out; have hbr2 := HBR.out.size
            have hi2 := HI2.out; have hD2 := HD.out
            have hb12 := b2.size
            obtain ⟨w9, hw9⟩ : ∃ y, y = ((wr.setCell ⟨w.heap.size + 1, 0, none⟩ (.int .u64 0)).setCell ⟨w.heap.size + 1, 1, none⟩ (.slice none 0 0)).setCell ⟨w.heap.size + 1, 2, none⟩ (.slice Ai vals.length ci) := ⟨_, rfl⟩
            rw [← hw9]
            have hr9 : Pa.hp w9 (w.heap.size + 1) = some (.cells #[.int .u64 0, .slice none 0 0, .slice Ai vals.length ci] 32 (0, 0)) := by rw [hw9]; exact set3v HRR.out _ _ _
            have ho9 : ∀ k, k ≠ w.heap.size + 1 → w9.heap[k]? = wr.heap[k]? := fun k hk => by
              rw [hw9, heap_setCell_other _ _ _ _ hk, heap_setCell_other _ _ _ _ hk, heap_setCell_other _ _ _ _ hk]
            have hz9 : w9.heap.size = wr.heap.size := by rw [hw9]; simp [World.setCell]
            have hB9 : Below w.heap.size w w9 := by rw [hw9]; exact ((HBW.out.setCell (by dsimp only; omega) _).setCell (by dsimp only; omega) _).setCell (by dsimp only; omega) _
            have hd9 : w9.heap[D]? = some (.deferred (some [])) := (ho9 D (by omega)).trans HDR.out
            have hov9 := OwP.put D _ (.deferred none) hd9 rfl _ _ _ _ _ _ (OwP.cellX HRR.out HOV.out (.inl (by omega)) (fun k _ hk => ho9 k hk))
            have hr10 : (w9.putObj D (.deferred none)).heap[w.heap.size + 1]? = some (.cells #[.int .u64 0, .slice none 0 0, .slice Ai vals.length ci] 32 (0, 0)) := (World.putObj_heap_other (by omega)).trans hr9
            refine ⟨by simp, .inl ⟨_, _, rfl, run_takeDeferred hd9, ?_⟩⟩
            refine ⟨_, results_cell_row Tryz.results75 _ _ _ _ _ _ _ rfl hr10 Tryz.underlying32 rfl (by kernel_rfl), .inr ⟨by rw [HRD.out, HQ1.out], _, _, _, rfl, ?_⟩, hB9.grown (grownBy_putObj' w9 D (.deferred none)) hB9.size (fun k e => by simp only [Option.some.injEq] at e; omega)⟩
            rw [HRD.out, HQ2.out]
            refine ⟨by simp [Vu.Va.num], rfl, Pb.Own.nil _ _ _, ?_⟩
            exact OwP.hi _ _ _ _ _ _ _ (OwP.lo _ _ _ _ _ _ _ hov9 (by omega)) (by have := (grownBy_putObj' w9 D (.deferred none)).size; omega)
        · have hin : i < l.length := by omega
          obtain ⟨bc, rfl, hSb, hsl⟩ := HCS.out (by omega)
          obtain ⟨hwf, hbnd, chk, wrv, rdf, c0, c1, c2, c3', c4, hrdy⟩ := hsl i l[i] (by simp [hin])
          have K : ∀ a u, w.cell? a = some u → wr.cell? a = some u := fun a u hu => Pb.cell_kept HBW.out (World.block_lt_of_cell? w _ hu) hu
          replace c0 := K _ _ c0; replace c1 := K _ _ c1; replace c2 := K _ _ c2; replace c3' := K _ _ c3'; replace c4 := K _ _ c4
          have hrdyR : Rdy (Cd wr S n) wr S l[i] chk wrv rdf := hrdy.mono (fun c s h => Cd.below h HBW.out) (fun _ h => h) (fun b _ o ho => below_hp ho HBW.out)
          obtain ⟨⟨fc, ac, ccc, rfl⟩, ⟨fw, aw, cw, rfl⟩, ⟨fr, ar, cr, rfl⟩⟩ := rdy_fn hrdy
          obtain ⟨w6, hw6⟩ : ∃ y, y = wr.alloc (.cells #[.int .i64 l[i].no, .int .i64 (wt l[i].kind : Nat), .func (.func fc) ac ccc, .func (.func fw) aw cw, .func (.func fr) ar cr] 149) := ⟨_, rfl⟩
          have hb6 : Below wr.heap.size wr w6 := by rw [hw6]; exact vb _ _
          have hs6 : Pa.hp w6 wr.heap.size = some (.cells #[.int .i64 l[i].no, .int .i64 (wt l[i].kind : Nat), .func (.func fc) ac ccc, .func (.func fw) aw cw, .func (.func fr) ar cr] 149 (0, 0)) := by rw [hw6]; exact hp_alloc_at _ _ rfl
          have HR6 := Lib.hid hrdyR; have HB6 := Lib.hid hb6; have HS6 := Lib.hid hs6; have HBND := Lib.hid hbnd
          clear hrdyR hb6 hs6 hbnd hrdy hsl hSb hwf K
          have hbx6 := below_hp HBX1.out (b2.trans ((HI1.out.trans ((HBR.out.trans (HB6.out.mono HBR.out.size)).mono HI1.out.size)).mono b2.size))
          have hcb6 := fun i => hp_cell hbx6 i
          have hDw : w.heap.size ≤ D := by have := HD.out; have := HB2.out.size; have := HS3.out; omega
          have hd6 : w6.heap[D]? = some (.deferred (some [])) := (HB6.out.block D (Array.getElem?_eq_some_iff.1 HDR.out).1).trans HDR.out
          have hBw6 : Below w.heap.size w w6 := HBW.out.trans (HB6.out.mono HBW.out.size)
          have hlef' := hlef
          by_cases hend : i = fs.length
          · have hgv := HRA.out
            subst hend
            replace hgv := hgv.none_ hin
            have hpe : p = base + b.length := by
              have h1 := HRA.out.at_
              have hbl : ¬ 4194304 < b.length := by
                intro h; have := HE.out; unfold wErr at this; rw [if_pos h] at this; exact absurd this (by decide)
              have hde : (Hq.D b 0 0).err = 0 := by have := HE.out; unfold wErr at this; rwa [if_neg hbl] at this
              have := Rv.D_all _ b 0 0 rfl (by omega) hde
              rw [List.take_length, HFS.out, ← this] at h1
              exact h1
            have GV := Lib.hid (fun w => Vg.give 0 (base + b.length) 81 w)
            have e1 : IntKind.i64.wrap (base + (b.length : Int)) = base + (b.length : Int) := by rw [IntKind.wrap_i64]; omega
            have HGV := Lib.hid hgv; have HPE := Lib.hid hpe
            clear hgv hpe
            go_upto_region 12 with fail
            rw [← hw6]
            clear hw6 c0 c1 c2 c3' c4
            go_wp2_with (go_at_call 9999)
            go_at_call 86
            refine (GV.out _).mono ?_
            rintro _ w9 ⟨rfl, rfl⟩
            exact .inr ⟨D, rfl, hd6, .inl ⟨by rw [HRD.out, HGV.out]; simp, by rw [HRD.out, HGV.out, HPE.out]; rfl⟩, hBw6.grown (grownBy_putObj' w9 D (.deferred none)) hBw6.size (fun k e => by simp only [Option.some.injEq] at e; omega)⟩
          · have hif : i < fs.length := by omega
            have hB26 : Below w2.heap.size w2 w6 := HI1.out.trans ((HBR.out.trans (HB6.out.mono HBR.out.size)).mono HI1.out.size)
            have hu6 := HU.out.below hB26
            obtain ⟨⟨hnum, -⟩, A', c', x0, x1, x2, x3, hown, -⟩ := hu6.fld i fs[i] (by simp [hif])
            have hrow := hu6.row
            obtain ⟨g3, rfl⟩ : ∃ g, A3 = some ⟨g, 0, none⟩ := by
              rcases hrow.2 with ⟨-, h0⟩ | ⟨g, cap, cur, e, -⟩
              · omega
              · simp only [Value.slice.injEq] at e
                exact ⟨g, e.1⟩
            have hadd : ∀ k, (⟨g3, 0, none⟩ : Addr).add k = ⟨g3, k, none⟩ := fun k => by unfold Addr.add; split <;> simp_all
            have k0 := World.ownsRow.cells hrow (g := g3) rfl _ _ x0
            have k1 := World.ownsRow.cells hrow (g := g3) rfl _ _ x1
            have k2 := World.ownsRow.cells hrow (g := g3) rfl _ _ x2
            have k3 := World.ownsRow.cells hrow (g := g3) rfl _ _ x3
            rw [hadd] at k0 k1 k2 k3
            have hbl : ¬ 4194304 < b.length := by
              intro h; have := HE.out; unfold wErr at this; rw [if_pos h] at this; exact absurd this (by decide)
            have hde : (Hq.D b 0 0).err = 0 := by have := HE.out; unfold wErr at this; rwa [if_neg hbl] at this
            obtain ⟨n1, n2, nt, n3, n4, n5, n6⟩ := Rv.D_fld _ b 0 0 rfl (by omega) fs[i] (by rw [← HFS.out]; exact List.getElem_mem hif)
            have hall := Rv.D_all _ b 0 0 rfl (by omega) hde
            rw [← HFS.out] at hall
            have hbt := bytes_take fs (i + 1)
            rw [← hall, List.take_succ_eq_append_getElem hif, bytes_snoc, List.length_append] at hbt
            have hpa := HRA.out.at_
            obtain ⟨ip1, ip2⟩ := inPl_le fs[i] p nt n6
            have hplc : w6.cell? ⟨w2.heap.size, i, none⟩ = some (.int .i64 p) := by
              rw [hpa]
              exact Pb.cell_kept (HBR.out.trans (HB6.out.mono HBR.out.size)) (World.block_lt_of_cell? X _ (HCP.out i hif)) (HCP.out i hif)
            have ht6 := below_hp HI4.out (HBR.out.trans (HB6.out.mono HBR.out.size))
            have hv6 := below_hp HVX.out HB6.out
            have hfl6 : ∀ W, Below w6.heap.size w6 W → (W.cell? ⟨g3, i * 4, none⟩ = some (.int .i64 fs[i].no) ∧ W.cell? ⟨g3, i * 4 + 1, none⟩ = some (.int .i64 fs[i].ty) ∧ W.cell? ⟨g3, i * 4 + 2, none⟩ = some (.int .u64 (fs[i].num : Int)) ∧ W.cell? ⟨g3, i * 4 + 3, none⟩ = some (.slice A' fs[i].data.length c')) ∧
                (W.cell? ⟨wr.heap.size, 0, none⟩ = some (.int .i64 l[i].no) ∧ W.cell? ⟨wr.heap.size, 1, none⟩ = some (.int .i64 (wt l[i].kind : Nat)) ∧ W.cell? ⟨wr.heap.size, 4, none⟩ = some (.func (.func fr) ar cr)) ∧
                (W.cell? ⟨w2.heap.size + 1, 0, none⟩ = some (.slice (some ⟨w2.heap.size, 0, none⟩) fs.length fs.length) ∧ W.cell? ⟨w2.heap.size, i, none⟩ = some (.int .i64 p)) ∧ Pa.hp W X.heap.size = some (.cells #[.int .u64 0, .slice none 0 0, .slice Ai vals.length ci] 32 (0, 0)) := fun W hW =>
              have kk : ∀ a u, w6.cell? a = some u → W.cell? a = some u := fun a u hu => Pb.cell_kept hW (World.block_lt_of_cell? w6 _ hu) hu
              ⟨⟨kk _ _ k0, kk _ _ k1, kk _ _ k2, kk _ _ k3⟩, ⟨kk _ _ (hp_cell HS6.out 0), kk _ _ (hp_cell HS6.out 1), kk _ _ (hp_cell HS6.out 4)⟩, ⟨kk _ _ (hp_cell ht6 0), kk _ _ hplc⟩, below_hp hv6 hW⟩
            have hpan : ∀ W (f : Flt), Below w6.heap.size w6 W → (Rv.rGo (rSlot U (rdv U n)) l fs base).1 = f → f.2.2 ≠ 0 → W.heap[D]? = some (.deferred (some [])) ∧ ReadEnds U (n + 1) l b base w (gave f) (W.putObj D (.deferred none)) := fun W f hW hf h0 => by
              have hB := hBw6.trans (hW.mono hBw6.size)
              refine ⟨(hW.block D (Array.getElem?_eq_some_iff.1 hd6).1).trans hd6, .inl ⟨by rw [HRD.out, hf]; exact h0, by rw [HRD.out, hf]⟩, hB.grown (grownBy_putObj' W D (.deferred none)) hB.size (fun k e => by simp only [Option.some.injEq] at e; omega)⟩
            have RNO := Lib.hid (fun h => HRA.out.no hin hif h)
            have RTY := Lib.hid (fun h h' => HRA.out.ty hin hif h h')
            have RBAD := Lib.hid (fun h h' h2 => HRA.out.bad hin hif h h' h2)
            have RSTEP := Lib.hid (fun h h' h2 => HRA.out.step hin hif h h' h2)
            have HFL6 := Lib.hid hfl6; have HPAN := Lib.hid hpan; have HOWN := Lib.hid hown; have HBW6 := Lib.hid hBw6; have HD6 := Lib.hid hd6
            have HALLI := Lib.hid (HALL.out l[i] (List.getElem_mem hin))
            have HIP := Lib.hid (show 0 ≤ p ∧ p ≤ 150000000000000 ∧ 0 ≤ inPl fs[i] p ∧ inPl fs[i] p + fs[i].data.length ≤ 150000000000000 by omega)
            have HN4 := Lib.hid (show fs[i].data.length ≤ 4194304 by omega)
            clear hfl6 hpan hown hBw6 hd6 ht6 hv6 hplc hbt hall hde k0 k1 k2 k3 hrow hu6 hB26 x0 x1 x2 x3 hadd ip1 ip2 hpa hbl
            obtain ⟨t0, ht0⟩ : ∃ y, y = l[i] := ⟨_, rfl⟩
            obtain ⟨f0, hf0⟩ : ∃ y, y = fs[i] := ⟨_, rfl⟩
            rw [← ht0] at RNO RTY RBAD RSTEP HFL6 HALLI HR6 HBND c0 c1 hw6
            rw [← hf0] at RNO RTY RBAD RSTEP HFL6 HOWN HIP HN4 n1 n2 nt n3 n5 n6 hnum
            clear hf0 ht0 n4
            have hi0 : (0 : Int) ≤ (i : Int) := by omega
            have hif' : (i : Int) < (fs.length : Int) := by omega
            have hne' : ((i : Int) == (fs.length : Int)) = false := by simp; omega
            go_upto_region 14 with fail
            rw [← hw6]
            clear hw6 c0 c1 c2 c3' c4
            have HS6' := Lib.hid HS6.out
            by_cases hno : f0.no = t0.no
            · have hnz : (f0.no != t0.no) = false := by simp [hno]
              refine wp_region_calm (S := fun W => Below w6.heap.size w6 W) (by kernel_rfl) (by kernel_rfl) (Below.refl _ _).drew ?_
              intro hN
              have y0 : ∀ u : Held (fun W => Below w6.heap.size w6 W), u.w.cell? ⟨g3, i * 4, none⟩ = some (.int .i64 f0.no) := fun u => (HFL6.out u.w u.h).1.1
              have y1 : ∀ u : Held (fun W => Below w6.heap.size w6 W), u.w.cell? ⟨wr.heap.size, 0, none⟩ = some (.int .i64 t0.no) := fun u => (HFL6.out u.w u.h).2.1.1
              repeat (go_big_quiet_step (fail))
              refine wpQuiet_nil ?_
              rintro ⟨W7, h7⟩
              dsimp only
              have H7 := Lib.hid h7
              clear h7 y0 y1 hN hnz
              go_upto_region 16 with fail
              by_cases hty : f0.ty = (wt t0.kind : Int)
              · have htz : (f0.ty != (wt t0.kind : Int)) = false := by simp [hty]
                refine wp_region_calm (S := fun W => Below w6.heap.size w6 W) (by kernel_rfl) (by kernel_rfl) H7.out.drew ?_
                intro hN
                have y0 : ∀ u : Held (fun W => Below w6.heap.size w6 W), u.w.cell? ⟨g3, i * 4 + 1, none⟩ = some (.int .i64 f0.ty) := fun u => (HFL6.out u.w u.h).1.2.1
                have y1 : ∀ u : Held (fun W => Below w6.heap.size w6 W), u.w.cell? ⟨wr.heap.size, 1, none⟩ = some (.int .i64 (wt t0.kind : Nat)) := fun u => (HFL6.out u.w u.h).2.1.2.1
                repeat (go_big_quiet_step (fail))
                refine wpQuiet_nil ?_
                rintro ⟨W8, h8⟩
                dsimp only
                have H8 := Lib.hid h8
                clear h8 y0 y1 hN htz
                go_upto_region 18 with fail
                obtain ⟨⟨f00, f01, f02, f03⟩, ⟨-, -, f06⟩, ⟨f07, f08⟩, f09⟩ := HFL6.out W8 H8.out
                have hB8 : Below w.heap.size w W8 := HBW6.out.trans (H8.out.mono HBW6.out.size)
                have hw1s := HB1.out.size
                obtain ⟨F, B, C, hce, heg, hK⟩ := Rk.clo U HUT n HIH.out S j t0 _ _ _ f0 A' c' w.heap.size p w6 (HR6.out.mono (fun c s h => Cd.below h HB6.out) (fun _ h => h) (fun b _ o ho => below_hp ho HB6.out)) HBND.out HALLI.out.2.2.2.1 (HT.out.below HBW6.out) n1 n2 hty n3 HN4.out n5 n6 (HOWN.out.mono (by omega)) HBW6.out.size HIP.out.1 HIP.out.2.1 HIP.out.2.2
                simp only [Value.func.injEq, Fn.func.injEq] at hce
                obtain ⟨rfl, rfl, rfl⟩ := hce
                have RDK := Lib.hid (hK W8.drew H8.out.drew); have HEG := Lib.hid heg
                obtain ⟨Sx, hSx⟩ : ∃ Sx : World → Prop, Sx = fun W => (W.cell? ⟨X.heap.size, 2, none⟩ = some (.slice Ai vals.length ci) ∧ W.cell? ⟨wr.heap.size, 4, none⟩ = some (.func (.func fr) ar cr)) ∧ (W.cell? ⟨g3, i * 4, none⟩ = some (.int .i64 f0.no) ∧ W.cell? ⟨g3, i * 4 + 1, none⟩ = some (.int .i64 f0.ty) ∧ W.cell? ⟨g3, i * 4 + 2, none⟩ = some (.int .u64 (f0.num : Int)) ∧ W.cell? ⟨g3, i * 4 + 3, none⟩ = some (.slice A' f0.data.length c')) ∧
                  (W.cell? ⟨w2.heap.size + 1, 0, none⟩ = some (.slice (some ⟨w2.heap.size, 0, none⟩) fs.length fs.length) ∧ W.cell? ⟨w2.heap.size, i, none⟩ = some (.int .i64 p)) := ⟨_, rfl⟩
                have sA : ∀ W, Sx W → (W.cell? ⟨X.heap.size, 2, none⟩ = some (.slice Ai vals.length ci) ∧ W.cell? ⟨wr.heap.size, 4, none⟩ = some (.func (.func fr) ar cr)) ∧ (W.cell? ⟨g3, i * 4, none⟩ = some (.int .i64 f0.no) ∧ W.cell? ⟨g3, i * 4 + 1, none⟩ = some (.int .i64 f0.ty) ∧ W.cell? ⟨g3, i * 4 + 2, none⟩ = some (.int .u64 (f0.num : Int)) ∧ W.cell? ⟨g3, i * 4 + 3, none⟩ = some (.slice A' f0.data.length c')) ∧
                  (W.cell? ⟨w2.heap.size + 1, 0, none⟩ = some (.slice (some ⟨w2.heap.size, 0, none⟩) fs.length fs.length) ∧ W.cell? ⟨w2.heap.size, i, none⟩ = some (.int .i64 p)) := fun W h => by rw [hSx] at h; exact h
                have sI : ∀ W, (W.cell? ⟨X.heap.size, 2, none⟩ = some (.slice Ai vals.length ci) ∧ W.cell? ⟨wr.heap.size, 4, none⟩ = some (.func (.func fr) ar cr)) ∧ (W.cell? ⟨g3, i * 4, none⟩ = some (.int .i64 f0.no) ∧ W.cell? ⟨g3, i * 4 + 1, none⟩ = some (.int .i64 f0.ty) ∧ W.cell? ⟨g3, i * 4 + 2, none⟩ = some (.int .u64 (f0.num : Int)) ∧ W.cell? ⟨g3, i * 4 + 3, none⟩ = some (.slice A' f0.data.length c')) ∧
                  (W.cell? ⟨w2.heap.size + 1, 0, none⟩ = some (.slice (some ⟨w2.heap.size, 0, none⟩) fs.length fs.length) ∧ W.cell? ⟨w2.heap.size, i, none⟩ = some (.int .i64 p)) → Sx W := fun W h => by rw [hSx]; exact h
                have s0 : Sx W8.drew := sI _ ⟨⟨hp_cell f09 2, f06⟩, ⟨f00, f01, f02, f03⟩, f07, f08⟩
                have SA := Lib.hid sA; have SI := Lib.hid sI
                clear hSx sA sI hK heg f00 f01 f02 f03 f06 f07 f08 f09 hcv hcg hcb6
                refine wp_region_split Sx 15 (by kernel_rfl) (by kernel_rfl) ?_
                simp only [List.take_succ_cons, List.take_zero]
                refine wpAnyH_take (i := 0) (v := ?vv0) rfl (by kernel_rfl) (by kernel_rfl) (by kernel_rfl) (fun _ _ _ h => h) (Or.inl ⟨by rfl, ?hy0⟩) s0 ?rest0
                case hy0 =>
                  intro W hW
                  obtain ⟨⟨a1, a2⟩, ⟨a3, a4, a5, a6⟩, a7, a8⟩ := SA.out W hW
                  go_simp
                  try with_reducible rfl
                try simp only [Act.put, List.setIfInBounds_toArray, List.set_cons_zero, List.set_cons_succ]
                refine wpAnyH_take (i := 1) (v := ?vv1) rfl (by kernel_rfl) (by kernel_rfl) (by kernel_rfl) (fun _ _ _ h => h) (Or.inl ⟨by rfl, ?hy1⟩) s0 ?rest1
                case hy1 =>
                  intro W hW
                  obtain ⟨⟨a1, a2⟩, ⟨a3, a4, a5, a6⟩, a7, a8⟩ := SA.out W hW
                  go_simp
                  try with_reducible rfl
                try simp only [Act.put, List.setIfInBounds_toArray, List.set_cons_zero, List.set_cons_succ]
                refine wpAnyH_take (i := 2) (v := ?vv2) rfl (by kernel_rfl) (by kernel_rfl) (by kernel_rfl) (fun _ _ _ h => h) (Or.inl ⟨by rfl, ?hy2⟩) s0 ?rest2
                case hy2 =>
                  intro W hW
                  obtain ⟨⟨a1, a2⟩, ⟨a3, a4, a5, a6⟩, a7, a8⟩ := SA.out W hW
                  go_simp
                  try with_reducible rfl
                try simp only [Act.put, List.setIfInBounds_toArray, List.set_cons_zero, List.set_cons_succ]
                refine wpAnyH_take (i := 3) (v := ?vv3) rfl (by kernel_rfl) (by kernel_rfl) (by kernel_rfl) (fun _ _ _ h => h) (Or.inl ⟨by rfl, ?hy3⟩) s0 ?rest3
                case hy3 =>
                  intro W hW
                  obtain ⟨⟨a1, a2⟩, ⟨a3, a4, a5, a6⟩, a7, a8⟩ := SA.out W hW
                  go_simp
                  try with_reducible rfl
                try simp only [Act.put, List.setIfInBounds_toArray, List.set_cons_zero, List.set_cons_succ]
                refine wpAnyH_take (i := 4) (v := ?vv4) rfl (by kernel_rfl) (by kernel_rfl) (by kernel_rfl) (fun _ _ _ h => h) (Or.inl ⟨by rfl, ?hy4⟩) s0 ?rest4
                case hy4 =>
                  intro W hW
                  obtain ⟨⟨a1, a2⟩, ⟨a3, a4, a5, a6⟩, a7, a8⟩ := SA.out W hW
                  go_simp
                  try with_reducible rfl
                try simp only [Act.put, List.setIfInBounds_toArray, List.set_cons_zero, List.set_cons_succ]
                refine wpAnyH_take (i := 5) (v := ?vv5) rfl (by kernel_rfl) (by kernel_rfl) (by kernel_rfl) (fun _ _ _ h => h) (Or.inl ⟨by rfl, ?hy5⟩) s0 ?rest5
                case hy5 =>
                  intro W hW
                  obtain ⟨⟨a1, a2⟩, ⟨a3, a4, a5, a6⟩, a7, a8⟩ := SA.out W hW
                  go_simp
                  try with_reducible rfl
                try simp only [Act.put, List.setIfInBounds_toArray, List.set_cons_zero, List.set_cons_succ]
                refine wpAnyH_take (i := 6) (v := ?vv6) rfl (by kernel_rfl) (by kernel_rfl) (by kernel_rfl) (fun _ _ _ h => h) (Or.inl ⟨by rfl, ?hy6⟩) s0 ?rest6
                case hy6 =>
                  intro W hW
                  obtain ⟨⟨a1, a2⟩, ⟨a3, a4, a5, a6⟩, a7, a8⟩ := SA.out W hW
                  go_simp
                  try with_reducible rfl
                try simp only [Act.put, List.setIfInBounds_toArray, List.set_cons_zero, List.set_cons_succ]
                refine wpAnyH_take (i := 7) (v := ?vv7) rfl (by kernel_rfl) (by kernel_rfl) (by kernel_rfl) (fun _ _ _ h => h) (Or.inl ⟨by rfl, ?hy7⟩) s0 ?rest7
                case hy7 =>
                  intro W hW
                  obtain ⟨⟨a1, a2⟩, ⟨a3, a4, a5, a6⟩, a7, a8⟩ := SA.out W hW
                  go_simp
                  try with_reducible rfl
                try simp only [Act.put, List.setIfInBounds_toArray, List.set_cons_zero, List.set_cons_succ]
                refine wpAnyH_take (i := 8) (v := ?vv8) rfl (by kernel_rfl) (by kernel_rfl) (by kernel_rfl) (fun _ _ _ h => h) (Or.inl ⟨by rfl, ?hy8⟩) s0 ?rest8
                case hy8 =>
                  intro W hW
                  obtain ⟨⟨a1, a2⟩, ⟨a3, a4, a5, a6⟩, a7, a8⟩ := SA.out W hW
                  go_simp
                  try with_reducible rfl
                try simp only [Act.put, List.setIfInBounds_toArray, List.set_cons_zero, List.set_cons_succ]
                refine wpAnyH_take (i := 9) (v := ?vv9) rfl (by kernel_rfl) (by kernel_rfl) (by kernel_rfl) (fun _ _ _ h => h) (Or.inl ⟨by rfl, ?hy9⟩) s0 ?rest9
                case hy9 =>
                  intro W hW
                  obtain ⟨⟨a1, a2⟩, ⟨a3, a4, a5, a6⟩, a7, a8⟩ := SA.out W hW
                  go_simp
                  try with_reducible rfl
                try simp only [Act.put, List.setIfInBounds_toArray, List.set_cons_zero, List.set_cons_succ]
                refine wpAnyH_take (i := 10) (v := ?vv10) rfl (by kernel_rfl) (by kernel_rfl) (by kernel_rfl) (fun _ _ _ h => h) (Or.inl ⟨by rfl, ?hy10⟩) s0 ?rest10
                case hy10 =>
                  intro W hW
                  obtain ⟨⟨a1, a2⟩, ⟨a3, a4, a5, a6⟩, a7, a8⟩ := SA.out W hW
                  go_simp
                  try with_reducible rfl
                try simp only [Act.put, List.setIfInBounds_toArray, List.set_cons_zero, List.set_cons_succ]
                refine wpAnyH_take (i := 11) (v := ?vv11) rfl (by kernel_rfl) (by kernel_rfl) (by kernel_rfl) (fun _ _ _ h => h) (Or.inl ⟨by rfl, ?hy11⟩) s0 ?rest11
                case hy11 =>
                  intro W hW
                  obtain ⟨⟨a1, a2⟩, ⟨a3, a4, a5, a6⟩, a7, a8⟩ := SA.out W hW
                  go_simp
                  try with_reducible rfl
                try simp only [Act.put, List.setIfInBounds_toArray, List.set_cons_zero, List.set_cons_succ]
                refine anyH_one (i := 12) (by kernel_rfl) rfl rfl (fun K hK => ?_)
                have heg := HEG.out
                go_simp
                have rdk := RDK.out
                rw [hno, hty, Array.append_assoc] at rdk
                refine rdk.mono ?_
                clear rdk
                rintro _ w10 ⟨⟨hx0, rfl⟩ | ⟨hx0, nv, dv, pv, rfl, ho10⟩, b10⟩
                · obtain ⟨p1, p2⟩ := HPAN.out w10 _ (H8.out.drew.trans (b10.mono H8.out.size)) (RBAD.out hno hty hx0) hx0
                  exact .inr ⟨D, rfl, p1, p2⟩
                have hst := RSTEP.out hno hty hx0
                clear RNO RTY RBAD RSTEP RDK heg
                generalize (rSlot U (rdv U n) t0 f0 p).2 = y at *
                obtain ⟨hyn, rfl, x3, x4⟩ := ho10
                obtain ⟨A1, c1, rfl⟩ := x3.slice
                obtain ⟨A2, c2, -, -, -, e2', -⟩ := id x4
                subst e2'
                have hB610 : Below w6.heap.size w6 w10 := H8.out.drew.trans (b10.mono H8.out.size)
                have hBr10 : Below wr.heap.size wr w10 := HB6.out.trans (hB610.mono HB6.out.size)
                have hov10 := OwP.below HOV.out hBr10
                have hsr : wr.heap.size ≤ W8.heap.size := Nat.le_trans HB6.out.size H8.out.size
                have hs8 : W8.heap.size ≤ w10.heap.size := b10.size
                have hsX : X.heap.size < wr.heap.size := (Array.getElem?_eq_some_iff.1 HVX.out).1
                have hs2X := HI1.out.size
                have hi2 := HI2.out; have hs33 := HS3.out
                have hg3 := (World.ownsRow.lt HU.out.row g3 rfl).2
                obtain ⟨A0, c0, xs0, a0, b0', e0, hrow10, hrlt, -⟩ := id hov10
                simp only [Value.slice.injEq] at e0
                obtain ⟨rfl, -, rfl⟩ := e0
                have hvl := hst.len
                simp only [List.length_append, List.length_singleton] at hvl
                obtain ⟨A8, c8, w11, hap, ho11, hz11, hg11, hown11⟩ := pushV hrow10 (by omega) (by omega) (.int .u64 (y.num : Int)) (.slice A1 y.data.length c1) (.slice A2 y.parts.length c2) (by
                  intro u hu
                  simp only [List.mem_cons, List.not_mem_nil, or_false] at hu
                  rcases hu with rfl | rfl | rfl <;> rfl)
                have hrk : ∀ k, (Value.slice Ai vals.length ci).ownBlock = some k → X.heap.size + 1 ≤ k ∧ k < wr.heap.size := fun k hk => ⟨(World.ownsRow.lt hrow10 k hk).1, hrlt k hk⟩
                obtain ⟨⟨f00, f01, f02, f03⟩, ⟨-, -, f06⟩, ⟨f07, f08⟩, f09⟩ := HFL6.out w10 hB610
                have k11 : ∀ (a : Addr) (u : Value), a.block < X.heap.size + 1 ∨ a.block = wr.heap.size → w10.cell? a = some u → w11.cell? a = some u := fun a u ha hu =>
                  (World.cell?_of_block (hg11.block _ (World.block_lt_of_cell? w10 _ hu) (fun e => by have := hrk _ e.symm; omega))).trans hu
                have s10 : Sx w10 := SI.out _ ⟨⟨hp_cell f09 2, f06⟩, ⟨f00, f01, f02, f03⟩, f07, f08⟩
                have s10a : ∀ o, Sx (w10.alloc o) := fun o => by
                  obtain ⟨⟨f00, f01, f02, f03⟩, ⟨-, -, f06⟩, ⟨f07, f08⟩, f09⟩ := HFL6.out (w10.alloc o) (hB610.trans ((vb _ _).mono hB610.size))
                  exact SI.out _ ⟨⟨hp_cell f09 2, f06⟩, ⟨f00, f01, f02, f03⟩, f07, f08⟩
                have hvx11 : Pa.hp w11 X.heap.size = some (.cells #[.int .u64 0, .slice none 0 0, .slice Ai vals.length ci] 32 (0, 0)) := (hg11.block _ (by omega) (fun e => by have := hrk _ e.symm; omega)).trans f09
                have s11 : Sx w11 := SI.out _ ⟨⟨hp_cell hvx11 2, k11 _ _ (.inr rfl) f06⟩, ⟨k11 _ _ (.inl (by show g3 < _; omega)) f00, k11 _ _ (.inl (by show g3 < _; omega)) f01, k11 _ _ (.inl (by show g3 < _; omega)) f02, k11 _ _ (.inl (by show g3 < _; omega)) f03⟩, k11 _ _ (.inl (by show w2.heap.size + 1 < _; omega)) f07, k11 _ _ (.inl (by show w2.heap.size < _; omega)) f08⟩
                have hpush := OwP.push y hov10 hrow10 (show wr.heap.size ≤ W8.drew.heap.size from hsr) (show X.heap.size + 1 ≤ W8.drew.heap.size from by show X.heap.size + 1 ≤ W8.heap.size; omega) (show W8.drew.heap.size ≤ w10.heap.size from hs8) (Nat.le_refl _) hyn x3 x4 ho11 hg11 hown11
                have hB11 : Below X.heap.size X w11 := (HBR.out.trans (hBr10.mono HBR.out.size)).grown hg11 (by omega) (fun k hk => by have := hrk k hk; omega)
                have hcv11 := fun i => hp_cell hvx11 i
                have hfv11 := fun i => hp_frozen hvx11 i
                have HP := Lib.hid hpush; have HVX11 := Lib.hid hvx11; have HB11 := Lib.hid hB11; have HST := Lib.hid hst
                clear hpush hvx11 hB11 hst x3 x4 hov10 hrow10 hrlt hB610 hBr10 b10 ho11 hg11 hown11 hrk hsr hs8 f00 f01 f02 f03 f06 f07 f08 f09 k11
                refine hK.out _ _ s10 ?_
                refine anyH_one (i := 13) (by kernel_rfl) rfl rfl (fun K7 hK7 => ?_)
                go_simp
                refine hK7.out _ _ (s10a _) ?_
                refine anyH_one (i := 14) (by kernel_rfl) rfl rfl (fun K8 hK8 => ?_)
                go_simp
                refine hK8.out _ _ s11 ?_
                refine wpAnyH_done (by kernel_rfl) ?_ _
                unfold tailQ
                simp only [List.drop_succ_cons, List.drop_zero]
                have hi96 : i < 64 := by omega
                have HVI := Lib.hid (show vals.length = i by omega)
                clear hvl
                go_wp2_with fail
                go_roundw
                case rel =>
                  refine ⟨i + 1, _, _, A8, c8, by go_num, HST.out, HB11.out.setCell (p := ⟨X.heap.size, 2, none⟩) (Nat.le_refl _) _, ?_, ?_⟩
                  · rw [List.length_append, HVI.out]
                    exact heap_setCell_same _ X.heap.size 2 _ _ _ HVX11.out
                  · rw [List.length_append, HVI.out]
                    rw [HVI.out] at HP
                    refine OwP.hi _ _ _ _ _ _ _ (OwP.cellX HVX11.out HP.out (.inl (by omega)) (fun k _ hk => ?_)) (by simp [World.setCell])
                    exact heap_setCell_other w11 ⟨X.heap.size, 2, none⟩ k _ hk
                case measure => simp [intOf]; omega
              · have htz : (f0.ty != (wt t0.kind : Int)) = true := by simpa using hty
                have hgv := RTY.out hno hty
                have HGV := Lib.hid hgv
                have GV := Lib.hid (fun w => Vg.give 0 p 82 w)
                clear hgv
                refine wp_region_calm (S := fun W => Below w6.heap.size w6 W) (by kernel_rfl) (by kernel_rfl) H7.out.drew ?_
                intro hN
                have y0 : ∀ u : Held (fun W => Below w6.heap.size w6 W), u.w.cell? ⟨g3, i * 4 + 1, none⟩ = some (.int .i64 f0.ty) := fun u => (HFL6.out u.w u.h).1.2.1
                have y1 : ∀ u : Held (fun W => Below w6.heap.size w6 W), u.w.cell? ⟨wr.heap.size, 1, none⟩ = some (.int .i64 (wt t0.kind : Nat)) := fun u => (HFL6.out u.w u.h).2.1.2.1
                repeat (go_big_quiet_step (fail))
                refine wpQuiet_nil ?_
                rintro ⟨W8, h8⟩
                dsimp only
                obtain ⟨-, -, ⟨z0, z1⟩, -⟩ := HFL6.out W8 h8
                have H8 := Lib.hid h8
                clear h8 y0 y1 hN
                go_wp2_with (go_at_call 9999)
                go_at_call 86
                refine (GV.out _).mono ?_
                rintro _ w9 ⟨rfl, rfl⟩
                obtain ⟨p1, p2⟩ := HPAN.out _ _ H8.out HGV.out (by simp)
                exact .inr ⟨D, rfl, p1, p2⟩
            · have hnz : (f0.no != t0.no) = true := by simpa using hno
              have hgv := RNO.out hno
              have HGV := Lib.hid hgv
              have GV := Lib.hid (fun w => Vg.give 0 p 81 w)
              clear hgv
              refine wp_region_calm (S := fun W => Below w6.heap.size w6 W) (by kernel_rfl) (by kernel_rfl) (Below.refl _ _).drew ?_
              intro hN
              have y0 : ∀ u : Held (fun W => Below w6.heap.size w6 W), u.w.cell? ⟨g3, i * 4, none⟩ = some (.int .i64 f0.no) := fun u => (HFL6.out u.w u.h).1.1
              have y1 : ∀ u : Held (fun W => Below w6.heap.size w6 W), u.w.cell? ⟨wr.heap.size, 0, none⟩ = some (.int .i64 t0.no) := fun u => (HFL6.out u.w u.h).2.1.1
              repeat (go_big_quiet_step (fail))
              refine wpQuiet_nil ?_
              rintro ⟨W7, h7⟩
              dsimp only
              obtain ⟨-, -, ⟨z0, z1⟩, -⟩ := HFL6.out W7 h7
              have H7 := Lib.hid h7
              clear h7 y0 y1 hN
              go_wp2_with (go_at_call 9999)
              go_at_call 86
              refine (GV.out _).mono ?_
              rintro _ w9 ⟨rfl, rfl⟩
              obtain ⟨p1, p2⟩ := HPAN.out _ _ H7.out HGV.out (by simp)
              exact .inr ⟨D, rfl, p1, p2⟩
  · have hrd : (rdv U (n + 1) l b base) = ((0, base + wAt b, wErr b), va0) := by rw [rdv_succ, if_pos he]
    have hwb := Yd.wAt_le b
    have GV := Lib.hid (fun w => Vg.give 0 (base + wAt b) (wErr b) w)
    have HRD := Lib.hid hrd
    have e1 : IntKind.i64.wrap (base + wAt b) = base + wAt b := by rw [IntKind.wrap_i64]; omega
    clear hrd hok2
    generalize wErr b = er at *
    generalize wAt b = wa at *
    go_wp2_with (go_at_call 9999)
    go_at_call 86
    refine (GV.out _).mono ?_
    rintro _ w4 ⟨rfl, rfl⟩
    exact .inl ⟨rfl, .inl ⟨by rw [HRD.out]; exact he, by rw [HRD.out]; rfl⟩, HB2.out⟩
theorem readAll (U : List UInt8 → Bool) (HUT : UtfSaid U) : ∀ n, ReadSaid U n := by
  intro n
  induction n with
  | zero => exact fun S g j l v b base w hc => hc.elim
  | succ n ih => exact read U HUT n ih
end Go.Proofs.YtinngljphjdpoaaGreatDoor.Rd
