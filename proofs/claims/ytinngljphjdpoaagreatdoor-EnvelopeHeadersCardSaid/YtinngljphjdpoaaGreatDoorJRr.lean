/- handValue: a value in memory of its own. -/
import Derived.Test.YtinngljphjdpoaaGreatDoorJFt
import Derived.Test.YtinngljphjdpoaaGreatDoorJAx
import Derived.Deep.OwnRows
import Derived.Test.YtinngljphjdpoaaGreatDoorJHt
import Derived.Test.YtinngljphjdpoaaGreatDoorJEp
import Derived.Deep.DeepCutAuto
import Derived.Test.YtinngljphjdpoaaGreatDoorJRq
namespace Go.Proofs.YtinngljphjdpoaaGreatDoor.Hv
open Go Go.RowKit Go.Proofs.YtinngljphjdpoaaGreatDoor.Pa Go.Proofs.YtinngljphjdpoaaGreatDoor.Pb Go.Proofs.YtinngljphjdpoaaGreatDoor.Pc Go.Proofs.YtinngljphjdpoaaGreatDoor.Pf Go.Proofs.YtinngljphjdpoaaGreatDoor.Sc Go.Proofs.YtinngljphjdpoaaGreatDoor.Rs Go.Proofs.YtinngljphjdpoaaGreatDoor.Hs Go.Proofs.YtinngljphjdpoaaGreatDoor.Vu Go.Proofs.YtinngljphjdpoaaGreatDoor.Vo
set_option linter.unusedVariables false
set_option linter.unusedSimpArgs false
/-- A slice with the bytes d in a block of its own from base on, marks behind. -/
def Dh (w : World) (base : Nat) (v : Value) (d : List UInt8) : Prop := ∃ b, v = .slice (some ⟨b, 0, none⟩) d.length (d.length + 3) ∧ base ≤ b ∧ Arr w b 5 (d ++ [7, 8, 9])
/-- The slice v holds the values l in blocks of its own from base on, each list with marks behind it. -/
def Hp (w : World) (base : Nat) : Nat → Value → List Va → Prop
  | 0, _, _ => False
  | n + 1, v, l => ∃ (b : Nat) (f : Nat → Value), v = .slice (some ⟨b, 0, none⟩) l.length (l.length + 3) ∧ base ≤ b ∧ w.rowIs b 32 ((l.length + 3) * 3) f ∧
      (∀ j y, l[j]? = some y → y.num < 18446744073709551616 ∧ f (j * 3) = .int .u64 y.num ∧ Dh w base (f (j * 3 + 1)) y.data ∧ Hp w base n (f (j * 3 + 2)) y.parts) ∧
      (∀ j, l.length ≤ j → j < l.length + 3 → f (j * 3) = .int .u64 4711 ∧ f (j * 3 + 2) = .slice none 0 0)
/-- A value of the call's own. -/
def Hw (w : World) (base n : Nat) (nv dv pv : Value) (x : Va) : Prop := x.num < 18446744073709551616 ∧ nv = .int .u64 x.num ∧ Dh w base dv x.data ∧ Hp w base n pv x.parts
theorem Dh.keep {w w' : World} {base : Nat} {v : Value} {d : List UInt8} (h : Dh w base v d) (hk : ∀ k, base ≤ k → k < w.heap.size → w'.heap[k]? = w.heap[k]?) : Dh w' base v d := by
  obtain ⟨b, e, hb, ha⟩ := h
  exact ⟨b, e, hb, (hk b hb ha.lt).trans ha⟩
theorem Dh.mono {w : World} {base base' : Nat} (hb : base' ≤ base) {v : Value} {d : List UInt8} (h : Dh w base v d) : Dh w base' v d := by
  obtain ⟨b, e, h1, ha⟩ := h
  exact ⟨b, e, by omega, ha⟩
theorem Hp.keep {w w' : World} {base : Nat} : ∀ (n : Nat) (v : Value) (l : List Va), Hp w base n v l → (∀ k, base ≤ k → k < w.heap.size → w'.heap[k]? = w.heap[k]?) → Hp w' base n v l
  | 0, _, _, h, _ => h.elim
  | n + 1, v, l, h, hk => by
    obtain ⟨b, f, e, hb, hr, h1, h2⟩ := h
    exact ⟨b, f, e, hb, hr.of_block (hk b hb hr.lt), fun j t ht => by obtain ⟨g0, g1, g2, g3⟩ := h1 j t ht; exact ⟨g0, g1, g2.keep hk, Hp.keep n _ _ g3 hk⟩, h2⟩
theorem Hp.mono {w : World} {base base' : Nat} (hb : base' ≤ base) : ∀ (n : Nat) (v : Value) (l : List Va), Hp w base n v l → Hp w base' n v l
  | 0, _, _, h => h.elim
  | n + 1, v, l, h => by
    obtain ⟨b, f, e, hb', hr, h1, h2⟩ := h
    exact ⟨b, f, e, by omega, hr, fun j t ht => by obtain ⟨g0, g1, g2, g3⟩ := h1 j t ht; exact ⟨g0, g1, g2.mono hb, Hp.mono hb n _ _ g3⟩, h2⟩
theorem Hw.keep {w w' : World} {base n : Nat} {nv dv pv : Value} {x : Va} (h : Hw w base n nv dv pv x) (hk : ∀ k, base ≤ k → k < w.heap.size → w'.heap[k]? = w.heap[k]?) : Hw w' base n nv dv pv x := ⟨h.1, h.2.1, h.2.2.1.keep hk, Hp.keep n _ _ h.2.2.2 hk⟩
theorem Hw.below {w w' : World} {base n : Nat} {nv dv pv : Value} {x : Va} (h : Hw w base n nv dv pv x) (hb : Below w.heap.size w w') : Hw w' base n nv dv pv x := h.keep (fun k _ hk => hb.block k hk)
theorem Hp.slice {w : World} {base n : Nat} {v : Value} {l : List Va} (h : Hp w base n v l) : ∃ b, v = .slice (some ⟨b, 0, none⟩) l.length (l.length + 3) ∧ base ≤ b ∧ b < w.heap.size := by
  cases n with
  | zero => exact h.elim
  | succ n => obtain ⟨b, f, e, hb, hr, _⟩ := h; exact ⟨b, e, hb, hr.lt⟩
theorem Dh.rd {w : World} {base : Nat} {v : Value} {d : List UInt8} (h : Dh w base v d) (hd : d.length ≤ 700000) : Rd w v d := by
  obtain ⟨b, rfl, hb, ha⟩ := h
  have := ha.rd 0 d.length (d.length + 3) (by simp) (by omega) (by simp [maxLen]; omega)
  simpa using this
/-- It reads as a value. -/
theorem Hp.rd {w : World} {base : Nat} : ∀ (n : Nat) (v : Value) (l : List Va), Hp w base n v l → l.length ≤ 10000 → (∀ y ∈ l, FewV n y) → RdP w n v l
  | 0, _, _, h, _, _ => h.elim
  | n + 1, v, l, h, hm, hf => by
    obtain ⟨b, f, e, hb, hr, h1, h2⟩ := h
    refine ⟨some ⟨b, 0, none⟩, l.length + 3, e, by omega, by simp [maxLen]; omega, fun h0 => ⟨_, rfl, fun i t ht => ?_⟩⟩
    have hi : i < l.length := (List.getElem?_eq_some_iff.1 ht).1
    obtain ⟨g0, g1, g2, g3⟩ := h1 i t ht
    have hft := hf t (List.mem_of_getElem? ht)
    refine ⟨g0, f (i * 3 + 1), f (i * 3 + 2), ?_, ?_, ?_, g2.rd hft.1, Hp.rd n _ _ g3 hft.2.1 hft.2.2⟩
    · rw [add0]
      have k0 := hr.cell (i := i * 3) (by omega)
      rwa [g1] at k0
    · rw [add0]
      exact hr.cell (i := i * 3 + 1) (by omega)
    · rw [add0]
      exact hr.cell (i := i * 3 + 2) (by omega)
theorem Hw.rd {w : World} {base n : Nat} {nv dv pv : Value} {x : Va} (h : Hw w base n nv dv pv x) (hf : FewV (n + 1) x) : RdV w n nv dv pv x :=
  ⟨h.1, h.2.1, h.2.2.1.rd hf.1, Hp.rd n _ _ h.2.2.2 hf.2.1 hf.2.2⟩
/-- The zero of a value's cell. -/
def zv (k : Nat) : Value := if k % 3 = 0 then .int .u64 0 else .slice none 0 0
set_option maxRecDepth 100000 in
theorem val_info : (Tryz.prog.info? 32).map (fun i => (i.zero, i.size, i.bytes)) = some (some (.agg #[.int .u64 0, .slice none 0 0, .slice none 0 0]), 3, 56) := by kernel_rfl
set_option maxRecDepth 100000 in
theorem mk_vals (n : Nat) (hn : n ≤ 20000) (W : World) : ∃ W', (Instr.makeSlice 30 (.int .i64 (n : Int)) (.int .i64 (n : Int))).run Tryz.prog W = .ok (.slice (some ⟨W.heap.size, 0, none⟩) n n) W' ∧ W'.rowIs W.heap.size 32 (n * 3) zv ∧ Below W.heap.size W W' := by
  obtain ⟨i, hi, hzz⟩ := Option.map_eq_some_iff.1 val_info
  simp only [Prod.mk.injEq] at hzz
  obtain ⟨hz0, hz1, hz2⟩ := hzz
  have hr := run_make (P := Tryz.prog) W 30 32 i _ Tryz.underlying30 hi hz0 .i64 .i64 n n (by omega) (Int.le_refl _) (by rw [hz2]; omega) (by omega)
  simp only [Int.toNat_natCast, hz1] at hr
  refine ⟨_, hr, ?_, (Below.refl _ _).alloc (Nat.le_refl _) _⟩
  have := World.rowIs_alloc W (madeCells (Value.agg #[.int .u64 0, .slice none 0 0, .slice none 0 0]).cells (n * 3)) 32 zv (fun k hk => by
    rw [size_madeCells] at hk
    have hk5 : k % 3 < 3 := Nat.mod_lt _ (by omega)
    have er : (Array.range (n * 3))[k]? = some k := by simp [hk]
    simp only [madeCells, Value.cells, Array.getElem?_map, er, Option.map_some]
    congr 1
    unfold zv
    have : k % 3 = 0 ∨ k % 3 = 1 ∨ k % 3 = 2 := by omega
    rcases this with h | h | h <;> simp [h])
  rwa [size_madeCells] at this
/-- Where i of the places are done. -/
structure DoneV (w : World) (b n : Nat) (l : List Va) (i : Nat) (f : Nat → Value) : Prop where
  row : w.rowIs b 32 ((l.length + 3) * 3) f
  part : ∀ j y, l[j]? = some y → j < i → y.num < 18446744073709551616 ∧ f (j * 3) = .int .u64 y.num ∧ Dh w (b + 1) (f (j * 3 + 1)) y.data ∧ Hp w (b + 1) n (f (j * 3 + 2)) y.parts
  mark : ∀ j, l.length ≤ j → j < i → f (j * 3) = .int .u64 4711 ∧ f (j * 3 + 2) = .slice none 0 0
  rest : ∀ j, i ≤ j → j < l.length + 3 → f (j * 3 + 2) = .slice none 0 0
/-- The world where a place is laid. -/
def laid3 (w : World) (b i : Nat) (x y z : Value) : World := ((w.setCell ⟨b, i * 3, none⟩ x).setCell ⟨b, i * 3 + 1, none⟩ y).setCell ⟨b, i * 3 + 2, none⟩ z
theorem laid3_other (w : World) (b i k : Nat) (x y z : Value) (h : k ≠ b) : (laid3 w b i x y z).heap[k]? = w.heap[k]? := by
  unfold laid3
  rw [heap_setCell_other _ _ _ _ h, heap_setCell_other _ _ _ _ h, heap_setCell_other _ _ _ _ h]
theorem DoneV.step {w w7 : World} {b n i : Nat} {l : List Va} {f : Nat → Value} {y : Va} {dv pv : Value} (hd : DoneV w b n l i f) (ht : l[i]? = some y) (hy : y.num < 18446744073709551616) (hb7 : Below w.heap.size (w.setCell ⟨b, i * 3, none⟩ (.int .u64 4711)) w7) (hv : Dh w7 (b + 1) dv y.data) (hp : Hp w7 (b + 1) n pv y.parts) :
    ∃ f', DoneV (laid3 w7 b i (.int .u64 y.num) dv pv) b n l (i + 1) f' := by
  have hi : i < l.length := (List.getElem?_eq_some_iff.1 ht).1
  have hlt := hd.row.lt
  have r6 := hd.row.set (i * 3) (.int .u64 4711)
  have r7 := World.rowIs.of_block (w' := w7) r6 (hb7.block b hlt)
  have r8 := ((r7.set (i * 3) (.int .u64 y.num)).set (i * 3 + 1) dv).set (i * 3 + 2) pv
  have hk0 : ∀ k, b + 1 ≤ k → k < w.heap.size → (laid3 w7 b i (.int .u64 y.num) dv pv).heap[k]? = w.heap[k]? := fun k h1 h2 => by
    rw [laid3_other _ _ _ _ _ _ _ (by omega), hb7.block k h2, heap_setCell_other _ _ _ _ (by simp; omega)]
  have hk7 : ∀ k, b + 1 ≤ k → k < w7.heap.size → (laid3 w7 b i (.int .u64 y.num) dv pv).heap[k]? = w7.heap[k]? := fun k h1 h2 => laid3_other _ _ _ _ _ _ _ (by omega)
  refine ⟨_, r8, fun j u hu hj => ?_, fun j h1 h2 => absurd h1 (by omega), fun j h1 h2 => ?_⟩
  · by_cases hji : j = i
    · subst hji
      obtain rfl : y = u := Option.some.inj (ht.symm.trans hu)
      refine ⟨hy, by simp, ?_, ?_⟩
      · have := hv.keep hk7
        simpa using this
      · have := Hp.keep n _ _ hp hk7
        simpa using this
    · obtain ⟨g0, g1, g2, g3⟩ := hd.part j u hu (by omega)
      refine ⟨g0, ?_, ?_, ?_⟩
      · repeat rw [if_neg (by omega)]
        exact g1
      · repeat rw [if_neg (by omega)]
        exact g2.keep hk0
      · repeat rw [if_neg (by omega)]
        exact Hp.keep n _ _ g3 hk0
  · repeat rw [if_neg (by omega)]
    exact hd.rest j (by omega) h2
theorem DoneV.mark1 {w : World} {b n i : Nat} {l : List Va} {f : Nat → Value} (hd : DoneV w b n l i f) (hi : l.length ≤ i) (hi2 : i < l.length + 3) : ∃ f', DoneV (w.setCell ⟨b, i * 3, none⟩ (.int .u64 4711)) b n l (i + 1) f' := by
  have hk0 : ∀ k, b + 1 ≤ k → k < w.heap.size → (w.setCell ⟨b, i * 3, none⟩ (.int .u64 4711)).heap[k]? = w.heap[k]? := fun k h1 h2 => heap_setCell_other _ _ _ _ (by simp; omega)
  refine ⟨_, hd.row.set (i * 3) (.int .u64 4711), fun j u hu hj => ?_, fun j h1 h2 => ?_, fun j h1 h2 => ?_⟩
  · have hjl : j < l.length := (List.getElem?_eq_some_iff.1 hu).1
    obtain ⟨g0, g1, g2, g3⟩ := hd.part j u hu (by omega)
    refine ⟨g0, ?_, ?_, ?_⟩
    · rw [if_neg (by omega)]; exact g1
    · rw [if_neg (by omega)]; exact g2.keep hk0
    · rw [if_neg (by omega)]; exact Hp.keep n _ _ g3 hk0
  · by_cases hji : j = i
    · subst hji
      exact ⟨by simp, by rw [if_neg (by omega)]; exact hd.rest j (by omega) hi2⟩
    · obtain ⟨g1, g2⟩ := hd.mark j h1 (by omega)
      exact ⟨by rw [if_neg (by omega)]; exact g1, by rw [if_neg (by omega)]; exact g2⟩
  · rw [if_neg (by omega)]; exact hd.rest j (by omega) h2
theorem DoneV.hd {w : World} {b n base : Nat} {l : List Va} {f : Nat → Value} (hd : DoneV w b n l (l.length + 3) f) (hb : base ≤ b) : Hp w base (n + 1) (.slice (some ⟨b, 0, none⟩) l.length (l.length + 3)) l :=
  ⟨b, f, rfl, hb, hd.row, fun j t ht => by
    have hjl : j < l.length := (List.getElem?_eq_some_iff.1 ht).1
    obtain ⟨g0, g1, g2, g3⟩ := hd.part j t ht (by omega)
    exact ⟨g0, g1, g2.mono (by omega), Hp.mono (by omega) n _ _ g3⟩, fun j h1 h2 => hd.mark j h1 (by omega)⟩
end Go.Proofs.YtinngljphjdpoaaGreatDoor.Hv
/- A block's contents below, and beside a store: plain. -/
namespace Go.Proofs.YtinngljphjdpoaaGreatDoor.Hx
open Go Go.RowKit Go.Proofs.YtinngljphjdpoaaGreatDoor.Pa Go.Proofs.YtinngljphjdpoaaGreatDoor.Pb Go.Proofs.YtinngljphjdpoaaGreatDoor.Pc Go.Proofs.YtinngljphjdpoaaGreatDoor.Pf Go.Proofs.YtinngljphjdpoaaGreatDoor.Sc Go.Proofs.YtinngljphjdpoaaGreatDoor.Rs Go.Proofs.YtinngljphjdpoaaGreatDoor.Hs Go.Proofs.YtinngljphjdpoaaGreatDoor.Vu Go.Proofs.YtinngljphjdpoaaGreatDoor.Vo Go.Proofs.YtinngljphjdpoaaGreatDoor.Hv
set_option linter.unusedVariables false
set_option linter.unusedSimpArgs false
/-- What the bytes with marks are, k of them set. -/
theorem below_hp {w w' : World} {g : Nat} {o : Obj} (h : hp w g = some o) (hb : Below w.heap.size w w') : hp w' g = some o := by
  have hlt : g < w.heap.size := (Array.getElem?_eq_some_iff.1 h).1
  exact (hb.hp _ hlt).trans h
theorem set_hp {w : World} {g q o : Nat} {ob : Obj} {v : Value} (h : hp w g = some ob) (hne : g ≠ q) : hp (w.setCell ⟨q, o, none⟩ v) g = some ob := (hp_setCell_other _ _ _ hne).trans h
end Go.Proofs.YtinngljphjdpoaaGreatDoor.Hx
/- The reference: part. -/
namespace Go.Proofs.YtinngljphjdpoaaGreatDoor.Rr
open Go Go.RowKit Go.Proofs.YtinngljphjdpoaaGreatDoor.Pa Go.Proofs.YtinngljphjdpoaaGreatDoor.Pb Go.Proofs.YtinngljphjdpoaaGreatDoor.Pf Go.Proofs.YtinngljphjdpoaaGreatDoor.Pq Go.Proofs.YtinngljphjdpoaaGreatDoor.Sc Go.Proofs.YtinngljphjdpoaaGreatDoor.Rs Go.Proofs.YtinngljphjdpoaaGreatDoor.Vu Go.Proofs.YtinngljphjdpoaaGreatDoor.Vo Go.Proofs.YtinngljphjdpoaaGreatDoor.Rp Go.Proofs.YtinngljphjdpoaaGreatDoor.Rq Go.Proofs.YtinngljphjdpoaaGreatDoor.Hx
set_option linter.unusedVariables false
set_option linter.unusedSimpArgs false
theorem retf {f g : Flt} (h : f = g) : Ending.returned (.agg #[.int .i64 f.1, .int .i64 f.2.1, .int .i64 f.2.2]) = .returned (fl g) := by rw [h]; rfl
/-- The three boxes of part. -/
def Bx (w : World) (no kind : Int) (a b : Nat) (C : Option Addr) (m c3 : Nat) (num : Nat) (Ad : Option Addr) (dl cd : Nat) (Ap : Option Addr) (pl cp : Nat) (W : World) : Prop :=
  Below w.heap.size w W ∧ w.heap.size + 3 ≤ W.heap.size ∧ hp W w.heap.size = some (.cells #[.int .i64 no, .int .i64 kind, .int .u64 (a : Int), .int .u64 (b : Int), .slice C m c3] 117 (0, 0)) ∧
  hp W (w.heap.size + 1) = some (.cells #[.int .u64 (num : Int), .slice Ad dl cd, .slice Ap pl cp] 32 (0, 0)) ∧ hp W (w.heap.size + 2) = some (.cells #[.int .i64 0, .int .i64 0, .int .i64 0] 39 (0, 0))
theorem Bx.below {w : World} {no kind : Int} {a b : Nat} {C : Option Addr} {m c3 : Nat} {num : Nat} {Ad : Option Addr} {dl cd : Nat} {Ap : Option Addr} {pl cp : Nat} {W W' : World} (h : Bx w no kind a b C m c3 num Ad dl cd Ap pl cp W) (hb : Below W.heap.size W W') : Bx w no kind a b C m c3 num Ad dl cd Ap pl cp W' :=
  ⟨h.1.trans (hb.mono h.1.size), Nat.le_trans h.2.1 hb.size, below_hp h.2.2.1 hb, below_hp h.2.2.2.1 hb, below_hp h.2.2.2.2 hb⟩
theorem bx_new (w : World) (no kind : Int) (a b : Nat) (C : Option Addr) (m c3 : Nat) (num : Nat) (Ad : Option Addr) (dl cd : Nat) (Ap : Option Addr) (pl cp : Nat) :
    Bx w no kind a b C m c3 num Ad dl cd Ap pl cp (((w.alloc (.cells #[.int .i64 no, .int .i64 kind, .int .u64 (a : Int), .int .u64 (b : Int), .slice C m c3] 117)).alloc (.cells #[.int .u64 (num : Int), .slice Ad dl cd, .slice Ap pl cp] 32)).alloc (.cells #[.int .i64 0, .int .i64 0, .int .i64 0] 39)) := by
  have h : ∀ {w' : World} (o : Obj), Below w.heap.size w w' → Below w.heap.size w (w'.alloc o) := fun o hb => hb.alloc hb.size _
  exact ⟨h _ (h _ (h _ (Below.refl _ _))), by simp, (hp_alloc_past _ _ (by simp; omega)).trans ((hp_alloc_past _ _ (by simp)).trans (hp_alloc_at _ _ rfl)), (hp_alloc_past _ _ (by simp)).trans (hp_alloc_at _ _ (by simp)), hp_alloc_at _ _ (by simp)⟩
section
variable (n : Nat) (k m : Nat) (no : Int) (a b : Nat) (sub : List Slot) (C : Option Addr) (c3 : Nat) (x : Va) (deep : Int) (W w : World)
set_option maxHeartbeats 1000000 in
set_option maxRecDepth 100000 in
/-- part of a message's slot. -/
theorem part8 (IH : RChk n) (hs : RdS W n (.slice C sub.length c3) sub) (hok : okL k sub) (nv dv pv : Value) (hx : RdV W m nv dv pv x) (hf : FewV (m + 1) x) (hB : Below W.heap.size W w) (h0 : 0 ≤ deep) (h1 : deep + n + 1 ≤ 1000000) :
    Calls Tryz.prog 87 #[.agg #[.int .i64 no, .int .i64 8, .int .u64 (a : Int), .int .u64 (b : Int), .slice C sub.length c3], .agg #[nv, dv, pv], .int .i64 deep] w fun e w' => e = .returned (fl (partOf Lib.validD n (.mk no 8 a b sub) x deep)) ∧ Below w.heap.size w w' := by
  have hcall := fun w3 (hb : Below w.heap.size w w3) => IH k m _ nv dv pv sub x (deep + 1) W w3 hs hok hx hf (hB.trans (hb.mono hB.size)) (by omega) (by omega)
  rw [show partOf Lib.validD n (.mk no 8 a b sub) x deep = chk Vh.pF Lib.validD n sub x (deep + 1) from by simp [partOf, Slot.kind, Slot.sub]]
  obtain ⟨F, hF⟩ : ∃ F, F = chk Vh.pF Lib.validD n sub x (deep + 1) := ⟨_, rfl⟩
  rw [← hF] at hcall ⊢
  obtain ⟨hnum, rfl, hdv, hpv⟩ := hx
  obtain ⟨Ad, cd, rfl, -⟩ := hdv
  obtain ⟨Ap, cp, rfl, -⟩ := hpv.slice
  obtain ⟨f1, f2, f3⟩ := F
  unfold fl at *
  have HC := Lib.hid hcall
  have hbx := bx_new w no 8 a b C sub.length c3 x.num Ad x.data.length cd Ap x.parts.length cp
  have HBX := Lib.hid hbx
  have HD := Lib.hid (show 0 ≤ deep ∧ deep ≤ 1000000 by omega)
  clear hcall hpv hs hok hF hB IH hbx hf
  have hwr : wrap64 (deep + 1) = deep + 1 := w64 (by omega) (by omega)
  clear h1
  go_enter Tryz.func87, Tryz.ntmps87
  go_wp2_with (go_at_call 9999)
  go_at_call 61
  refine (HC.out _ HBX.out.1).mono ?_
  rintro _ w4 ⟨rfl, b4⟩
  have B4 := HBX.out.below b4
  have hz := B4.2.2.2.2
  have hzc := fun i => hp_cell hz i
  have hzf := fun i => hp_frozen hz i
  have HB4 := Lib.hid B4; have HZ := Lib.hid hz
  clear b4 B4 hz
  go_wp2_with fail
  exact ret_row Tryz.results87 Tryz.underlying39 rfl (by kernel_rfl) rfl (hp_set3 HZ.out (f1, f2, f3)) rfl ⟨rfl, below_set3 HB4.out.1 (by omega) (f1, f2, f3)⟩
set_option maxHeartbeats 1000000 in
set_option maxRecDepth 100000 in
/-- part of every slot but a message's and a list's. -/
theorem partP (kind : Int) (hb : bnd (.mk no kind a b sub) = true) (h8 : kind ≠ 8) (h9 : kind ≠ 9) (nv dv pv : Value) (hx : RdV W m nv dv pv x) (hf : FewV (m + 1) x) (hB : Below W.heap.size W w) :
    Calls Tryz.prog 87 #[.agg #[.int .i64 no, .int .i64 kind, .int .u64 (a : Int), .int .u64 (b : Int), .slice C sub.length c3], .agg #[nv, dv, pv], .int .i64 deep] w fun e w' => e = .returned (fl (partOf Lib.validD n (.mk no kind a b sub) x deep)) ∧ Below w.heap.size w w' := by
  obtain ⟨hnum, rfl, hdv, hpv⟩ := hx
  obtain ⟨Ad, cd, rfl, -⟩ := id hdv
  obtain ⟨Ap, cp, rfl, -⟩ := hpv.slice
  have hcall := fun w3 (h : Below w.heap.size w w3) => rplain no kind a b sub C Ad Ap sub.length cd cp c3 x w3 hb h8 hnum hf.2.1 hf.1 (rd_keep (hB.trans (h.mono hB.size)).block hdv)
  obtain ⟨e, he⟩ : ∃ e, e = plainOf Lib.validD (.mk no kind a b sub) x := ⟨_, rfl⟩
  rw [← he] at hcall
  have hP : partOf Lib.validD n (.mk no kind a b sub) x deep = if e ≠ 0 then (deep, no, e) else (0, 0, 0) := by
    simp [partOf, Slot.kind, Slot.no, h8, h9, ← he]
  rw [hP]
  obtain ⟨⟨r1, r2, r3⟩, hR⟩ : ∃ R : Flt, R = if e ≠ 0 then (deep, no, e) else (0, 0, 0) := ⟨_, rfl⟩
  rw [← hR]
  have HR := Lib.hid hR; clear hR
  have HC := Lib.hid hcall
  have hbx := bx_new w no kind a b C sub.length c3 x.num Ad x.data.length cd Ap x.parts.length cp
  have HBX := Lib.hid hbx
  have k8 : (kind == 8) = false := by simpa using h8
  have k9 : (kind == 9) = false := by simpa using h9
  clear hcall hpv hB hbx hf hdv hb he hP h8 h9
  go_enter Tryz.func87, Tryz.ntmps87
  go_wp2_with (go_at_call 9999)
  go_at_call 101
  refine (HC.out _ HBX.out.1).mono ?_
  rintro _ w4 ⟨rfl, b4⟩
  have B4 := HBX.out.below b4
  have hz := B4.2.2.2.2
  have hzc := fun i => hp_cell hz i
  have hzf := fun i => hp_frozen hz i
  have hsc := fun i => hp_cell B4.2.2.1 i
  have HB4 := Lib.hid B4; have HZ := Lib.hid hz
  clear b4 B4 hz
  by_cases he : e = 0
  · subst he
    have h := HR.out
    rw [if_neg (by decide)] at h
    simp only [Prod.mk.injEq] at h
    obtain ⟨rfl, rfl, rfl⟩ := h
    go_wp2_with fail
    exact ret_row Tryz.results87 Tryz.underlying39 rfl (by kernel_rfl) rfl (hp_set3 HZ.out (0, 0, 0)) rfl ⟨rfl, below_set3 HB4.out.1 (by omega) (0, 0, 0)⟩
  · have h := HR.out
    rw [if_pos he] at h
    have hez : (e != 0) = true := by simpa using he
    clear he HR
    simp only [Prod.mk.injEq] at h
    obtain ⟨rfl, rfl, rfl⟩ := h
    go_wp2_with fail
    exact ret_row Tryz.results87 Tryz.underlying39 rfl (by kernel_rfl) rfl (hp_set3 HZ.out (_, _, _)) rfl ⟨rfl, below_set3 HB4.out.1 (by omega) (_, _, _)⟩
set_option maxHeartbeats 2000000 in
set_option maxRecDepth 100000 in
/-- part of a list's slot. -/
theorem part9 (IH : RChk n) (hb : bnd (.mk no 9 a b sub) = true) (hs : RdS W n (.slice C sub.length c3) sub) (hok : okL k sub) (nv dv pv : Value) (hx : RdV W m nv dv pv x) (hf : FewV (m + 1) x) (hB : Below W.heap.size W w) (h0 : 0 ≤ deep) (h1 : deep + n + 1 ≤ 1000000) :
    Calls Tryz.prog 87 #[.agg #[.int .i64 no, .int .i64 9, .int .u64 (a : Int), .int .u64 (b : Int), .slice C sub.length c3], .agg #[nv, dv, pv], .int .i64 deep] w fun e w' => e = .returned (fl (partOf Lib.validD n (.mk no 9 a b sub) x deep)) ∧ Below w.heap.size w w' := by
  obtain ⟨hnum, rfl, hdv, hpv⟩ := hx
  obtain ⟨Ad, cd, rfl, -⟩ := id hdv
  obtain ⟨Ap, cp, rfl, -⟩ := hpv.slice
  obtain ⟨m, rfl⟩ := hpv.pos
  have hcall := fun w3 (h : Below w.heap.size w w3) => rplain no 9 a b sub C Ad Ap sub.length cd cp c3 x w3 hb (by decide) hnum hf.2.1 hf.1 (rd_keep (hB.trans (h.mono hB.size)).block hdv)
  obtain ⟨e, he⟩ : ∃ e, e = plainOf Lib.validD (.mk no 9 a b sub) x := ⟨_, rfl⟩
  rw [← he] at hcall
  have hP : partOf Lib.validD n (.mk no 9 a b sub) x deep = if e ≠ 0 then (deep, no, e) else itemsGo (fun y => chk Vh.pF Lib.validD n sub y (deep + 1)) x.parts := by
    simp [partOf, Slot.kind, Slot.no, Slot.sub, ← he]
  rw [hP]
  obtain ⟨⟨r1, r2, r3⟩, hR⟩ : ∃ R : Flt, R = if e ≠ 0 then (deep, no, e) else itemsGo (fun y => chk Vh.pF Lib.validD n sub y (deep + 1)) x.parts := ⟨_, rfl⟩
  rw [← hR]
  have HR := Lib.hid hR; clear hR
  have hck := fun (i : Nat) (hi : i < x.parts.length) (nv2 dv2 pv2 : Value) (mm : Nat) (hxx : RdV W mm nv2 dv2 pv2 x.parts[i]) (hff : FewV (mm + 1) x.parts[i]) w3 (h : Below w.heap.size w w3) => IH k mm _ nv2 dv2 pv2 sub x.parts[i] (deep + 1) W w3 hs hok hxx hff (hB.trans (h.mono hB.size)) (by omega) (by omega)
  have HCK := Lib.hid hck
  have hwr : wrap64 (deep + 1) = deep + 1 := w64 (by omega) (by omega)
  have hwr2 : IntKind.i64.wrap (deep + 1) = deep + 1 := by rw [IntKind.wrap_i64]; omega
  have HC := Lib.hid hcall
  have hbx := bx_new w no 9 a b C sub.length c3 x.num Ad x.data.length cd Ap x.parts.length cp
  have HBX := Lib.hid hbx
  have hpl : x.parts.length ≤ 10000 := hf.2.1
  have HF := Lib.hid hf.2.2
  have HPV := Lib.hid hpv; have HB := Lib.hid hB
  clear hcall hpv hB hbx hf hdv hb he hP hck hs hok IH h0 h1
  go_enter Tryz.func87, Tryz.ntmps87
  go_wp2_with (go_at_call 9999)
  go_at_call 101
  refine (HC.out _ HBX.out.1).mono ?_
  rintro _ w4 ⟨rfl, b4⟩
  have B4 := HBX.out.below b4
  have hz := B4.2.2.2.2
  have hzc := fun i => hp_cell hz i
  have hzf := fun i => hp_frozen hz i
  have hsc := fun i => hp_cell B4.2.2.1 i
  have hxc := fun i => hp_cell B4.2.2.2.1 i
  have HB4 := Lib.hid B4; have HZ := Lib.hid hz
  clear b4 B4 hz HC HBX
  by_cases he : e = 0
  · subst he
    have h := HR.out
    rw [if_neg (by decide)] at h
    have HI := Lib.hid h.symm
    clear HR h
    go_wp2_with fail
    clear hzc hzf hsc hxc
    go_loopw [8] (fun s wr => ∃ (i : Nat), i ≤ x.parts.length ∧ s = .int .i64 i ∧ itemsGo (fun y => chk Vh.pF Lib.validD n sub y (deep + 1)) (x.parts.drop i) = (r1, r2, r3) ∧ Below w4.heap.size w4 wr) (fun s _ => x.parts.length - (intOf s).toNat)
    case atStart => exact ⟨0, by omega, rfl, HI.out, Below.refl _ _⟩
    case round =>
      obtain ⟨i, hi, rfl, hit, hbw⟩ := hrel
      have BW := HB4.out.below hbw
      have hz := BW.2.2.2.2
      have hzc := fun i => hp_cell hz i
      have hzf := fun i => hp_frozen hz i
      have hsc := fun i => hp_cell BW.2.2.1 i
      have hxc := fun i => hp_cell BW.2.2.2.1 i
      have HBW := Lib.hid BW; have HIT := Lib.hid hit; have HW4 := Lib.hid hbw; have HZ := Lib.hid hz
      clear BW hit hbw hz
      by_cases hin : i < x.parts.length
      · have hbr : Below W.heap.size W wr := HB.out.trans (HBW.out.1.mono HB.out.size)
        obtain ⟨ad, rfl, dv2, pv2, g1, g2, g3, g4⟩ := HPV.out.at_ i hin
        have hca := HCK.out i hin _ dv2 pv2 m g4 (HF.out _ (List.getElem_mem hin))
        have k : ∀ a u, W.cell? a = some u → wr.cell? a = some u := fun a u hu => (World.cell?_of_block (hbr.block _ (World.block_lt_of_cell? W _ hu))).trans hu
        replace g1 := k _ _ g1; replace g2 := k _ _ g2; replace g3 := k _ _ g3
        have hst := itemsGo_drop (fun y => chk Vh.pF Lib.validD n sub y (deep + 1)) x.parts i hin
        rw [HIT.out] at hst
        generalize x.parts[i] = z at *
        obtain ⟨⟨q1, q2, q3⟩, hq⟩ : ∃ F : Flt, F = chk Vh.pF Lib.validD n sub z (deep + 1) := ⟨_, rfl⟩
        simp only [← hq] at hst hca
        obtain ⟨q, hpz⟩ : ∃ q, ad.add (i * 3) = q := ⟨_, rfl⟩
        rw [add_lit _ _ _ (by omega)] at g2 g3
        rw [hpz] at g1 g2 g3
        obtain ⟨hz1, -, hz3, hz4⟩ := id g4
        obtain ⟨Ad2, cd2, rfl, -⟩ := hz3
        obtain ⟨Ap2, cp2, rfl, -⟩ := hz4.slice
        have hcw := fun w3 (h : Below wr.heap.size wr w3) => hca w3 (HBW.out.1.trans (h.mono HBW.out.1.size))
        have HCW := Lib.hid hcw; have HST := Lib.hid hst
        have hws := HBW.out.2.1
        clear hcw hst hca g4 hz1 hz4 hbr k hq
        unfold fl at HCW
        have hqb : q.block < wr.heap.size := World.block_lt_of_cell? wr _ g1
        have n1 : ¬ q.block = wr.heap.size := by omega
        have n2 : ¬ wr.heap.size = q.block := by omega
        have n3 : ¬ w.heap.size = wr.heap.size := by omega
        have n4 : ¬ wr.heap.size = w.heap.size := by omega
        have n5 : ¬ w.heap.size + 1 = wr.heap.size := by omega
        have n6 : ¬ wr.heap.size = w.heap.size + 1 := by omega
        have n7 : w.heap.size + 1 < wr.heap.size := by omega
        have n8 : w.heap.size < wr.heap.size := by omega
        have e5 : ∀ i, ((wr.alloc (.cells #[.int .i64 0, .int .i64 0, .int .i64 0] 39))).cell? ⟨w.heap.size + 1, i, none⟩ = (#[.int .u64 (x.num : Int), .slice Ad x.data.length cd, .slice (some ad) x.parts.length cp] : Array Value)[i]? := fun i => by rw [World.cell?_alloc_lt _ _ _ (by simpa using n7)]; exact hxc i
        go_upto_region 10 with fail
        go_cut [9] from 32 to 52 (fun p wx => ∃ g, p = .pointer (some ⟨g, 0, none⟩) ∧ hp wx g = some (.cells #[.int .i64 q1, .int .i64 q2, .int .i64 q3] 39 (0, 0)) ∧ Below wr.heap.size wr wx ∧ wr.heap.size ≤ g)
        case first =>
          go_region_with (go_at_call 61; (try rw [hwr2]); refine (HCW.out _ (by first | exact (Below.refl _ _).drew | exact ((Below.refl _ _).alloc (by simp) _).drew)).mono ?_; rintro _ w6 ⟨rfl, b6⟩; (first | (have hza := (b6.hp wr.heap.size (by simp)).trans (hp_alloc_at _ _ rfl); have hzac := fun i => hp_cell hza i; have hzaf := fun i => hp_frozen hza i; have HZA := Lib.hid hza; clear hza; have HB6 := Lib.hid (show Below wr.heap.size wr w6 from (((Below.refl _ _).alloc (Nat.le_refl _) _).drew).trans (b6.mono (by simp)))) | (have HB6 := Lib.hid (show Below wr.heap.size wr w6 from (Below.refl _ _).drew.trans (b6.mono (by simp))))); clear b6)
          all_goals
            go_wp2_with fail
            go_meet
            first | exact ⟨_, rfl, hp_set3 HZA.out (q1, q2, q3), below_set3 HB6.out (Nat.le_refl _) (q1, q2, q3), Nat.le_refl _⟩ | exact ⟨_, rfl, hp_alloc_at _ _ rfl, HB6.out.alloc HB6.out.size _, HB6.out.size⟩
        case rest =>
          obtain ⟨g, rfl, hg, hb6, hge⟩ := hcut
          have hgc := fun i => hp_cell hg i
          have B6 := HBW.out.below hb6
          have hz := B6.2.2.2.2
          have hzc := fun i => hp_cell hz i
          have hzf := fun i => hp_frozen hz i
          have HB6 := Lib.hid B6; have HZ6 := Lib.hid hz; have HW6 := Lib.hid (HW4.out.trans (hb6.mono HW4.out.size))
          clear hb6 B6 hz HZ g1 g2 g3 hsc hxc e5 hg
          by_cases hq3 : q3 = 0
          · subst hq3
            have hnx := HST.out
            rw [if_neg (by decide)] at hnx
            have HNX := Lib.hid hnx.symm
            clear hnx HST HIT
            go_wp2_with fail
            go_roundw
            case rel => exact ⟨i + 1, by omega, by go_num, HNX.out, HW6.out⟩
            case measure => simp [intOf]; omega
          · have hnx := HST.out
            rw [if_pos hq3] at hnx
            have hqz : (q3 != 0) = true := by simpa using hq3
            clear hq3 HST HIT HI
            simp only [Prod.mk.injEq] at hnx
            obtain ⟨rfl, rfl, rfl⟩ := hnx
            go_wp2_with fail
            exact ret_row Tryz.results87 Tryz.underlying39 rfl (by kernel_rfl) rfl (hp_set3 HZ6.out (_, _, _)) rfl ⟨rfl, below_set3 HB6.out.1 (by omega) (_, _, _)⟩
      · obtain rfl : i = x.parts.length := by omega
        have hfin := HIT.out
        rw [List.drop_length] at hfin
        have hfin2 : (0, 0, 0) = ((r1, r2, r3) : Flt) := hfin
        simp only [Prod.mk.injEq] at hfin2
        obtain ⟨rfl, rfl, rfl⟩ := hfin2
        clear hfin HIT HI
        go_wp2_with fail
        exact ret_row Tryz.results87 Tryz.underlying39 rfl (by kernel_rfl) rfl (hp_set3 HZ.out (0, 0, 0)) rfl ⟨rfl, below_set3 HBW.out.1 (by omega) (0, 0, 0)⟩
  · have h := HR.out
    rw [if_pos he] at h
    have hez : (e != 0) = true := by simpa using he
    clear he HR HCK HF HPV
    simp only [Prod.mk.injEq] at h
    obtain ⟨rfl, rfl, rfl⟩ := h
    go_wp2_with fail
    exact ret_row Tryz.results87 Tryz.underlying39 rfl (by kernel_rfl) rfl (hp_set3 HZ.out (_, _, _)) rfl ⟨rfl, below_set3 HB4.out.1 (by omega) (_, _, _)⟩
end
end Go.Proofs.YtinngljphjdpoaaGreatDoor.Rr
