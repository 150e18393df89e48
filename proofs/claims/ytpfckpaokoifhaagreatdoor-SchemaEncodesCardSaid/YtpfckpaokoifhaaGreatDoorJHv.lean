/- handValue: a value in memory of its own. -/
import Derived.Test.YtpfckpaokoifhaaGreatDoorJVk
import Derived.Test.YtpfckpaokoifhaaGreatDoorJPf
import Derived.Deep.OwnRows
namespace Go.Proofs.YtpfckpaokoifhaaGreatDoor.Hv
open Go Go.RowKit Go.Proofs.YtpfckpaokoifhaaGreatDoor.Pa Go.Proofs.YtpfckpaokoifhaaGreatDoor.Pb Go.Proofs.YtpfckpaokoifhaaGreatDoor.Pc Go.Proofs.YtpfckpaokoifhaaGreatDoor.Pf Go.Proofs.YtpfckpaokoifhaaGreatDoor.Sc Go.Proofs.YtpfckpaokoifhaaGreatDoor.Rs Go.Proofs.YtpfckpaokoifhaaGreatDoor.Hs Go.Proofs.YtpfckpaokoifhaaGreatDoor.Vu Go.Proofs.YtpfckpaokoifhaaGreatDoor.Vo
set_option linter.unusedVariables false
set_option linter.unusedSimpArgs false
/-- A slice with the bytes d in a block of its own from base on, marks behind. -/
def Dh (w : World) (base : Nat) (v : Value) (d : List UInt8) : Prop := ∃ b, v = .slice (some ⟨b, 0, none⟩) d.length (d.length + 3) ∧ base ≤ b ∧ Arr w b 5 (d ++ [7, 8, 9])
/-- The slice v holds the values l in blocks of its own from base on, each list with marks behind it. -/
def Hp (w : World) (base : Nat) : Nat → Value → List Va → Prop
  | 0, _, _ => False
  | n + 1, v, l => ∃ (b : Nat) (f : Nat → Value), v = .slice (some ⟨b, 0, none⟩) l.length (l.length + 3) ∧ base ≤ b ∧ w.rowIs b 27 ((l.length + 3) * 3) f ∧
      (∀ j y, l[j]? = some y → y.num < 18446744073709551616 ∧ f (j * 3) = .int .u64 y.num ∧ Dh w base (f (j * 3 + 1)) y.data ∧ Hp w base n (f (j * 3 + 2)) y.parts) ∧
      (∀ j, l.length ≤ j → j < l.length + 3 → f (j * 3) = .int .u64 4711 ∧ f (j * 3 + 2) = .slice none 0 0)
/-- A value of the call's own. -/
def Hw (w : World) (base n : Nat) (nv dv pv : Value) (x : Va) : Prop := x.num < 18446744073709551616 ∧ nv = .int .u64 x.num ∧ Dh w base dv x.data ∧ Hp w base n pv x.parts
theorem Dh.keep {w w' : World} {base : Nat} {v : Value} {d : List UInt8} (h : Dh w base v d) (hk : ∀ k, base ≤ k → k < w.heap.size → w'.heap[k]? = w.heap[k]?) : Dh w' base v d := by
  obtain ⟨b, e, hb, ha⟩ := h
  exact ⟨b, e, hb, (hk b hb ha.lt).trans ha⟩
theorem Dh.mono {w : World} {base base' : Nat} (hb : base' ≤ base) {v : Value} {d : List UInt8} (h : Dh w base v d) : Dh w base' v d := by
  obtain ⟨b, e, h1, ha⟩ := h
  exact ⟨b, e, by omega, ha⟩
theorem Hp.keep {w w' : World} {base : Nat} : ∀ (n : Nat) (v : Value) (l : List Va), Hp w base n v l → (∀ k, base ≤ k → k < w.heap.size → w'.heap[k]? = w.heap[k]?) → Hp w' base n v l
  | 0, _, _, h, _ => h.elim
  | n + 1, v, l, h, hk => by
    obtain ⟨b, f, e, hb, hr, h1, h2⟩ := h
    exact ⟨b, f, e, hb, hr.of_block (hk b hb hr.lt), fun j t ht => by obtain ⟨g0, g1, g2, g3⟩ := h1 j t ht; exact ⟨g0, g1, g2.keep hk, Hp.keep n _ _ g3 hk⟩, h2⟩
theorem Hp.mono {w : World} {base base' : Nat} (hb : base' ≤ base) : ∀ (n : Nat) (v : Value) (l : List Va), Hp w base n v l → Hp w base' n v l
  | 0, _, _, h => h.elim
  | n + 1, v, l, h => by
    obtain ⟨b, f, e, hb', hr, h1, h2⟩ := h
    exact ⟨b, f, e, by omega, hr, fun j t ht => by obtain ⟨g0, g1, g2, g3⟩ := h1 j t ht; exact ⟨g0, g1, g2.mono hb, Hp.mono hb n _ _ g3⟩, h2⟩
theorem Hw.keep {w w' : World} {base n : Nat} {nv dv pv : Value} {x : Va} (h : Hw w base n nv dv pv x) (hk : ∀ k, base ≤ k → k < w.heap.size → w'.heap[k]? = w.heap[k]?) : Hw w' base n nv dv pv x := ⟨h.1, h.2.1, h.2.2.1.keep hk, Hp.keep n _ _ h.2.2.2 hk⟩
theorem Hw.below {w w' : World} {base n : Nat} {nv dv pv : Value} {x : Va} (h : Hw w base n nv dv pv x) (hb : Below w.heap.size w w') : Hw w' base n nv dv pv x := h.keep (fun k _ hk => hb.block k hk)
theorem Hp.slice {w : World} {base n : Nat} {v : Value} {l : List Va} (h : Hp w base n v l) : ∃ b, v = .slice (some ⟨b, 0, none⟩) l.length (l.length + 3) ∧ base ≤ b ∧ b < w.heap.size := by
  cases n with
  | zero => exact h.elim
  | succ n => obtain ⟨b, f, e, hb, hr, _⟩ := h; exact ⟨b, e, hb, hr.lt⟩
theorem Dh.rd {w : World} {base : Nat} {v : Value} {d : List UInt8} (h : Dh w base v d) (hd : d.length ≤ 700000) : Rd w v d := by
  obtain ⟨b, rfl, hb, ha⟩ := h
  have := ha.rd 0 d.length (d.length + 3) (by simp) (by omega) (by simp [maxLen]; omega)
  simpa using this
/-- It reads as a value. -/
theorem Hp.rd {w : World} {base : Nat} : ∀ (n : Nat) (v : Value) (l : List Va), Hp w base n v l → l.length ≤ 10000 → (∀ y ∈ l, FewV n y) → RdP w n v l
  | 0, _, _, h, _, _ => h.elim
  | n + 1, v, l, h, hm, hf => by
    obtain ⟨b, f, e, hb, hr, h1, h2⟩ := h
    refine ⟨some ⟨b, 0, none⟩, l.length + 3, e, by omega, by simp [maxLen]; omega, fun h0 => ⟨_, rfl, fun i t ht => ?_⟩⟩
    have hi : i < l.length := (List.getElem?_eq_some_iff.1 ht).1
    obtain ⟨g0, g1, g2, g3⟩ := h1 i t ht
    have hft := hf t (List.mem_of_getElem? ht)
    refine ⟨g0, f (i * 3 + 1), f (i * 3 + 2), ?_, ?_, ?_, g2.rd hft.1, Hp.rd n _ _ g3 hft.2.1 hft.2.2⟩
    · rw [add0]
      have k0 := hr.cell (i := i * 3) (by omega)
      rwa [g1] at k0
    · rw [add0]
      exact hr.cell (i := i * 3 + 1) (by omega)
    · rw [add0]
      exact hr.cell (i := i * 3 + 2) (by omega)
theorem Hw.rd {w : World} {base n : Nat} {nv dv pv : Value} {x : Va} (h : Hw w base n nv dv pv x) (hf : FewV (n + 1) x) : RdV w n nv dv pv x :=
  ⟨h.1, h.2.1, h.2.2.1.rd hf.1, Hp.rd n _ _ h.2.2.2 hf.2.1 hf.2.2⟩
/-- The zero of a value's cell. -/
def zv (k : Nat) : Value := if k % 3 = 0 then .int .u64 0 else .slice none 0 0
set_option maxRecDepth 100000 in
theorem val_info : (Tryz.prog.info? 27).map (fun i => (i.zero, i.size, i.bytes)) = some (some (.agg #[.int .u64 0, .slice none 0 0, .slice none 0 0]), 3, 56) := by kernel_rfl
set_option maxRecDepth 100000 in
theorem mk_vals (n : Nat) (hn : n ≤ 20000) (W : World) : ∃ W', (Instr.makeSlice 25 (.int .i64 (n : Int)) (.int .i64 (n : Int))).run Tryz.prog W = .ok (.slice (some ⟨W.heap.size, 0, none⟩) n n) W' ∧ W'.rowIs W.heap.size 27 (n * 3) zv ∧ Below W.heap.size W W' := by
  obtain ⟨i, hi, hzz⟩ := Option.map_eq_some_iff.1 val_info
  simp only [Prod.mk.injEq] at hzz
  obtain ⟨hz0, hz1, hz2⟩ := hzz
  have hr := run_make (P := Tryz.prog) W 25 27 i _ Tryz.underlying25 hi hz0 .i64 .i64 n n (by omega) (Int.le_refl _) (by rw [hz2]; omega) (by omega)
  simp only [Int.toNat_natCast, hz1] at hr
  refine ⟨_, hr, ?_, (Below.refl _ _).alloc (Nat.le_refl _) _⟩
  have := World.rowIs_alloc W (madeCells (Value.agg #[.int .u64 0, .slice none 0 0, .slice none 0 0]).cells (n * 3)) 27 zv (fun k hk => by
    rw [size_madeCells] at hk
    have hk5 : k % 3 < 3 := Nat.mod_lt _ (by omega)
    have er : (Array.range (n * 3))[k]? = some k := by simp [hk]
    simp only [madeCells, Value.cells, Array.getElem?_map, er, Option.map_some]
    congr 1
    unfold zv
    have : k % 3 = 0 ∨ k % 3 = 1 ∨ k % 3 = 2 := by omega
    rcases this with h | h | h <;> simp [h])
  rwa [size_madeCells] at this
/-- Where i of the places are done. -/
structure DoneV (w : World) (b n : Nat) (l : List Va) (i : Nat) (f : Nat → Value) : Prop where
  row : w.rowIs b 27 ((l.length + 3) * 3) f
  part : ∀ j y, l[j]? = some y → j < i → y.num < 18446744073709551616 ∧ f (j * 3) = .int .u64 y.num ∧ Dh w (b + 1) (f (j * 3 + 1)) y.data ∧ Hp w (b + 1) n (f (j * 3 + 2)) y.parts
  mark : ∀ j, l.length ≤ j → j < i → f (j * 3) = .int .u64 4711 ∧ f (j * 3 + 2) = .slice none 0 0
  rest : ∀ j, i ≤ j → j < l.length + 3 → f (j * 3 + 2) = .slice none 0 0
/-- The world where a place is laid. -/
def laid3 (w : World) (b i : Nat) (x y z : Value) : World := ((w.setCell ⟨b, i * 3, none⟩ x).setCell ⟨b, i * 3 + 1, none⟩ y).setCell ⟨b, i * 3 + 2, none⟩ z
theorem laid3_other (w : World) (b i k : Nat) (x y z : Value) (h : k ≠ b) : (laid3 w b i x y z).heap[k]? = w.heap[k]? := by
  unfold laid3
  rw [heap_setCell_other _ _ _ _ h, heap_setCell_other _ _ _ _ h, heap_setCell_other _ _ _ _ h]
theorem DoneV.step {w w7 : World} {b n i : Nat} {l : List Va} {f : Nat → Value} {y : Va} {dv pv : Value} (hd : DoneV w b n l i f) (ht : l[i]? = some y) (hy : y.num < 18446744073709551616) (hb7 : Below w.heap.size (w.setCell ⟨b, i * 3, none⟩ (.int .u64 4711)) w7) (hv : Dh w7 (b + 1) dv y.data) (hp : Hp w7 (b + 1) n pv y.parts) :
    ∃ f', DoneV (laid3 w7 b i (.int .u64 y.num) dv pv) b n l (i + 1) f' := by
  have hi : i < l.length := (List.getElem?_eq_some_iff.1 ht).1
  have hlt := hd.row.lt
  have r6 := hd.row.set (i * 3) (.int .u64 4711)
  have r7 := World.rowIs.of_block (w' := w7) r6 (hb7.block b hlt)
  have r8 := ((r7.set (i * 3) (.int .u64 y.num)).set (i * 3 + 1) dv).set (i * 3 + 2) pv
  have hk0 : ∀ k, b + 1 ≤ k → k < w.heap.size → (laid3 w7 b i (.int .u64 y.num) dv pv).heap[k]? = w.heap[k]? := fun k h1 h2 => by
    rw [laid3_other _ _ _ _ _ _ _ (by omega), hb7.block k h2, heap_setCell_other _ _ _ _ (by simp; omega)]
  have hk7 : ∀ k, b + 1 ≤ k → k < w7.heap.size → (laid3 w7 b i (.int .u64 y.num) dv pv).heap[k]? = w7.heap[k]? := fun k h1 h2 => laid3_other _ _ _ _ _ _ _ (by omega)
  refine ⟨_, r8, fun j u hu hj => ?_, fun j h1 h2 => absurd h1 (by omega), fun j h1 h2 => ?_⟩
  · by_cases hji : j = i
    · subst hji
      obtain rfl : y = u := Option.some.inj (ht.symm.trans hu)
      refine ⟨hy, by simp, ?_, ?_⟩
      · have := hv.keep hk7
        simpa using this
      · have := Hp.keep n _ _ hp hk7
        simpa using this
    · obtain ⟨g0, g1, g2, g3⟩ := hd.part j u hu (by omega)
      refine ⟨g0, ?_, ?_, ?_⟩
      · repeat rw [if_neg (by omega)]
        exact g1
      · repeat rw [if_neg (by omega)]
        exact g2.keep hk0
      · repeat rw [if_neg (by omega)]
        exact Hp.keep n _ _ g3 hk0
  · repeat rw [if_neg (by omega)]
    exact hd.rest j (by omega) h2
theorem DoneV.mark1 {w : World} {b n i : Nat} {l : List Va} {f : Nat → Value} (hd : DoneV w b n l i f) (hi : l.length ≤ i) (hi2 : i < l.length + 3) : ∃ f', DoneV (w.setCell ⟨b, i * 3, none⟩ (.int .u64 4711)) b n l (i + 1) f' := by
  have hk0 : ∀ k, b + 1 ≤ k → k < w.heap.size → (w.setCell ⟨b, i * 3, none⟩ (.int .u64 4711)).heap[k]? = w.heap[k]? := fun k h1 h2 => heap_setCell_other _ _ _ _ (by simp; omega)
  refine ⟨_, hd.row.set (i * 3) (.int .u64 4711), fun j u hu hj => ?_, fun j h1 h2 => ?_, fun j h1 h2 => ?_⟩
  · have hjl : j < l.length := (List.getElem?_eq_some_iff.1 hu).1
    obtain ⟨g0, g1, g2, g3⟩ := hd.part j u hu (by omega)
    refine ⟨g0, ?_, ?_, ?_⟩
    · rw [if_neg (by omega)]; exact g1
    · rw [if_neg (by omega)]; exact g2.keep hk0
    · rw [if_neg (by omega)]; exact Hp.keep n _ _ g3 hk0
  · by_cases hji : j = i
    · subst hji
      exact ⟨by simp, by rw [if_neg (by omega)]; exact hd.rest j (by omega) hi2⟩
    · obtain ⟨g1, g2⟩ := hd.mark j h1 (by omega)
      exact ⟨by rw [if_neg (by omega)]; exact g1, by rw [if_neg (by omega)]; exact g2⟩
  · rw [if_neg (by omega)]; exact hd.rest j (by omega) h2
theorem DoneV.hd {w : World} {b n base : Nat} {l : List Va} {f : Nat → Value} (hd : DoneV w b n l (l.length + 3) f) (hb : base ≤ b) : Hp w base (n + 1) (.slice (some ⟨b, 0, none⟩) l.length (l.length + 3)) l :=
  ⟨b, f, rfl, hb, hd.row, fun j t ht => by
    have hjl : j < l.length := (List.getElem?_eq_some_iff.1 ht).1
    obtain ⟨g0, g1, g2, g3⟩ := hd.part j t ht (by omega)
    exact ⟨g0, g1, g2.mono (by omega), Hp.mono (by omega) n _ _ g3⟩, fun j h1 h2 => hd.mark j h1 (by omega)⟩
end Go.Proofs.YtpfckpaokoifhaaGreatDoor.Hv
