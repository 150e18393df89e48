/- append onto a slice without room, which is only read. No program in sight. -/
import Derived.Test.YtjlhicopinhiaaaDoorPf
namespace Go.Proofs.YtjlhicopinhiaaaDoor.Pr
open Go Go.RowKit Go.Proofs.YtjlhicopinhiaaaDoor.Pa Go.Proofs.YtjlhicopinhiaaaDoor.Pb Go.Proofs.YtjlhicopinhiaaaDoor.Pc Go.Proofs.YtjlhicopinhiaaaDoor.Pf
set_option linter.unusedVariables false
set_option linter.unusedSimpArgs false

theorem rd_new (w : World) (E : TypeId) (l : List UInt8) (z : Array Value) (c : Nat) (hc : l.length ≤ c) (hm : c ≤ maxLen) : Rd (w.drew.alloc (.cells ((cb l).toArray ++ z) E)) (.slice (some ⟨w.heap.size, 0, none⟩) l.length c) l := by
  refine ⟨_, c, rfl, hc, hm, fun _ => ⟨_, rfl, fun j u hu => ?_⟩⟩
  have hadd : (⟨w.heap.size, 0, none⟩ : Addr).add j = ⟨w.heap.size, j, none⟩ := by unfold Addr.add; split <;> simp_all
  have hj := (List.getElem?_eq_some_iff.1 hu).1
  have hh : hp (w.drew.alloc (.cells ((cb l).toArray ++ z) E)) w.heap.size = some (.cells ((cb l).toArray ++ z) E (0, 0)) := hp_alloc_at _ _ rfl
  rw [hadd, hp_cell hh, Array.getElem?_append_left (by simpa using hj)]
  simpa using hu
theorem run_full {P : Program} {T E : TypeId} (hU : U8 P T E) (ty : TypeId) {w : World} {A : Option Addr} {x : Value} {l m : List UInt8} (hv : Rd w (.slice A l.length l.length) l) (hx : Rd w x m) (hl : l.length + m.length ≤ 140737488355328) :
    ∃ v' w', (Builtin.append_ #[T, T] ty #[.slice A l.length l.length, x]).run P w = .ok v' w' ∧ Rd w' v' (l ++ m) ∧ Below w.heap.size w w' ∧ (v' = .slice A l.length l.length ∨ v'.ownBlock = some w.heap.size) := by
  obtain ⟨i, hi, hzz⟩ := Option.map_eq_some_iff.1 hU.info
  simp only [Prod.mk.injEq] at hzz
  obtain ⟨hz0, hz1, hz2⟩ := hzz
  obtain ⟨X, c, rfl, hlc, hcm, hc⟩ := hx
  rcases Nat.eq_zero_or_pos m.length with h0 | h0
  · obtain rfl : m = [] := List.eq_nil_of_length_eq_zero h0
    refine ⟨_, w, ?_, by simpa using hv, Below.refl _ _, .inl rfl⟩
    cases A <;> cases X <;> simp [Builtin.append_, run_underlying hU.sl, sizeOf, typeInfo, hi, Builtin.lenOf, Builtin.firstCells, storeCells, loadCells, loadCellsFrom, hz1]
  · obtain ⟨ad, rfl, hn⟩ := hc h0
    have hb : Below w.heap.size w (w.drew.alloc (.cells ((cb (l ++ m)).toArray ++ Builtin.zeroCells (Value.int .u8 0).cells (grownCap w (l.length + m.length) l.length E - (l.length + m.length))) E)) := (Below.refl _ w).drew.alloc (Nat.le_refl _) _
    have hge := grownCap_ge w (l.length + m.length) l.length E
    have hle := grownCap_le_maxLen w (l.length + m.length) l.length E (by simp only [maxLen]; omega)
    have hr := rd_new w E (l ++ m) (Builtin.zeroCells (Value.int .u8 0).cells (grownCap w (l.length + m.length) l.length E - (l.length + m.length))) (grownCap w (l.length + m.length) l.length E) (by simpa using hge) hle
    rw [List.length_append] at hr
    cases A with
    | none =>
      have hl0 : l = [] := by
        rcases l with _ | ⟨b, l'⟩
        · rfl
        · obtain ⟨A', c', e, _, _, h3⟩ := hv
          obtain ⟨ad', e', _⟩ := h3 (by simp)
          simp only [Value.slice.injEq] at e
          rw [← e.1] at e'; cases e'
      subst hl0
      have hq := run_append_nil (P := P) (w := w) T ty E i (.int .u8 0) hU.sl hi hz0 ad m.length c (cb m) (by simp [hz1]) hn h0 (by omega) (by rw [hz2]; omega)
      simp only [List.length_nil, Nat.zero_add, List.nil_append] at hr hb ⊢
      exact ⟨_, _, hq, hr, hb, .inr rfl⟩
    | some b =>
      have ho : ∀ j u, (cb l)[j]? = some u → w.cell? (b.add j) = some u := by
        intro j u hu
        obtain ⟨A', c', e, _, _, h3⟩ := hv
        have hj := (List.getElem?_eq_some_iff.1 hu).1
        simp at hj
        obtain ⟨ad', e', h4⟩ := h3 (by omega)
        simp only [Value.slice.injEq] at e
        rw [← e.1] at e'; cases e'
        exact h4 j u hu
      have hq := run_append_grow (P := P) (w := w) T ty E i (.int .u8 0) hU.sl hi hz0 b l.length l.length (cb l) (by simp [hz1]) ho ad m.length c (cb m) (by simp [hz1]) hn (by omega) (by omega) (growslice_fits (by omega) (by rw [hz2]; omega))
      have e : (cb l).toArray ++ (cb m).toArray = (cb (l ++ m)).toArray := by simp
      rw [e] at hq
      exact ⟨_, _, hq, hr, hb, .inr rfl⟩
end Go.Proofs.YtjlhicopinhiaaaDoor.Pr
