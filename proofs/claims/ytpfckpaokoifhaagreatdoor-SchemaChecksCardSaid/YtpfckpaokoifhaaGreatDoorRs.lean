/- Slices of slots in memory: what reads as a schema; such an argument opened. No program in sight; no conditions. -/
import Derived.Test.YtpfckpaokoifhaaGreatDoorSc
import Derived.Test.YtpfckpaokoifhaaGreatDoorPf
import Derived.Test.YtpfckpaokoifhaaGreatDoorPl
import Derived.Deep.Slices
import Derived.Deep.Fields
import Derived.ChangeSame
namespace Go.Proofs.YtpfckpaokoifhaaGreatDoor.Rs
open Go Go.RowKit Go.ChangeShapes Go.WideShapes Go.Deep Go.Proofs.YtpfckpaokoifhaaGreatDoor.Pa Go.Proofs.YtpfckpaokoifhaaGreatDoor.Pb Go.Proofs.YtpfckpaokoifhaaGreatDoor.Pf Go.Proofs.YtpfckpaokoifhaaGreatDoor.Sc
set_option linter.unusedVariables false
set_option linter.unusedSimpArgs false

/-- The five cells of a slot at an address. -/
structure SlotAt (w : World) (p : Addr) (t : Slot) (sv : Value) : Prop where
  no : w.cell? p = some (.int .i64 t.no)
  kind : w.cell? ⟨p.block, p.off + 1, none⟩ = some (.int .i64 t.kind)
  least : w.cell? ⟨p.block, p.off + 2, none⟩ = some (.int .u64 t.least)
  most : w.cell? ⟨p.block, p.off + 3, none⟩ = some (.int .u64 t.most)
  sub : w.cell? ⟨p.block, p.off + 4, none⟩ = some sv
/-- The numbers are such as their types have. -/
structure WfS (t : Slot) : Prop where
  no1 : -9223372036854775808 ≤ t.no
  no2 : t.no ≤ 9223372036854775807
  kind1 : -9223372036854775808 ≤ t.kind
  kind2 : t.kind ≤ 9223372036854775807
  least : t.least < 18446744073709551616
  most : t.most < 18446744073709551616
/-- The slice value v reads as the slots l, less than n levels deep. -/
def RdS (w : World) : Nat → Value → List Slot → Prop
  | 0, _, _ => False
  | n + 1, v, l => ∃ (A : Option Addr) (c : Nat), v = .slice A l.length c ∧ l.length ≤ c ∧ c ≤ maxLen ∧
      (0 < l.length → ∃ ad, A = some ad ∧ ∀ i t, l[i]? = some t → WfS t ∧ ∃ sv, SlotAt w (ad.add (i * 5)) t sv ∧ RdS w n sv t.sub)

section
variable {w w' : World} {n : Nat} {v : Value} {l : List Slot}
theorem block_add (a : Addr) (n : Nat) : (a.add n).block = a.block := by unfold Addr.add; split <;> rfl
theorem SlotAt.keep {p : Addr} {t : Slot} {sv : Value} (h : SlotAt w p t sv) (hk : w'.heap[p.block]? = w.heap[p.block]?) : SlotAt w' p t sv := by
  have k : ∀ q : Addr, q.block = p.block → w'.cell? q = w.cell? q := fun q hq => World.cell?_of_block (by rw [hq]; exact hk)
  exact ⟨(k p rfl).trans h.no, (k ⟨p.block, p.off + 1, none⟩ rfl).trans h.kind, (k ⟨p.block, p.off + 2, none⟩ rfl).trans h.least, (k ⟨p.block, p.off + 3, none⟩ rfl).trans h.most, (k ⟨p.block, p.off + 4, none⟩ rfl).trans h.sub⟩
theorem SlotAt.lt {p : Addr} {t : Slot} {sv : Value} (h : SlotAt w p t sv) : p.block < w.heap.size := World.block_lt_of_cell? w _ h.no
theorem add_lit (a : Addr) (i j : Nat) (hj : 0 < j) : a.add (i + j) = ⟨(a.add i).block, (a.add i).off + j, none⟩ := by
  rw [← Go.Deep.add_add]
  generalize a.add i = p
  unfold Addr.add
  rw [if_neg (by omega)]
/-- All that is read lies in blocks of which nothing turned. -/
theorem RdS.keep : ∀ (n : Nat) (v : Value) (l : List Slot), RdS w n v l → (∀ k, k < w.heap.size → w'.heap[k]? = w.heap[k]?) → RdS w' n v l
  | 0, _, _, h, _ => h.elim
  | n + 1, v, l, h, hk => by
    obtain ⟨A, c, e, h1, h2, h3⟩ := h
    refine ⟨A, c, e, h1, h2, fun h0 => ?_⟩
    obtain ⟨ad, ha, hc⟩ := h3 h0
    refine ⟨ad, ha, fun i t ht => ?_⟩
    obtain ⟨hw, sv, hs, hr⟩ := hc i t ht
    exact ⟨hw, sv, hs.keep (hk _ hs.lt), RdS.keep n sv t.sub hr hk⟩
theorem RdS.below (h : RdS w n v l) (hb : Below w.heap.size w w') : RdS w' n v l := RdS.keep n v l h hb.block
theorem RdS.slice (h : RdS w n v l) : ∃ A c, v = .slice A l.length c ∧ l.length ≤ c ∧ c ≤ maxLen := by
  cases n with
  | zero => exact h.elim
  | succ n => obtain ⟨A, c, e, h1, h2, _⟩ := h; exact ⟨A, c, e, h1, h2⟩
theorem RdS.at_ {A : Option Addr} {m c : Nat} (h : RdS w (n + 1) (.slice A m c) l) (i : Nat) (hi : i < l.length) : ∃ ad, A = some ad ∧ WfS l[i] ∧ ∃ sv, SlotAt w (ad.add (i * 5)) l[i] sv ∧ RdS w n sv l[i].sub := by
  obtain ⟨A', c', e, h1, h2, h3⟩ := h
  simp only [Value.slice.injEq] at e
  obtain ⟨rfl, rfl, rfl⟩ := e
  obtain ⟨ad, ha, hc⟩ := h3 (by omega)
  exact ⟨ad, ha, hc i _ (by simp [hi])⟩
theorem RdS.pos (h : RdS w n v l) : ∃ m, n = m + 1 := by
  cases n with
  | zero => exact h.elim
  | succ n => exact ⟨n, rfl⟩
theorem RdS.nil (w : World) (n : Nat) : RdS w (n + 1) (.slice none 0 0) [] := ⟨none, 0, rfl, by simp, by simp [maxLen], fun h => absurd h (by simp)⟩
end

section
variable {H : Type} {enc : TypeId × Value → H} {P : Program} {w : World} {base : Nat} {spare : Nat → Bool} {held : Bool}
theorem open_slice_fields {t e : TypeId} {fs : Array Field} {fuel : Nat} {cs : List Value} {x : DataW H × List MemPlace} (ht : P.underlying t = some (.slice e)) (he : P.underlying e = some (.struct fs))
    (hone : oneCellFields P fs = true) (hC : P.cellsOf e = fs.size) (h : DataW.trod enc P w base spare held (fuel + 1) t cs = some x) :
    (cs = [.slice none 0 0] ∧ x = (.nil, [])) ∨
    ∃ (a : Addr) (len cap : Nat), cs = [.slice (some a) len cap] ∧ len ≤ cap ∧ cap ≤ maxLen ∧
      ∀ i, i < len → ∃ (n : Nat), n ≤ fuel ∧
        ∀ (j : Nat) (f : Field), fs[j]? = some f → ∃ (v : Value) (y : DataW H × List MemPlace), w.cell? (a.add (i * fs.size + j)) = some v ∧ DataW.trod enc P w base spare held n f.type [v] = some y := by
  rcases DataW.trod_slice ht h with h0 | ⟨a, len, cap, elems, rest, n, hn, rfl, rfl, hb, hl, hm, hlen, hel, hsp, hns⟩
  · exact .inl h0
  · refine .inr ⟨a, len, cap, rfl, hl, hm, fun i hi => ?_⟩
    have key := hel i hi
    rw [List.getElem?_eq_getElem (by omega)] at key
    obtain ⟨cs', hc, ht'⟩ := Option.bind_eq_some_iff.1 key
    rw [hC] at hc
    obtain ⟨ys, n', hn', hy, hlen', hyl, hf⟩ := DataW.trod_struct he ht'
    obtain ⟨_, hcl, hat⟩ := World.cells?_some hc
    refine ⟨n', by omega, fun j f hj => ?_⟩
    obtain ⟨ho, hk⟩ := hone_of hone j f hj
    have hjl : j < fs.size := (Array.getElem?_eq_some_iff.1 hj).1
    have hcell := hat j hjl
    have hv : cs'[j]? = some (cs'[j]'(by omega)) := List.getElem?_eq_getElem (by omega)
    have h1 := hf j f hj
    rw [ho, hk] at h1
    have hone' : (cs'.drop j).take 1 = [cs'[j]'(by omega)] := by
      rw [List.drop_eq_getElem_cons (by omega)]
      rfl
    rw [hone'] at h1
    have hys : ys[j]? = some (ys[j]'(by omega)) := List.getElem?_eq_getElem (by omega)
    refine ⟨_, _, ?_, h1.trans hys⟩
    rw [← Go.Deep.add_add, hcell, hv]
/-- What a program must say of the type of slots. -/
structure TS (P : Program) (T E I U : TypeId) : Prop where
  sl : P.underlying T = some (.slice E)
  st : ∃ fs, P.underlying E = some (.struct fs) ∧ oneCellFields P fs = true ∧ fs.map (·.type) = #[I, I, U, U, T]
  i : P.underlying I = some (.int .i64)
  u : P.underlying U = some (.int .u64)
  c : P.cellsOf E = 5
theorem RdS.mono {w : World} : ∀ (n m : Nat) (v : Value) (l : List Slot), n ≤ m → RdS w n v l → RdS w m v l
  | 0, _, _, _, _, h => h.elim
  | n + 1, 0, _, _, h, _ => absurd h (by omega)
  | n + 1, m + 1, v, l, hm, h => by
    obtain ⟨A, c, e, h1, h2, h3⟩ := h
    refine ⟨A, c, e, h1, h2, fun h0 => ?_⟩
    obtain ⟨ad, ha, hc⟩ := h3 h0
    refine ⟨ad, ha, fun i t ht => ?_⟩
    obtain ⟨hw, sv, hs, hr⟩ := hc i t ht
    exact ⟨hw, sv, hs, RdS.mono n m sv t.sub (by omega) hr⟩
/-- An argument that is a schema: it reads as slots. -/
theorem open_slots {T E I U : TypeId} (hT : TS P T E I U) : ∀ (fuel : Nat) (v : Value) (x : DataW H × List MemPlace), DataW.trod enc P w base spare held fuel T [v] = some x → ∃ l, RdS w fuel v l := by
  intro fuel
  induction fuel using Nat.strongRecOn with
  | _ fuel ih =>
    intro v x h
    cases fuel with
    | zero => simp [DataW.trod] at h
    | succ fuel =>
      obtain ⟨fs, hu, hone, hty⟩ := hT.st
      have hsz : fs.size = 5 := by have := congrArg Array.size hty; simpa using this
      have tyAt : ∀ j (hj : j < 5), (fs[j]'(by omega)).type = (#[I, I, U, U, T] : Array TypeId)[j]'hj := by
        intro j hj
        have h1 : (fs.map (·.type))[j]'(by simp; omega) = (#[I, I, U, U, T] : Array TypeId)[j]'hj := by simp only [hty]
        simpa using h1
      rcases open_slice_fields hT.sl hu hone (by rw [hT.c, hsz]) h with ⟨e, _⟩ | ⟨a, len, cap, e, h1, h2, h3⟩
      · obtain rfl : v = .slice none 0 0 := by simpa using e
        exact ⟨[], RdS.nil w fuel⟩
      · obtain rfl : v = .slice (some a) len cap := by simpa using e
        have hi : ∀ i, i < len → ∃ t, WfS t ∧ ∃ sv, SlotAt w (a.add (i * 5)) t sv ∧ RdS w fuel sv t.sub := by
          intro i hi
          obtain ⟨n, hn, hf⟩ := h3 i hi
          rw [hsz] at hf
          obtain ⟨v0, y0, c0, t0⟩ := hf 0 _ (Array.getElem?_eq_getElem (by omega))
          obtain ⟨v1, y1, c1, t1⟩ := hf 1 _ (Array.getElem?_eq_getElem (by omega))
          obtain ⟨v2, y2, c2, t2⟩ := hf 2 _ (Array.getElem?_eq_getElem (by omega))
          obtain ⟨v3, y3, c3, t3⟩ := hf 3 _ (Array.getElem?_eq_getElem (by omega))
          obtain ⟨v4, y4, c4, t4⟩ := hf 4 _ (Array.getElem?_eq_getElem (by omega))
          rw [Nat.add_zero] at c0
          rw [add_lit _ _ _ (by omega)] at c1 c2 c3 c4
          rw [tyAt 0 (by omega)] at t0
          rw [tyAt 1 (by omega)] at t1
          rw [tyAt 2 (by omega)] at t2
          rw [tyAt 3 (by omega)] at t3
          rw [tyAt 4 (by omega)] at t4
          obtain ⟨z0, e0, _, w0⟩ := DataW.trod_int hT.i t0
          obtain ⟨z1, e1, _, w1⟩ := DataW.trod_int hT.i t1
          obtain ⟨z2, e2, _, w2⟩ := DataW.trod_int hT.u t2
          obtain ⟨z3, e3, _, w3⟩ := DataW.trod_int hT.u t3
          obtain rfl : v0 = .int .i64 z0 := by simpa using e0
          obtain rfl : v1 = .int .i64 z1 := by simpa using e1
          obtain rfl : v2 = .int .u64 z2 := by simpa using e2
          obtain rfl : v3 = .int .u64 z3 := by simpa using e3
          obtain ⟨l, hl⟩ := ih n (by omega) v4 y4 t4
          have b0 := bounds_i64 w0
          have b1 := bounds_i64 w1
          have b2 := bounds_u64 w2
          have b3 := bounds_u64 w3
          obtain ⟨m2, rfl⟩ := Int.eq_ofNat_of_zero_le b2.1
          obtain ⟨m3, rfl⟩ := Int.eq_ofNat_of_zero_le b3.1
          exact ⟨.mk z0 z1 m2 m3 l, ⟨b0.1, b0.2, b1.1, b1.2, by have := b2.2; simp only [Slot.least]; omega, by have := b3.2; simp only [Slot.most]; omega⟩, v4, ⟨c0, c1, c2, c3, c4⟩, RdS.mono n fuel v4 l (by omega) hl⟩
        obtain ⟨f, hf⟩ := choose_lt (α := Slot) (p := fun i t => WfS t ∧ ∃ sv, SlotAt w (a.add (i * 5)) t sv ∧ RdS w fuel sv t.sub) hi
        refine ⟨(List.range len).map f, some a, cap, by simp, by simpa using h1, h2, fun _ => ⟨a, rfl, fun i t ht => ?_⟩⟩
        have hil : i < len := by
          have := (List.getElem?_eq_some_iff.1 ht).1
          simpa using this
        have : t = f i := by
          simp [List.getElem?_map, List.getElem?_range hil] at ht
          exact ht.symm
        subst this
        exact hf i hil
/-- An argument that is a schema, from its reading. -/
theorem open_schema {T E I U : TypeId} (hT : TS P T E I U) {v : Value} {d : DataW H} {ps : List MemPlace} {r : Reach} {b0 : Nat} (hv : Value.okWide P w r b0 T v) (h : DataW.Trod enc P w base spare held T v d ps) : ∃ n l, RdS w n v l := by
  obtain ⟨a, len, cap, rfl⟩ := okWide_slice hT.sl hv
  obtain ⟨fuel, hf⟩ := h
  obtain ⟨l, hl⟩ := open_slots hT fuel _ _ hf
  exact ⟨fuel, l, hl⟩
end
end Go.Proofs.YtpfckpaokoifhaaGreatDoor.Rs
