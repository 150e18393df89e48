/- An argument that is a value, opened; how large a value is. No program in sight; no conditions. -/
import Derived.Test.YtinngljphjdpoaaGreatDoorJUw
import Derived.Test.YtinngljphjdpoaaGreatDoorJPl
import Derived.Deep.OwnRows
import Derived.Test.YtinngljphjdpoaaGreatDoorJVi
import Derived.Recover
import Derived.Test.YtinngljphjdpoaaGreatDoorJRp
import Derived.BigRegion
import Derived.Deep.RegionWith
namespace Go.Proofs.YtinngljphjdpoaaGreatDoor.Vo
open Go Go.RowKit Go.ChangeShapes Go.WideShapes Go.Deep Go.Proofs.YtinngljphjdpoaaGreatDoor.Pa Go.Proofs.YtinngljphjdpoaaGreatDoor.Pb Go.Proofs.YtinngljphjdpoaaGreatDoor.Pf Go.Proofs.YtinngljphjdpoaaGreatDoor.Sc Go.Proofs.YtinngljphjdpoaaGreatDoor.Rs Go.Proofs.YtinngljphjdpoaaGreatDoor.Vu
set_option linter.unusedVariables false
set_option linter.unusedSimpArgs false
instance : Inhabited Va := ⟨.mk 0 [] []⟩
section
variable {H : Type} {enc : TypeId × Value → H} {P : Program} {w : World} {base : Nat} {spare : Nat → Bool} {held : Bool}
/-- What a program must say of the type of values. -/
structure TV (P : Program) (T E U D B : TypeId) : Prop where
  sl : P.underlying T = some (.slice E)
  st : ∃ fs, P.underlying E = some (.struct fs) ∧ oneCellFields P fs = true ∧ fs.map (·.type) = #[U, D, T]
  u : P.underlying U = some (.int .u64)
  d : P.underlying D = some (.slice B)
  b : P.underlying B = some (.int .u8)
  cb : P.cellsOf B = 1
  c : P.cellsOf E = 3
theorem open_data {D B : TypeId} (hd : P.underlying D = some (.slice B)) (hb : P.underlying B = some (.int .u8)) (hc : P.cellsOf B = 1) {fuel : Nat} {v : Value} {x : DataW H × List MemPlace} (h : DataW.trod enc P w base spare held fuel D [v] = some x) :
    ∃ l : List UInt8, Rd w v l := by
  rcases open_ints hd hb hc h with ⟨hcs, _⟩ | ⟨x, n, c, zs, hcs, _, hl, hm, hz, hx, hcell, hwf⟩
  · obtain rfl : v = .slice none 0 0 := by simpa using hcs
    exact ⟨[], Rd.nil w⟩
  · obtain rfl : v = .slice (some x) n c := by simpa using hcs
    have hlz : n ≤ zs.length := by rw [hz]; split <;> omega
    refine ⟨(zs.take n).map fun z => UInt8.ofNat z.toNat, ⟨some x, c, by simp [Nat.min_eq_left hlz], by simp; omega, hm, fun _ => ⟨x, rfl, fun i u hu => ?_⟩⟩⟩
    have hi : i < n := by
      have := (List.getElem?_eq_some_iff.1 hu).1
      simp at this
      omega
    have hcl := hcell i (by omega)
    rw [hcl, ← hu]
    have hiz : i < zs.length := by omega
    have hw := bounds_u8 (hwf zs[i] (List.getElem_mem hiz))
    simp only [cb, List.map_map, List.getElem?_map, List.getElem?_take, if_pos hi, List.getElem?_eq_getElem hiz, Option.map_some, Function.comp_apply, List.getD_eq_getElem?_getD, Option.getD_some]
    congr 2
    have : (UInt8.ofNat (zs[i]).toNat).toNat = (zs[i]).toNat := by simp; omega
    rw [this]
    omega
theorem RdP.mono {w : World} : ∀ (n m : Nat) (v : Value) (l : List Va), n ≤ m → RdP w n v l → RdP w m v l
  | 0, _, _, _, _, h => h.elim
  | n + 1, 0, _, _, h, _ => absurd h (by omega)
  | n + 1, m + 1, v, l, hm, h => by
    obtain ⟨A, c, e, h1, h2, h3⟩ := h
    refine ⟨A, c, e, h1, h2, fun h0 => ?_⟩
    obtain ⟨ad, ha, hc⟩ := h3 h0
    refine ⟨ad, ha, fun i t ht => ?_⟩
    obtain ⟨g0, dv, pv, g1, g2, g3, g4, g5⟩ := hc i t ht
    exact ⟨g0, dv, pv, g1, g2, g3, g4, RdP.mono n m pv t.parts (by omega) g5⟩
/-- Parts read as values. -/
theorem open_parts {T E U D B : TypeId} (hT : TV P T E U D B) : ∀ (fuel : Nat) (v : Value) (x : DataW H × List MemPlace), DataW.trod enc P w base spare held fuel T [v] = some x → ∃ l, RdP w fuel v l := by
  intro fuel
  induction fuel using Nat.strongRecOn with
  | _ fuel ih =>
    intro v x h
    cases fuel with
    | zero => simp [DataW.trod] at h
    | succ fuel =>
      obtain ⟨fs, hu, hone, hty⟩ := hT.st
      have hsz : fs.size = 3 := by have := congrArg Array.size hty; simpa using this
      have tyAt : ∀ j (hj : j < 3), (fs[j]'(by omega)).type = (#[U, D, T] : Array TypeId)[j]'hj := by
        intro j hj
        have h1 : (fs.map (·.type))[j]'(by simp; omega) = (#[U, D, T] : Array TypeId)[j]'hj := by simp only [hty]
        simpa using h1
      rcases open_slice_fields hT.sl hu hone (by rw [hT.c, hsz]) h with ⟨e, _⟩ | ⟨a, len, cap, e, h1, h2, h3⟩
      · obtain rfl : v = .slice none 0 0 := by simpa using e
        exact ⟨[], none, 0, rfl, by simp, by simp [maxLen], fun h => absurd h (by simp)⟩
      · obtain rfl : v = .slice (some a) len cap := by simpa using e
        have hi : ∀ i, i < len → ∃ t : Va, t.num < 18446744073709551616 ∧ ∃ dv pv, w.cell? (a.add (i * 3)) = some (.int .u64 t.num) ∧ w.cell? (a.add (i * 3 + 1)) = some dv ∧ w.cell? (a.add (i * 3 + 2)) = some pv ∧ Rd w dv t.data ∧ RdP w fuel pv t.parts := by
          intro i hi
          obtain ⟨n, hn, hf⟩ := h3 i hi
          rw [hsz] at hf
          obtain ⟨v0, y0, c0, t0⟩ := hf 0 _ (Array.getElem?_eq_getElem (by omega))
          obtain ⟨v1, y1, c1, t1⟩ := hf 1 _ (Array.getElem?_eq_getElem (by omega))
          obtain ⟨v2, y2, c2, t2⟩ := hf 2 _ (Array.getElem?_eq_getElem (by omega))
          rw [Nat.add_zero] at c0
          rw [tyAt 0 (by omega)] at t0
          rw [tyAt 1 (by omega)] at t1
          rw [tyAt 2 (by omega)] at t2
          obtain ⟨z0, e0, _, w0⟩ := DataW.trod_int hT.u t0
          obtain rfl : v0 = .int .u64 z0 := by simpa using e0
          have b0 := bounds_u64 w0
          obtain ⟨m0, rfl⟩ := Int.eq_ofNat_of_zero_le b0.1
          obtain ⟨dl, hdl⟩ := open_data hT.d hT.b hT.cb t1
          obtain ⟨l, hl⟩ := ih n (by omega) v2 y2 t2
          exact ⟨.mk m0 dl l, by have := b0.2; simp only [Va.num]; omega, v1, v2, c0, c1, c2, hdl, RdP.mono n fuel v2 l (by omega) hl⟩
        obtain ⟨f, hf⟩ := choose_lt (α := Va) (p := fun i t => t.num < 18446744073709551616 ∧ ∃ dv pv, w.cell? (a.add (i * 3)) = some (.int .u64 t.num) ∧ w.cell? (a.add (i * 3 + 1)) = some dv ∧ w.cell? (a.add (i * 3 + 2)) = some pv ∧ Rd w dv t.data ∧ RdP w fuel pv t.parts) hi
        refine ⟨(List.range len).map f, some a, cap, by simp, by simpa using h1, h2, fun _ => ⟨a, rfl, fun i t ht => ?_⟩⟩
        have hil : i < len := by
          have := (List.getElem?_eq_some_iff.1 ht).1
          simpa using this
        have : t = f i := by
          simp [List.getElem?_map, List.getElem?_range hil] at ht
          exact ht.symm
        subst this
        exact hf i hil
/-- An argument that is a value. -/
theorem open_value {T E U D B : TypeId} (hT : TV P T E U D B) {v : Value} {d : DataW H} {ps : List MemPlace} {r : Reach} {b0 : Nat} (hv : Value.okWide P w r b0 E v) (h : DataW.Trod enc P w base spare held E v d ps) :
    ∃ n nv dv pv x, v = .agg #[nv, dv, pv] ∧ RdV w n nv dv pv x := by
  obtain ⟨fuel, hf⟩ := h
  obtain ⟨fs, hu, hone, hty⟩ := hT.st
  have hsz : fs.size = 3 := by have := congrArg Array.size hty; simpa using this
  have tyAt : ∀ j (hj : j < 3), (fs[j]'(by omega)).type = (#[U, D, T] : Array TypeId)[j]'hj := by
    intro j hj
    have h1 : (fs.map (·.type))[j]'(by simp; omega) = (#[U, D, T] : Array TypeId)[j]'hj := by simp only [hty]
    simpa using h1
  obtain ⟨cs, rfl⟩ : ∃ cs, v = .agg cs := by
    simp only [Value.okWide, hu] at hv
    obtain ⟨cs, h1, _⟩ := hv
    exact ⟨cs, h1⟩
  obtain ⟨ys, n', hn', hy, hlen, hyl, hff⟩ := DataW.trod_struct hu hf
  rw [hT.c] at hlen
  have hlen' : cs.size = 3 := by simpa [Value.cells] using hlen
  obtain ⟨nv, dv, pv, rfl⟩ : ∃ nv dv pv, cs = #[nv, dv, pv] := ⟨cs[0], cs[1], cs[2], by
    apply Array.ext
    · simp [hlen']
    · intro i h1 h2
      have : i = 0 ∨ i = 1 ∨ i = 2 := by simp at h2; omega
      rcases this with rfl | rfl | rfl <;> rfl⟩
  have at_ : ∀ j (hj : j < 3), ∃ y : DataW H × List MemPlace, DataW.trod enc P w base spare held n' ((#[U, D, T] : Array TypeId)[j]'hj) [(#[nv, dv, pv] : Array Value)[j]'hj] = some y := by
    intro j hj
    obtain ⟨ho, hk⟩ := hone_of hone j _ (Array.getElem?_eq_getElem (by omega))
    have h1 := hff j _ (Array.getElem?_eq_getElem (by omega))
    rw [ho, hk, tyAt j hj] at h1
    have hjy : j < ys.length := by omega
    refine ⟨ys[j], ?_⟩
    rw [List.getElem?_eq_getElem hjy] at h1
    rw [← h1]
    congr 1
    have : j = 0 ∨ j = 1 ∨ j = 2 := by omega
    rcases this with rfl | rfl | rfl <;> rfl
  obtain ⟨y0, t0⟩ := at_ 0 (by omega)
  obtain ⟨y1, t1⟩ := at_ 1 (by omega)
  obtain ⟨y2, t2⟩ := at_ 2 (by omega)
  obtain ⟨z0, e0, _, w0⟩ := DataW.trod_int hT.u t0
  obtain rfl : nv = .int .u64 z0 := by simpa using e0
  have b0 := bounds_u64 w0
  obtain ⟨m0, rfl⟩ := Int.eq_ofNat_of_zero_le b0.1
  obtain ⟨dl, hdl⟩ := open_data hT.d hT.b hT.cb t1
  obtain ⟨l, hl⟩ := open_parts hT n' pv y2 t2
  exact ⟨n', _, dv, pv, .mk m0 dl l, rfl, by have := b0.2; simp only [Va.num]; omega, rfl, hdl, hl⟩
end
/-! ### How large a value is -/
/-- What valueLeft leaves. -/
def vlGo (f : Va → Int → Int) : List Va → Int → Int
  | [], left => left
  | y :: p, left => if left < 0 then left else vlGo f p (f y left)
def vl : Nat → Va → Int → Int
  | 0, _, left => left
  | n + 1, x, left => vlGo (vl n) x.parts (left - 1 - ((x.data.length / 64 : Nat) : Int))
theorem vlGo_neg (f : Va → Int → Int) : ∀ (p : List Va) (left : Int), left < 0 → vlGo f p left = left
  | [], _, _ => rfl
  | _ :: _, left, h => by simp [vlGo, h]
theorem vlGo_drop (f : Va → Int → Int) (p : List Va) (i : Nat) (left : Int) (hi : i < p.length) (h : 0 ≤ left) : vlGo f (p.drop i) left = vlGo f (p.drop (i + 1)) (f p[i] left) := by
  rw [List.drop_eq_getElem_cons hi]
  simp only [vlGo]
  rw [if_neg (by omega)]
theorem vlGo_le (f : Va → Int → Int) (hf : ∀ y l, f y l ≤ l) : ∀ (p : List Va) (left : Int), vlGo f p left ≤ left
  | [], left => Int.le_refl _
  | y :: p, left => by
    simp only [vlGo]
    split
    · omega
    · have := vlGo_le f hf p (f y left); have := hf y left; omega
theorem vl_le : ∀ (n : Nat) (x : Va) (left : Int), vl n x left ≤ left
  | 0, _, left => Int.le_refl _
  | n + 1, x, left => by
    have := vlGo_le (vl n) (vl_le n) x.parts (left - 1 - ((x.data.length / 64 : Nat) : Int))
    unfold vl; omega
/-- Such a value has but so much of each, less than n levels deep. -/
def FewV : Nat → Va → Prop
  | 0, _ => False
  | n + 1, x => x.data.length ≤ 5000000 ∧ x.parts.length ≤ 10000 ∧ ∀ y ∈ x.parts, FewV n y
theorem vlGo_few (f : Va → Int → Int) (hf : ∀ y l, f y l ≤ l - 1) : ∀ (p : List Va) (left : Int), 0 ≤ vlGo f p left → (p.length : Int) ≤ left ∧ ∀ y ∈ p, ∃ q : Int, q ≤ left ∧ 0 ≤ f y q
  | [], left, h => by simp [vlGo] at h; exact ⟨by simpa using h, by simp⟩
  | y :: p, left, h => by
    simp only [vlGo] at h
    split at h
    · omega
    · obtain ⟨h1, h2⟩ := vlGo_few f hf p _ h
      have h3 := hf y left
      refine ⟨by simp; omega, fun z hz => ?_⟩
      rcases List.mem_cons.1 hz with rfl | hz
      · exact ⟨left, Int.le_refl _, by omega⟩
      · obtain ⟨q, hq, h0⟩ := h2 z hz
        exact ⟨q, by omega, h0⟩
/-- How deep a value's parts go. -/
def lv : Nat → Va → Prop
  | 0, _ => False
  | n + 1, x => ∀ y ∈ x.parts, lv n y
theorem vl_lt (n : Nat) (x : Va) (left : Int) : vl (n + 1) x left ≤ left - 1 := by
  have := vlGo_le (vl n) (vl_le n) x.parts (left - 1 - ((x.data.length / 64 : Nat) : Int))
  unfold vl; omega
theorem vlGo_few2 (f : Va → Int → Int) (p : List Va) (hf : ∀ y ∈ p, ∀ l, f y l ≤ l - 1) (left : Int) (h : 0 ≤ vlGo f p left) : (p.length : Int) ≤ left ∧ ∀ y ∈ p, ∃ q : Int, q ≤ left ∧ 0 ≤ f y q := by
  induction p generalizing left with
  | nil => simp [vlGo] at h; exact ⟨by simpa using h, by simp⟩
  | cons y p ih =>
    simp only [vlGo] at h
    split at h
    · omega
    · obtain ⟨h1, h2⟩ := ih (fun z hz => hf z (by simp [hz])) _ h
      have h3 := hf y (by simp) left
      refine ⟨by simp; omega, fun z hz => ?_⟩
      rcases List.mem_cons.1 hz with rfl | hz
      · exact ⟨left, Int.le_refl _, by omega⟩
      · obtain ⟨q, hq, h0⟩ := h2 z hz
        exact ⟨q, by omega, h0⟩
theorem RdP.lv {w : World} : ∀ (n : Nat) (v : Value) (l : List Va), RdP w n v l → ∀ y ∈ l, lv n y
  | 0, _, _, h => h.elim
  | n + 1, v, l, h => fun y hy => by
    obtain ⟨A, c, e, h1, h2, h3⟩ := h
    obtain ⟨i, hi, rfl⟩ := List.getElem_of_mem hy
    obtain ⟨ad, ha, hc⟩ := h3 (by omega)
    obtain ⟨g0, dv, pv, g1, g2, g3, g4, g5⟩ := hc i l[i] (by simp [hi])
    exact RdP.lv n pv _ g5
theorem few_of : ∀ (n : Nat) (x : Va) (left : Int), lv n x → left ≤ 10001 → 0 ≤ vl n x left → FewV n x
  | 0, _, _, h, _, _ => h.elim
  | n + 1, x, left, hl, h1, h2 => by
    unfold vl at h2
    have hpos : ∀ y ∈ x.parts, ∀ l, vl n y l ≤ l - 1 := by
      intro y hy l
      have := hl y hy
      cases n with
      | zero => exact this.elim
      | succ n => exact vl_lt n y l
    obtain ⟨h3, h4⟩ := vlGo_few2 (vl n) x.parts hpos _ h2
    refine ⟨by omega, by omega, fun y hy => ?_⟩
    obtain ⟨q, hq, h0⟩ := h4 y hy
    exact few_of n y q (hl y hy) (by omega) h0
end Go.Proofs.YtinngljphjdpoaaGreatDoor.Vo
/- handValue: a value in memory of its own. -/
namespace Go.Proofs.YtinngljphjdpoaaGreatDoor.Hv
open Go Go.RowKit Go.Proofs.YtinngljphjdpoaaGreatDoor.Pa Go.Proofs.YtinngljphjdpoaaGreatDoor.Pb Go.Proofs.YtinngljphjdpoaaGreatDoor.Pc Go.Proofs.YtinngljphjdpoaaGreatDoor.Pf Go.Proofs.YtinngljphjdpoaaGreatDoor.Sc Go.Proofs.YtinngljphjdpoaaGreatDoor.Rs Go.Proofs.YtinngljphjdpoaaGreatDoor.Hs Go.Proofs.YtinngljphjdpoaaGreatDoor.Vu Go.Proofs.YtinngljphjdpoaaGreatDoor.Vo
set_option linter.unusedVariables false
set_option linter.unusedSimpArgs false
/-- A slice with the bytes d in a block of its own from base on, marks behind. -/
def Dh (w : World) (base : Nat) (v : Value) (d : List UInt8) : Prop := ∃ b, v = .slice (some ⟨b, 0, none⟩) d.length (d.length + 3) ∧ base ≤ b ∧ Arr w b 5 (d ++ [7, 8, 9])
/-- The slice v holds the values l in blocks of its own from base on, each list with marks behind it. -/
def Hp (w : World) (base : Nat) : Nat → Value → List Va → Prop
  | 0, _, _ => False
  | n + 1, v, l => ∃ (b : Nat) (f : Nat → Value), v = .slice (some ⟨b, 0, none⟩) l.length (l.length + 3) ∧ base ≤ b ∧ w.rowIs b 32 ((l.length + 3) * 3) f ∧
      (∀ j y, l[j]? = some y → y.num < 18446744073709551616 ∧ f (j * 3) = .int .u64 y.num ∧ Dh w base (f (j * 3 + 1)) y.data ∧ Hp w base n (f (j * 3 + 2)) y.parts) ∧
      (∀ j, l.length ≤ j → j < l.length + 3 → f (j * 3) = .int .u64 4711 ∧ f (j * 3 + 2) = .slice none 0 0)
/-- A value of the call's own. -/
def Hw (w : World) (base n : Nat) (nv dv pv : Value) (x : Va) : Prop := x.num < 18446744073709551616 ∧ nv = .int .u64 x.num ∧ Dh w base dv x.data ∧ Hp w base n pv x.parts
theorem Dh.keep {w w' : World} {base : Nat} {v : Value} {d : List UInt8} (h : Dh w base v d) (hk : ∀ k, base ≤ k → k < w.heap.size → w'.heap[k]? = w.heap[k]?) : Dh w' base v d := by
  obtain ⟨b, e, hb, ha⟩ := h
  exact ⟨b, e, hb, (hk b hb ha.lt).trans ha⟩
theorem Dh.mono {w : World} {base base' : Nat} (hb : base' ≤ base) {v : Value} {d : List UInt8} (h : Dh w base v d) : Dh w base' v d := by
  obtain ⟨b, e, h1, ha⟩ := h
  exact ⟨b, e, by omega, ha⟩
theorem Hp.keep {w w' : World} {base : Nat} : ∀ (n : Nat) (v : Value) (l : List Va), Hp w base n v l → (∀ k, base ≤ k → k < w.heap.size → w'.heap[k]? = w.heap[k]?) → Hp w' base n v l
  | 0, _, _, h, _ => h.elim
  | n + 1, v, l, h, hk => by
    obtain ⟨b, f, e, hb, hr, h1, h2⟩ := h
    exact ⟨b, f, e, hb, hr.of_block (hk b hb hr.lt), fun j t ht => by obtain ⟨g0, g1, g2, g3⟩ := h1 j t ht; exact ⟨g0, g1, g2.keep hk, Hp.keep n _ _ g3 hk⟩, h2⟩
theorem Hp.mono {w : World} {base base' : Nat} (hb : base' ≤ base) : ∀ (n : Nat) (v : Value) (l : List Va), Hp w base n v l → Hp w base' n v l
  | 0, _, _, h => h.elim
  | n + 1, v, l, h => by
    obtain ⟨b, f, e, hb', hr, h1, h2⟩ := h
    exact ⟨b, f, e, by omega, hr, fun j t ht => by obtain ⟨g0, g1, g2, g3⟩ := h1 j t ht; exact ⟨g0, g1, g2.mono hb, Hp.mono hb n _ _ g3⟩, h2⟩
theorem Hw.keep {w w' : World} {base n : Nat} {nv dv pv : Value} {x : Va} (h : Hw w base n nv dv pv x) (hk : ∀ k, base ≤ k → k < w.heap.size → w'.heap[k]? = w.heap[k]?) : Hw w' base n nv dv pv x := ⟨h.1, h.2.1, h.2.2.1.keep hk, Hp.keep n _ _ h.2.2.2 hk⟩
theorem Hw.below {w w' : World} {base n : Nat} {nv dv pv : Value} {x : Va} (h : Hw w base n nv dv pv x) (hb : Below w.heap.size w w') : Hw w' base n nv dv pv x := h.keep (fun k _ hk => hb.block k hk)
theorem Hp.slice {w : World} {base n : Nat} {v : Value} {l : List Va} (h : Hp w base n v l) : ∃ b, v = .slice (some ⟨b, 0, none⟩) l.length (l.length + 3) ∧ base ≤ b ∧ b < w.heap.size := by
  cases n with
  | zero => exact h.elim
  | succ n => obtain ⟨b, f, e, hb, hr, _⟩ := h; exact ⟨b, e, hb, hr.lt⟩
theorem Dh.rd {w : World} {base : Nat} {v : Value} {d : List UInt8} (h : Dh w base v d) (hd : d.length ≤ 5000000) : Rd w v d := by
  obtain ⟨b, rfl, hb, ha⟩ := h
  have := ha.rd 0 d.length (d.length + 3) (by simp) (by omega) (by simp [maxLen]; omega)
  simpa using this
/-- It reads as a value. -/
theorem Hp.rd {w : World} {base : Nat} : ∀ (n : Nat) (v : Value) (l : List Va), Hp w base n v l → l.length ≤ 10000 → (∀ y ∈ l, FewV n y) → RdP w n v l
  | 0, _, _, h, _, _ => h.elim
  | n + 1, v, l, h, hm, hf => by
    obtain ⟨b, f, e, hb, hr, h1, h2⟩ := h
    refine ⟨some ⟨b, 0, none⟩, l.length + 3, e, by omega, by simp [maxLen]; omega, fun h0 => ⟨_, rfl, fun i t ht => ?_⟩⟩
    have hi : i < l.length := (List.getElem?_eq_some_iff.1 ht).1
    obtain ⟨g0, g1, g2, g3⟩ := h1 i t ht
    have hft := hf t (List.mem_of_getElem? ht)
    refine ⟨g0, f (i * 3 + 1), f (i * 3 + 2), ?_, ?_, ?_, g2.rd hft.1, Hp.rd n _ _ g3 hft.2.1 hft.2.2⟩
    · rw [add0]
      have k0 := hr.cell (i := i * 3) (by omega)
      rwa [g1] at k0
    · rw [add0]
      exact hr.cell (i := i * 3 + 1) (by omega)
    · rw [add0]
      exact hr.cell (i := i * 3 + 2) (by omega)
theorem Hw.rd {w : World} {base n : Nat} {nv dv pv : Value} {x : Va} (h : Hw w base n nv dv pv x) (hf : FewV (n + 1) x) : RdV w n nv dv pv x :=
  ⟨h.1, h.2.1, h.2.2.1.rd hf.1, Hp.rd n _ _ h.2.2.2 hf.2.1 hf.2.2⟩
/-- The zero of a value's cell. -/
def zv (k : Nat) : Value := if k % 3 = 0 then .int .u64 0 else .slice none 0 0
set_option maxRecDepth 100000 in
theorem val_info : (Tryz.prog.info? 32).map (fun i => (i.zero, i.size, i.bytes)) = some (some (.agg #[.int .u64 0, .slice none 0 0, .slice none 0 0]), 3, 56) := by kernel_rfl
set_option maxRecDepth 100000 in
theorem mk_vals (n : Nat) (hn : n ≤ 20000) (W : World) : ∃ W', (Instr.makeSlice 30 (.int .i64 (n : Int)) (.int .i64 (n : Int))).run Tryz.prog W = .ok (.slice (some ⟨W.heap.size, 0, none⟩) n n) W' ∧ W'.rowIs W.heap.size 32 (n * 3) zv ∧ Below W.heap.size W W' := by
  obtain ⟨i, hi, hzz⟩ := Option.map_eq_some_iff.1 val_info
  simp only [Prod.mk.injEq] at hzz
  obtain ⟨hz0, hz1, hz2⟩ := hzz
  have hr := run_make (P := Tryz.prog) W 30 32 i _ Tryz.underlying30 hi hz0 .i64 .i64 n n (by omega) (Int.le_refl _) (by rw [hz2]; omega) (by omega)
  simp only [Int.toNat_natCast, hz1] at hr
  refine ⟨_, hr, ?_, (Below.refl _ _).alloc (Nat.le_refl _) _⟩
  have := World.rowIs_alloc W (madeCells (Value.agg #[.int .u64 0, .slice none 0 0, .slice none 0 0]).cells (n * 3)) 32 zv (fun k hk => by
    rw [size_madeCells] at hk
    have hk5 : k % 3 < 3 := Nat.mod_lt _ (by omega)
    have er : (Array.range (n * 3))[k]? = some k := by simp [hk]
    simp only [madeCells, Value.cells, Array.getElem?_map, er, Option.map_some]
    congr 1
    unfold zv
    have : k % 3 = 0 ∨ k % 3 = 1 ∨ k % 3 = 2 := by omega
    rcases this with h | h | h <;> simp [h])
  rwa [size_madeCells] at this
/-- Where i of the places are done. -/
structure DoneV (w : World) (b n : Nat) (l : List Va) (i : Nat) (f : Nat → Value) : Prop where
  row : w.rowIs b 32 ((l.length + 3) * 3) f
  part : ∀ j y, l[j]? = some y → j < i → y.num < 18446744073709551616 ∧ f (j * 3) = .int .u64 y.num ∧ Dh w (b + 1) (f (j * 3 + 1)) y.data ∧ Hp w (b + 1) n (f (j * 3 + 2)) y.parts
  mark : ∀ j, l.length ≤ j → j < i → f (j * 3) = .int .u64 4711 ∧ f (j * 3 + 2) = .slice none 0 0
  rest : ∀ j, i ≤ j → j < l.length + 3 → f (j * 3 + 2) = .slice none 0 0
/-- The world where a place is laid. -/
def laid3 (w : World) (b i : Nat) (x y z : Value) : World := ((w.setCell ⟨b, i * 3, none⟩ x).setCell ⟨b, i * 3 + 1, none⟩ y).setCell ⟨b, i * 3 + 2, none⟩ z
theorem laid3_other (w : World) (b i k : Nat) (x y z : Value) (h : k ≠ b) : (laid3 w b i x y z).heap[k]? = w.heap[k]? := by
  unfold laid3
  rw [heap_setCell_other _ _ _ _ h, heap_setCell_other _ _ _ _ h, heap_setCell_other _ _ _ _ h]
theorem DoneV.step {w w7 : World} {b n i : Nat} {l : List Va} {f : Nat → Value} {y : Va} {dv pv : Value} (hd : DoneV w b n l i f) (ht : l[i]? = some y) (hy : y.num < 18446744073709551616) (hb7 : Below w.heap.size (w.setCell ⟨b, i * 3, none⟩ (.int .u64 4711)) w7) (hv : Dh w7 (b + 1) dv y.data) (hp : Hp w7 (b + 1) n pv y.parts) :
    ∃ f', DoneV (laid3 w7 b i (.int .u64 y.num) dv pv) b n l (i + 1) f' := by
  have hi : i < l.length := (List.getElem?_eq_some_iff.1 ht).1
  have hlt := hd.row.lt
  have r6 := hd.row.set (i * 3) (.int .u64 4711)
  have r7 := World.rowIs.of_block (w' := w7) r6 (hb7.block b hlt)
  have r8 := ((r7.set (i * 3) (.int .u64 y.num)).set (i * 3 + 1) dv).set (i * 3 + 2) pv
  have hk0 : ∀ k, b + 1 ≤ k → k < w.heap.size → (laid3 w7 b i (.int .u64 y.num) dv pv).heap[k]? = w.heap[k]? := fun k h1 h2 => by
    rw [laid3_other _ _ _ _ _ _ _ (by omega), hb7.block k h2, heap_setCell_other _ _ _ _ (by simp; omega)]
  have hk7 : ∀ k, b + 1 ≤ k → k < w7.heap.size → (laid3 w7 b i (.int .u64 y.num) dv pv).heap[k]? = w7.heap[k]? := fun k h1 h2 => laid3_other _ _ _ _ _ _ _ (by omega)
  refine ⟨_, r8, fun j u hu hj => ?_, fun j h1 h2 => absurd h1 (by omega), fun j h1 h2 => ?_⟩
  · by_cases hji : j = i
    · subst hji
      obtain rfl : y = u := Option.some.inj (ht.symm.trans hu)
      refine ⟨hy, by simp, ?_, ?_⟩
      · have := hv.keep hk7
        simpa using this
      · have := Hp.keep n _ _ hp hk7
        simpa using this
    · obtain ⟨g0, g1, g2, g3⟩ := hd.part j u hu (by omega)
      refine ⟨g0, ?_, ?_, ?_⟩
      · repeat rw [if_neg (by omega)]
        exact g1
      · repeat rw [if_neg (by omega)]
        exact g2.keep hk0
      · repeat rw [if_neg (by omega)]
        exact Hp.keep n _ _ g3 hk0
  · repeat rw [if_neg (by omega)]
    exact hd.rest j (by omega) h2
theorem DoneV.mark1 {w : World} {b n i : Nat} {l : List Va} {f : Nat → Value} (hd : DoneV w b n l i f) (hi : l.length ≤ i) (hi2 : i < l.length + 3) : ∃ f', DoneV (w.setCell ⟨b, i * 3, none⟩ (.int .u64 4711)) b n l (i + 1) f' := by
  have hk0 : ∀ k, b + 1 ≤ k → k < w.heap.size → (w.setCell ⟨b, i * 3, none⟩ (.int .u64 4711)).heap[k]? = w.heap[k]? := fun k h1 h2 => heap_setCell_other _ _ _ _ (by simp; omega)
  refine ⟨_, hd.row.set (i * 3) (.int .u64 4711), fun j u hu hj => ?_, fun j h1 h2 => ?_, fun j h1 h2 => ?_⟩
  · have hjl : j < l.length := (List.getElem?_eq_some_iff.1 hu).1
    obtain ⟨g0, g1, g2, g3⟩ := hd.part j u hu (by omega)
    refine ⟨g0, ?_, ?_, ?_⟩
    · rw [if_neg (by omega)]; exact g1
    · rw [if_neg (by omega)]; exact g2.keep hk0
    · rw [if_neg (by omega)]; exact Hp.keep n _ _ g3 hk0
  · by_cases hji : j = i
    · subst hji
      exact ⟨by simp, by rw [if_neg (by omega)]; exact hd.rest j (by omega) hi2⟩
    · obtain ⟨g1, g2⟩ := hd.mark j h1 (by omega)
      exact ⟨by rw [if_neg (by omega)]; exact g1, by rw [if_neg (by omega)]; exact g2⟩
  · rw [if_neg (by omega)]; exact hd.rest j (by omega) h2
theorem DoneV.hd {w : World} {b n base : Nat} {l : List Va} {f : Nat → Value} (hd : DoneV w b n l (l.length + 3) f) (hb : base ≤ b) : Hp w base (n + 1) (.slice (some ⟨b, 0, none⟩) l.length (l.length + 3)) l :=
  ⟨b, f, rfl, hb, hd.row, fun j t ht => by
    have hjl : j < l.length := (List.getElem?_eq_some_iff.1 ht).1
    obtain ⟨g0, g1, g2, g3⟩ := hd.part j t ht (by omega)
    exact ⟨g0, g1, g2.mono (by omega), Hp.mono (by omega) n _ _ g3⟩, fun j h1 h2 => hd.mark j h1 (by omega)⟩
end Go.Proofs.YtinngljphjdpoaaGreatDoor.Hv
/- caught, Check. -/
namespace Go.Proofs.YtinngljphjdpoaaGreatDoor.Vj
open Go Go.RowKit Go.Proofs.YtinngljphjdpoaaGreatDoor.Pa Go.Proofs.YtinngljphjdpoaaGreatDoor.Pb Go.Proofs.YtinngljphjdpoaaGreatDoor.Pf Go.Proofs.YtinngljphjdpoaaGreatDoor.Pq Go.Proofs.YtinngljphjdpoaaGreatDoor.Sc Go.Proofs.YtinngljphjdpoaaGreatDoor.Rs Go.Proofs.YtinngljphjdpoaaGreatDoor.Hs Go.Proofs.YtinngljphjdpoaaGreatDoor.Ca Go.Proofs.YtinngljphjdpoaaGreatDoor.Cb Go.Proofs.YtinngljphjdpoaaGreatDoor.Vu Go.Proofs.YtinngljphjdpoaaGreatDoor.Vg Go.Proofs.YtinngljphjdpoaaGreatDoor.Vh Go.Proofs.YtinngljphjdpoaaGreatDoor.Vi
set_option linter.unusedVariables false
set_option linter.unusedSimpArgs false
theorem check_all (U : List UInt8 → Bool) (HU : UtfSaid U) : ∀ n, CheckSaid pF U n := by
  intro n
  induction n with
  | zero => exact fun S g k l nv dv pv x deep w hc => hc.elim
  | succ n ih => exact check U HU n ih
/-- A fault's cells. -/
def fcells (f : Flt) : Array Value := #[.int .i64 f.1, .int .i64 f.2.1, .int .i64 f.2.2]
@[go_sem] theorem ta_fault (xT : TypeId) (v : Value) (w : World) : (Instr.typeAssert (.iface 39 v) xT 39 true).run Tryz.prog w = .ok (.tuple #[v, .bool true]) w := by
  simp [Instr.typeAssert, Sem.run_bind, run_underlying Tryz.underlying39, Result.andThen_ok]
set_option maxRecDepth 100000 in
theorem caught_panic (g : Nat) (f1 f2 f3 : Int) (w : World) (hg : hp w g = some (.cells #[.nilIface] 34 (0, 0))) :
    CallsD Tryz.prog 59 #[.pointer (some ⟨g, 0, none⟩)] (.panicking ({ v := .iface 39 (.agg #[.int .i64 f1, .int .i64 f2, .int .i64 f3]), recovered := false } :: [])) w fun e u' w' =>
      e = .returned (.tuple #[]) ∧ u' = .panicking ({ v := .iface 39 (.agg #[.int .i64 f1, .int .i64 f2, .int .i64 f3]), recovered := true } :: []) ∧ w' = (w.setCell ⟨g, 0, none⟩ (.iface 76 (.pointer (some ⟨w.heap.size, 0, none⟩)))).alloc (.cells #[.int .i64 f1, .int .i64 f2, .int .i64 f3] 39) := by
  have hlt : g < w.heap.size := (Array.getElem?_eq_some_iff.1 hg).1
  have hne : ¬ g = w.heap.size := by omega
  have hne2 : ¬ w.heap.size = g := by omega
  have hc := fun i => hp_cell hg i
  have hz := fun i => hp_frozen hg i
  clear hg
  refine callsD_of_wpS Tryz.func59 rfl fun c₀ cs hu => ?_
  apply wpS_seq
  apply wpS_region
  simp [wpOpsS, go_sem, recoverD, hu, Tryz.ntmps59, Exit.thenS]
  rw [show (#[Value.pointer (some ⟨g, 0, none⟩)] ++ ((Array.replicate 18 undef).setIfInBounds 4 (Value.iface 39 (.agg #[.int .i64 f1, .int .i64 f2, .int .i64 f3]))).setIfInBounds 1 (Value.iface 39 (.agg #[.int .i64 f1, .int .i64 f2, .int .i64 f3]))) =
    #[.pointer (some ⟨g, 0, none⟩), undef, .iface 39 (.agg #[.int .i64 f1, .int .i64 f2, .int .i64 f3]), undef, undef, .iface 39 (.agg #[.int .i64 f1, .int .i64 f2, .int .i64 f3]), undef, undef, undef, undef, undef, undef, undef, undef, undef, undef, undef, undef, undef] from by kernel_rfl]
  refine wpS_of_wp ?_
  go_wp2
  exact ⟨rfl, _, rfl, _, results_none rfl _ _ _, rfl, rfl, rfl⟩
set_option maxRecDepth 100000 in
theorem caught_idle (g : Nat) (w : World) :
    CallsD Tryz.prog 59 #[.pointer (some ⟨g, 0, none⟩)] .returning w fun e u' w' => e = .returned (.tuple #[]) ∧ u' = .returning ∧ w' = w := by
  refine callsD_of_wpS Tryz.func59 rfl fun c₀ cs hu => ?_
  apply wpS_seq
  apply wpS_region
  simp [wpOpsS, go_sem, recoverD, hu, Tryz.ntmps59, Exit.thenS]
  rw [show (#[Value.pointer (some ⟨g, 0, none⟩)] ++ ((Array.replicate 18 undef).setIfInBounds 4 Value.nilIface).setIfInBounds 1 Value.nilIface) =
    #[.pointer (some ⟨g, 0, none⟩), undef, .nilIface, undef, undef, .nilIface, undef, undef, undef, undef, undef, undef, undef, undef, undef, undef, undef, undef, undef] from by kernel_rfl]
  refine wpS_of_wp ?_
  go_wp2
  cases c₀
  simp only at hu
  subst hu
  exact ⟨rfl, _, rfl, _, results_none rfl _ _ _, rfl, rfl, rfl⟩
/-- An error that says a fault (none: nil), in a block of its own not below base. -/
def ErrOf (f : Flt) (base : Nat) (v : Value) (w : World) : Prop :=
  (f.2.2 = 0 ∧ v = .nilIface) ∨ (f.2.2 ≠ 0 ∧ ∃ b, base ≤ b ∧ v = .iface 76 (ptr b) ∧ hp w b = some (.cells #[.int .i64 f.1, .int .i64 f.2.1, .int .i64 f.2.2] 39 (0, 0)))
set_option maxHeartbeats 1000000 in
set_option maxRecDepth 100000 in
/-- Check. -/
theorem pCheck (U : List UInt8 → Bool) (HU : UtfSaid U) (S : Pl) (g k n : Nat) (l : List Slot) (nv dv pv : Value) (x : Va) (w : World) (hc : Cd w S n g l) (hx : RdV w k nv dv pv x) (hT : TabU w) (hn : n ≤ 999999) :
    Calls Tryz.prog 28 #[ptr g, .agg #[nv, dv, pv]] w fun e w' => ∃ v, e = .returned v ∧ ErrOf (chk pF U n l x 1) w.heap.size v w' ∧ Below w.heap.size w w' := by
  have hcon : ∀ w4, Below w.heap.size w w4 → Calls Tryz.prog 60 #[ptr g, .agg #[nv, dv, pv], .int .i64 1] w4 (Vi.Ends (chk pF U n l x 1) w4) := fun w4 hb =>
    check_all U HU n S g k l nv dv pv x 1 w4 (hc.below hb) (hx.below hb) (hT.below hb) (by omega) (by omega)
  have HCON := Lib.hid hcon
  obtain ⟨hnum, rfl, hdv, hpv⟩ := hx
  obtain ⟨Ad, cd, rfl, -, -⟩ : ∃ A c, dv = .slice A x.data.length c ∧ x.data.length ≤ c ∧ c ≤ maxLen := by obtain ⟨A, c, e, h1, h2, -⟩ := hdv; exact ⟨A, c, e, h1, h2⟩
  obtain ⟨Ap, cp, rfl, -, -⟩ := hpv.slice
  clear hcon hc hdv hpv hT
  generalize chk pF U n l x 1 = f at *
  unfold ptr at *
  go_enter_defers Tryz.func28, Tryz.ntmps28
  go_wp2_with (go_at_call 9999)
  go_at_call 60
  obtain ⟨w2, hw2⟩ : ∃ y, y = (w.alloc (.cells #[.int .u64 x.num, .slice Ad x.data.length cd, .slice Ap x.parts.length cp] 32)).alloc (.cells #[.nilIface] 34) := ⟨_, rfl⟩
  have hb2 : Below w.heap.size w w2 := by rw [hw2]; exact b2 _ _ _
  have hs2 : w2.heap.size = w.heap.size + 1 + 1 := by rw [hw2]; simp
  have he2 : hp w2 (w.heap.size + 1) = some (.cells #[.nilIface] 34 (0, 0)) := by rw [hw2]; exact hp_alloc_at _ _ (by simp)
  rw [← hw2]
  have HB2 := Lib.hid hb2; have HE2 := Lib.hid he2; have HS2 := Lib.hid hs2
  clear hw2 hb2 he2 hs2
  refine (HCON.out w2 HB2.out).mono ?_
  rintro e w3 ⟨⟨h0, rfl⟩ | ⟨h0, rfl⟩, hb⟩
  · have he3 : hp w3 (w.heap.size + 1) = some (.cells #[.nilIface] 34 (0, 0)) := (hb.hp _ (by have := HS2.out; omega)).trans HE2.out
    have hc3 := fun i => hp_cell he3 i
    have hf3 := fun i => hp_frozen he3 i
    have HB3 := Lib.hid (HB2.out.trans (hb.mono HB2.out.size)); have H0 := Lib.hid h0
    clear he3 hb h0
    go_wp2_with fail
    refine leaves_cons (f := 59) (args := #[.pointer (some ⟨w.heap.size + 1, 0, none⟩)]) (by simp) (by simp [go_sem]) ?_
    refine (caught_idle (w.heap.size + 1) _).mono ?_
    rintro e u' w'' ⟨rfl, rfl, rfl⟩
    have hb4 := HB3.out.setCell (p := ⟨w.heap.size + 1, 0, none⟩) (by simp) (.nilIface)
    have hh4 := H0.out
    simp [Leaves, settle, results, Tryz.results28, go_sem, hc3]
    exact ⟨.inl ⟨hh4, rfl⟩, hb4⟩
  · have he3 : hp w3 (w.heap.size + 1) = some (.cells #[.nilIface] 34 (0, 0)) := (hb.hp _ (by have := HS2.out; omega)).trans HE2.out
    refine leaves_cons (f := 59) (args := #[.pointer (some ⟨w.heap.size + 1, 0, none⟩)]) (by simp) (by simp [go_sem]) ?_
    refine (caught_panic (w.heap.size + 1) f.1 f.2.1 f.2.2 w3 he3).mono ?_
    rintro e u' w'' ⟨rfl, rfl, rfl⟩
    have hb3 := HB2.out.trans (hb.mono HB2.out.size)
    have hc3 := fun i => hp_cell he3 i
    have hb4 := (hb3.setCell (p := ⟨w.heap.size + 1, 0, none⟩) (by simp) (.iface 76 (.pointer (some ⟨w3.heap.size, 0, none⟩)))).alloc (by simp [World.setCell]; exact hb3.size) (.cells #[.int .i64 f.1, .int .i64 f.2.1, .int .i64 f.2.2] 39)
    have hs3 := hb3.size
    have hs4 : w.heap.size + 1 < w3.heap.size := by have := HS2.out; have := hb.size; omega
    have hcell : ((w3.setCell ⟨w.heap.size + 1, 0, none⟩ (.iface 76 (.pointer (some ⟨w3.heap.size, 0, none⟩)))).alloc (.cells #[.int .i64 f.1, .int .i64 f.2.1, .int .i64 f.2.2] 39)).cell? ⟨w.heap.size + 1, 0, none⟩ = some (.iface 76 (.pointer (some ⟨w3.heap.size, 0, none⟩))) := by
      have h1 : hp (w3.setCell ⟨w.heap.size + 1, 0, none⟩ (.iface 76 (.pointer (some ⟨w3.heap.size, 0, none⟩)))) (w.heap.size + 1) = some (.cells #[.iface 76 (.pointer (some ⟨w3.heap.size, 0, none⟩))] 34 (0, 0)) := heap_setCell_same _ _ 0 _ _ _ he3
      exact hp_cell ((hp_alloc_past _ _ (by simp [World.setCell]; omega)).trans h1) 0
    have hq : hp ((w3.setCell ⟨w.heap.size + 1, 0, none⟩ (.iface 76 (.pointer (some ⟨w3.heap.size, 0, none⟩)))).alloc (.cells #[.int .i64 f.1, .int .i64 f.2.1, .int .i64 f.2.2] 39)) w3.heap.size = some (.cells #[.int .i64 f.1, .int .i64 f.2.1, .int .i64 f.2.2] 39 (0, 0)) := hp_alloc_at _ _ (by simp [World.setCell])
    simp [Leaves, settle, results, Tryz.results28, go_sem, hc3, hcell]
    exact ⟨.inr ⟨h0, _, hs3, rfl, hq⟩, hb4⟩
end Go.Proofs.YtinngljphjdpoaaGreatDoor.Vj
/- The reference: plain joined, part, check. -/
namespace Go.Proofs.YtinngljphjdpoaaGreatDoor.Rq
open Go Go.RowKit Go.Proofs.YtinngljphjdpoaaGreatDoor.Pa Go.Proofs.YtinngljphjdpoaaGreatDoor.Pb Go.Proofs.YtinngljphjdpoaaGreatDoor.Pf Go.Proofs.YtinngljphjdpoaaGreatDoor.Sc Go.Proofs.YtinngljphjdpoaaGreatDoor.Rs Go.Proofs.YtinngljphjdpoaaGreatDoor.Vu Go.Proofs.YtinngljphjdpoaaGreatDoor.Vo Go.Proofs.YtinngljphjdpoaaGreatDoor.Vh Go.Proofs.YtinngljphjdpoaaGreatDoor.Fl Go.Proofs.YtinngljphjdpoaaGreatDoor.Rf Go.Proofs.YtinngljphjdpoaaGreatDoor.Tx Go.Proofs.YtinngljphjdpoaaGreatDoor.Rp
set_option linter.unusedVariables false
set_option linter.unusedSimpArgs false
theorem re_int {a b : Int} {w : World} (e : a = b) : (fun (en : Ending) (w' : World) => en = .returned (.int .i64 a) ∧ Below w.heap.size w w') = (fun en w' => en = .returned (.int .i64 b) ∧ Below w.heap.size w w') := by rw [e]
theorem calls_eq {f : Nat} {args : Array Value} {w : World} {a b : Int} (h : Calls Tryz.prog f args w fun e w' => e = .returned (.int .i64 a) ∧ Below w.heap.size w w') (e : a = b) : Calls Tryz.prog f args w fun e w' => e = .returned (.int .i64 b) ∧ Below w.heap.size w w' := e ▸ h
theorem wz {n a b : Nat} : (if Vu.within n a b ≠ 0 then (83 : Int) else 0) = Vu.within n a b := by unfold Vu.within; split <;> split <;> simp_all
/-- plain, of every kind but a message. -/
theorem rplain (no kind : Int) (a b : Nat) (sub : List Slot) (C Ad Ap : Option Addr) (m cd cp c3 : Nat) (x : Va) (w : World) (hb : bnd (.mk no kind a b sub) = true) (h8 : kind ≠ 8) (hn : x.num < 18446744073709551616) (hp : x.parts.length ≤ 10000) (hd : x.data.length ≤ 5000000) (hrd : Rd w (.slice Ad x.data.length cd) x.data) :
    Calls Tryz.prog 101 #[.agg #[.int .i64 no, .int .i64 kind, .int .u64 (a : Int), .int .u64 (b : Int), .slice C m c3], .agg #[.int .u64 (x.num : Int), .slice Ad x.data.length cd, .slice Ap x.parts.length cp]] w fun e w' => e = .returned (.int .i64 (plainOf Lib.validD (.mk no kind a b sub) x)) ∧ Below w.heap.size w w' := by
  have hbb := _root_.Go.Proofs.YtinngljphjdpoaaGreatDoor.Va.bnd_at no kind a b sub
  rw [hb] at hbb
  rcases bnd_kind hb with e | e | e | e | e | e | e | e | e
  all_goals simp only [Slot.kind] at e; subst e
  · refine calls_eq (plain_num1 no a b x.num x.data.length x.parts.length Ad Ap C m cd cp c3 x.data w hn (by omega) (by omega)) ?_
    simp only [plainOf, isOf, badOf, Slot.kind, Slot.least, Slot.most]
    by_cases g1 : x.data.length = 0 <;> by_cases g2 : x.parts.length = 0 <;> simp [g1, g2]
  · refine calls_eq (plain_num2 no a b x.num x.data.length x.parts.length Ad Ap C m cd cp c3 x.data w hn (by omega) (by omega)) ?_
    simp only [plainOf, isOf, badOf, Slot.kind, Slot.least, Slot.most]
    by_cases g1 : x.data.length = 0 <;> by_cases g2 : x.parts.length = 0 <;> simp [g1, g2]
  · refine calls_eq (plain_num3 no a b x.num x.data.length x.parts.length Ad Ap C m cd cp c3 x.data w hn (by omega) (by omega)) ?_
    simp only [plainOf, isOf, badOf, Slot.kind, Slot.least, Slot.most]
    by_cases g1 : x.data.length = 0 <;> by_cases g2 : x.parts.length = 0 <;> simp [g1, g2]
  · refine calls_eq (plain_flag no a b x.num x.data.length x.parts.length Ad Ap C m cd cp c3 x.data w hn (by omega) (by omega)) ?_
    simp only [plainOf, isOf, badOf, Slot.kind, Slot.least, Slot.most]
    by_cases g1 : x.data.length = 0 <;> by_cases g2 : x.parts.length = 0 <;> simp [g1, g2, Vu.within]
  · refine calls_eq (plain_bytes no a b x.num x.data.length x.parts.length Ad Ap C m cd cp c3 x.data w hn (by omega) (by omega)) ?_
    have := @wz x.data.length a b
    simp only [plainOf, isOf, badOf, Slot.kind, Slot.least, Slot.most]
    by_cases g1 : x.num = 0 <;> by_cases g2 : x.parts.length = 0 <;> simp_all
  · refine calls_eq (plain_text no a b x.num x.data.length x.parts.length Ad Ap C m cd cp c3 x.data w hn (by omega) (by omega) hrd) ?_
    simp only [plainOf, isOf, badOf, Slot.kind, Slot.least, Slot.most]
    by_cases g1 : x.num = 0 <;> by_cases g2 : x.parts.length = 0 <;> simp [g1, g2]
  · have h2 : b ≤ 9007199254740992 := by
      have h := hbb.symm
      simp at h
      omega
    refine calls_eq (plain_float no a b x.num x.data.length x.parts.length Ad Ap C m cd cp c3 x.data w hn (by omega) (by omega) h2) ?_
    simp only [plainOf, isOf, badOf, Slot.kind, Slot.least, Slot.most]
    by_cases g1 : x.data.length = 0 <;> by_cases g2 : x.parts.length = 0 <;> simp [g1, g2]
  · exact absurd rfl h8
  · refine calls_eq (plain_list no a b x.num x.data.length x.parts.length Ad Ap C m cd cp c3 x.data w hn (by omega) (by omega)) ?_
    simp only [plainOf, isOf, badOf, Slot.kind, Slot.least, Slot.most]
    by_cases g1 : x.num = 0 <;> by_cases g2 : x.data.length = 0 <;> simp [g1, g2]
/-- A fault as a value. -/
def fl (f : Flt) : Value := .agg #[.int .i64 f.1, .int .i64 f.2.1, .int .i64 f.2.2]
/-- What part answers. -/
def partOf (U : List UInt8 → Bool) (n : Nat) (t : Slot) (x : Va) (deep : Int) : Flt :=
  if t.kind = 8 then chk pF U n t.sub x (deep + 1)
  else if plainOf U t x ≠ 0 then (deep, t.no, plainOf U t x)
  else if t.kind = 9 then itemsGo (fun y => chk pF U n t.sub y (deep + 1)) x.parts
  else (0, 0, 0)
theorem chk_succ (U : List UInt8 → Bool) (n : Nat) (s : List Slot) (v : Va) (deep : Int) : chk pF U (n + 1) s v deep =
    (if v.num ≠ 0 ∨ v.data.length ≠ 0 then (deep, 0, 84) else if v.parts.length ≠ s.length then (deep, 0, 81) else chkGo (fun t x => partOf U n t x deep) s v.parts) := by
  simp only [chk]
  congr 2
  congr 1
  funext t x
  simp only [partOf, plainOf]
  by_cases h8 : t.kind = 8
  · simp [h8]
  · rw [if_neg h8, if_neg h8]
    by_cases hi : isOf t x = false
    · simp [hi]
    · simp [hi]
theorem itemsGo_drop (f : Va → Flt) (p : List Va) (i : Nat) (h : i < p.length) : itemsGo f (p.drop i) = if (f p[i]).2.2 ≠ 0 then f p[i] else itemsGo f (p.drop (i + 1)) := by
  rw [List.drop_eq_getElem_cons h]; rfl
theorem chkGo_drop (f : Slot → Va → Flt) (s : List Slot) (p : List Va) (i : Nat) (h : i < p.length) (h2 : i < s.length) : chkGo f (s.drop i) (p.drop i) = if (f s[i] p[i]).2.2 ≠ 0 then f s[i] p[i] else chkGo f (s.drop (i + 1)) (p.drop (i + 1)) := by
  rw [List.drop_eq_getElem_cons h, List.drop_eq_getElem_cons h2]; rfl
/-- What check answers. -/
def RChk (n : Nat) : Prop := ∀ (k m : Nat) (sv nv dv pv : Value) (l : List Slot) (x : Va) (deep : Int) (W w : World), RdS W n sv l → okL k l → RdV W m nv dv pv x → FewV (m + 1) x → Below W.heap.size W w → 0 ≤ deep → deep + n ≤ 1000000 →
  Calls Tryz.prog 61 #[sv, .agg #[nv, dv, pv], .int .i64 deep] w fun e w' => e = .returned (fl (chk pF Lib.validD n l x deep)) ∧ Below w.heap.size w w'
/-- The world where a fault is laid. -/
def set3 (w : World) (g : Nat) (f : Flt) : World := ((w.setCell ⟨g, 0, none⟩ (.int .i64 f.1)).setCell ⟨g, 1, none⟩ (.int .i64 f.2.1)).setCell ⟨g, 2, none⟩ (.int .i64 f.2.2)
theorem hp_set3 {w : World} {g : Nat} {a b c : Value} {t : TypeId} (h : hp w g = some (.cells #[a, b, c] t (0, 0))) (f : Flt) : hp (set3 w g f) g = some (.cells #[.int .i64 f.1, .int .i64 f.2.1, .int .i64 f.2.2] t (0, 0)) := by
  have h1 := heap_setCell_same w g 0 _ _ (.int .i64 f.1) h
  have h2 := heap_setCell_same _ g 1 _ _ (.int .i64 f.2.1) h1
  exact heap_setCell_same _ g 2 _ _ (.int .i64 f.2.2) h2
theorem below_set3 {B : Nat} {w0 w : World} (h : Below B w0 w) {g : Nat} (hg : B ≤ g) (f : Flt) : Below B w0 (set3 w g f) := ((h.setCell hg _).setCell hg _).setCell hg _
end Go.Proofs.YtinngljphjdpoaaGreatDoor.Rq
