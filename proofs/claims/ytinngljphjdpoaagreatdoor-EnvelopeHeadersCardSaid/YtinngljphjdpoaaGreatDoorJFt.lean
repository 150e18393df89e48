/- An argument that is a value, opened; how large a value is. No program in sight; no conditions. -/
import Derived.Test.YtinngljphjdpoaaGreatDoorJVg
import Derived.Test.YtinngljphjdpoaaGreatDoorJHt
namespace Go.Proofs.YtinngljphjdpoaaGreatDoor.Vo
open Go Go.RowKit Go.ChangeShapes Go.WideShapes Go.Deep Go.Proofs.YtinngljphjdpoaaGreatDoor.Pa Go.Proofs.YtinngljphjdpoaaGreatDoor.Pb Go.Proofs.YtinngljphjdpoaaGreatDoor.Pf Go.Proofs.YtinngljphjdpoaaGreatDoor.Sc Go.Proofs.YtinngljphjdpoaaGreatDoor.Rs Go.Proofs.YtinngljphjdpoaaGreatDoor.Vu
set_option linter.unusedVariables false
set_option linter.unusedSimpArgs false
instance : Inhabited Va := ⟨.mk 0 [] []⟩
section
variable {H : Type} {enc : TypeId × Value → H} {P : Program} {w : World} {base : Nat} {spare : Nat → Bool} {held : Bool}
/-- What a program must say of the type of values. -/
structure TV (P : Program) (T E U D B : TypeId) : Prop where
  sl : P.underlying T = some (.slice E)
  st : ∃ fs, P.underlying E = some (.struct fs) ∧ oneCellFields P fs = true ∧ fs.map (·.type) = #[U, D, T]
  u : P.underlying U = some (.int .u64)
  d : P.underlying D = some (.slice B)
  b : P.underlying B = some (.int .u8)
  cb : P.cellsOf B = 1
  c : P.cellsOf E = 3
theorem open_data {D B : TypeId} (hd : P.underlying D = some (.slice B)) (hb : P.underlying B = some (.int .u8)) (hc : P.cellsOf B = 1) {fuel : Nat} {v : Value} {x : DataW H × List MemPlace} (h : DataW.trod enc P w base spare held fuel D [v] = some x) :
    ∃ l : List UInt8, Rd w v l := by
  rcases open_ints hd hb hc h with ⟨hcs, _⟩ | ⟨x, n, c, zs, hcs, _, hl, hm, hz, hx, hcell, hwf⟩
  · obtain rfl : v = .slice none 0 0 := by simpa using hcs
    exact ⟨[], Rd.nil w⟩
  · obtain rfl : v = .slice (some x) n c := by simpa using hcs
    have hlz : n ≤ zs.length := by rw [hz]; split <;> omega
    refine ⟨(zs.take n).map fun z => UInt8.ofNat z.toNat, ⟨some x, c, by simp [Nat.min_eq_left hlz], by simp; omega, hm, fun _ => ⟨x, rfl, fun i u hu => ?_⟩⟩⟩
    have hi : i < n := by
      have := (List.getElem?_eq_some_iff.1 hu).1
      simp at this
      omega
    have hcl := hcell i (by omega)
    rw [hcl, ← hu]
    have hiz : i < zs.length := by omega
    have hw := bounds_u8 (hwf zs[i] (List.getElem_mem hiz))
    simp only [cb, List.map_map, List.getElem?_map, List.getElem?_take, if_pos hi, List.getElem?_eq_getElem hiz, Option.map_some, Function.comp_apply, List.getD_eq_getElem?_getD, Option.getD_some]
    congr 2
    have : (UInt8.ofNat (zs[i]).toNat).toNat = (zs[i]).toNat := by simp; omega
    rw [this]
    omega
theorem RdP.mono {w : World} : ∀ (n m : Nat) (v : Value) (l : List Va), n ≤ m → RdP w n v l → RdP w m v l
  | 0, _, _, _, _, h => h.elim
  | n + 1, 0, _, _, h, _ => absurd h (by omega)
  | n + 1, m + 1, v, l, hm, h => by
    obtain ⟨A, c, e, h1, h2, h3⟩ := h
    refine ⟨A, c, e, h1, h2, fun h0 => ?_⟩
    obtain ⟨ad, ha, hc⟩ := h3 h0
    refine ⟨ad, ha, fun i t ht => ?_⟩
    obtain ⟨g0, dv, pv, g1, g2, g3, g4, g5⟩ := hc i t ht
    exact ⟨g0, dv, pv, g1, g2, g3, g4, RdP.mono n m pv t.parts (by omega) g5⟩
/-- Parts read as values. -/
theorem open_parts {T E U D B : TypeId} (hT : TV P T E U D B) : ∀ (fuel : Nat) (v : Value) (x : DataW H × List MemPlace), DataW.trod enc P w base spare held fuel T [v] = some x → ∃ l, RdP w fuel v l := by
  intro fuel
  induction fuel using Nat.strongRecOn with
  | _ fuel ih =>
    intro v x h
    cases fuel with
    | zero => simp [DataW.trod] at h
    | succ fuel =>
      obtain ⟨fs, hu, hone, hty⟩ := hT.st
      have hsz : fs.size = 3 := by have := congrArg Array.size hty; simpa using this
      have tyAt : ∀ j (hj : j < 3), (fs[j]'(by omega)).type = (#[U, D, T] : Array TypeId)[j]'hj := by
        intro j hj
        have h1 : (fs.map (·.type))[j]'(by simp; omega) = (#[U, D, T] : Array TypeId)[j]'hj := by simp only [hty]
        simpa using h1
      rcases open_slice_fields hT.sl hu hone (by rw [hT.c, hsz]) h with ⟨e, _⟩ | ⟨a, len, cap, e, h1, h2, h3⟩
      · obtain rfl : v = .slice none 0 0 := by simpa using e
        exact ⟨[], none, 0, rfl, by simp, by simp [maxLen], fun h => absurd h (by simp)⟩
      · obtain rfl : v = .slice (some a) len cap := by simpa using e
        have hi : ∀ i, i < len → ∃ t : Va, t.num < 18446744073709551616 ∧ ∃ dv pv, w.cell? (a.add (i * 3)) = some (.int .u64 t.num) ∧ w.cell? (a.add (i * 3 + 1)) = some dv ∧ w.cell? (a.add (i * 3 + 2)) = some pv ∧ Rd w dv t.data ∧ RdP w fuel pv t.parts := by
          intro i hi
          obtain ⟨n, hn, hf⟩ := h3 i hi
          rw [hsz] at hf
          obtain ⟨v0, y0, c0, t0⟩ := hf 0 _ (Array.getElem?_eq_getElem (by omega))
          obtain ⟨v1, y1, c1, t1⟩ := hf 1 _ (Array.getElem?_eq_getElem (by omega))
          obtain ⟨v2, y2, c2, t2⟩ := hf 2 _ (Array.getElem?_eq_getElem (by omega))
          rw [Nat.add_zero] at c0
          rw [tyAt 0 (by omega)] at t0
          rw [tyAt 1 (by omega)] at t1
          rw [tyAt 2 (by omega)] at t2
          obtain ⟨z0, e0, _, w0⟩ := DataW.trod_int hT.u t0
          obtain rfl : v0 = .int .u64 z0 := by simpa using e0
          have b0 := bounds_u64 w0
          obtain ⟨m0, rfl⟩ := Int.eq_ofNat_of_zero_le b0.1
          obtain ⟨dl, hdl⟩ := open_data hT.d hT.b hT.cb t1
          obtain ⟨l, hl⟩ := ih n (by omega) v2 y2 t2
          exact ⟨.mk m0 dl l, by have := b0.2; simp only [Va.num]; omega, v1, v2, c0, c1, c2, hdl, RdP.mono n fuel v2 l (by omega) hl⟩
        obtain ⟨f, hf⟩ := choose_lt (α := Va) (p := fun i t => t.num < 18446744073709551616 ∧ ∃ dv pv, w.cell? (a.add (i * 3)) = some (.int .u64 t.num) ∧ w.cell? (a.add (i * 3 + 1)) = some dv ∧ w.cell? (a.add (i * 3 + 2)) = some pv ∧ Rd w dv t.data ∧ RdP w fuel pv t.parts) hi
        refine ⟨(List.range len).map f, some a, cap, by simp, by simpa using h1, h2, fun _ => ⟨a, rfl, fun i t ht => ?_⟩⟩
        have hil : i < len := by
          have := (List.getElem?_eq_some_iff.1 ht).1
          simpa using this
        have : t = f i := by
          simp [List.getElem?_map, List.getElem?_range hil] at ht
          exact ht.symm
        subst this
        exact hf i hil
/-- An argument that is a value. -/
theorem open_value {T E U D B : TypeId} (hT : TV P T E U D B) {v : Value} {d : DataW H} {ps : List MemPlace} {r : Reach} {b0 : Nat} (hv : Value.okWide P w r b0 E v) (h : DataW.Trod enc P w base spare held E v d ps) :
    ∃ n nv dv pv x, v = .agg #[nv, dv, pv] ∧ RdV w n nv dv pv x := by
  obtain ⟨fuel, hf⟩ := h
  obtain ⟨fs, hu, hone, hty⟩ := hT.st
  have hsz : fs.size = 3 := by have := congrArg Array.size hty; simpa using this
  have tyAt : ∀ j (hj : j < 3), (fs[j]'(by omega)).type = (#[U, D, T] : Array TypeId)[j]'hj := by
    intro j hj
    have h1 : (fs.map (·.type))[j]'(by simp; omega) = (#[U, D, T] : Array TypeId)[j]'hj := by simp only [hty]
    simpa using h1
  obtain ⟨cs, rfl⟩ : ∃ cs, v = .agg cs := by
    simp only [Value.okWide, hu] at hv
    obtain ⟨cs, h1, _⟩ := hv
    exact ⟨cs, h1⟩
  obtain ⟨ys, n', hn', hy, hlen, hyl, hff⟩ := DataW.trod_struct hu hf
  rw [hT.c] at hlen
  have hlen' : cs.size = 3 := by simpa [Value.cells] using hlen
  obtain ⟨nv, dv, pv, rfl⟩ : ∃ nv dv pv, cs = #[nv, dv, pv] := ⟨cs[0], cs[1], cs[2], by
    apply Array.ext
    · simp [hlen']
    · intro i h1 h2
      have : i = 0 ∨ i = 1 ∨ i = 2 := by simp at h2; omega
      rcases this with rfl | rfl | rfl <;> rfl⟩
  have at_ : ∀ j (hj : j < 3), ∃ y : DataW H × List MemPlace, DataW.trod enc P w base spare held n' ((#[U, D, T] : Array TypeId)[j]'hj) [(#[nv, dv, pv] : Array Value)[j]'hj] = some y := by
    intro j hj
    obtain ⟨ho, hk⟩ := hone_of hone j _ (Array.getElem?_eq_getElem (by omega))
    have h1 := hff j _ (Array.getElem?_eq_getElem (by omega))
    rw [ho, hk, tyAt j hj] at h1
    have hjy : j < ys.length := by omega
    refine ⟨ys[j], ?_⟩
    rw [List.getElem?_eq_getElem hjy] at h1
    rw [← h1]
    congr 1
    have : j = 0 ∨ j = 1 ∨ j = 2 := by omega
    rcases this with rfl | rfl | rfl <;> rfl
  obtain ⟨y0, t0⟩ := at_ 0 (by omega)
  obtain ⟨y1, t1⟩ := at_ 1 (by omega)
  obtain ⟨y2, t2⟩ := at_ 2 (by omega)
  obtain ⟨z0, e0, _, w0⟩ := DataW.trod_int hT.u t0
  obtain rfl : nv = .int .u64 z0 := by simpa using e0
  have b0 := bounds_u64 w0
  obtain ⟨m0, rfl⟩ := Int.eq_ofNat_of_zero_le b0.1
  obtain ⟨dl, hdl⟩ := open_data hT.d hT.b hT.cb t1
  obtain ⟨l, hl⟩ := open_parts hT n' pv y2 t2
  exact ⟨n', _, dv, pv, .mk m0 dl l, rfl, by have := b0.2; simp only [Va.num]; omega, rfl, hdl, hl⟩
end
/-! ### How large a value is -/
/-- What valueLeft leaves. -/
def vlGo (f : Va → Int → Int) : List Va → Int → Int
  | [], left => left
  | y :: p, left => if left < 0 then left else vlGo f p (f y left)
def vl : Nat → Va → Int → Int
  | 0, _, left => left
  | n + 1, x, left => vlGo (vl n) x.parts (left - 1 - ((x.data.length / 64 : Nat) : Int))
theorem vlGo_neg (f : Va → Int → Int) : ∀ (p : List Va) (left : Int), left < 0 → vlGo f p left = left
  | [], _, _ => rfl
  | _ :: _, left, h => by simp [vlGo, h]
theorem vlGo_drop (f : Va → Int → Int) (p : List Va) (i : Nat) (left : Int) (hi : i < p.length) (h : 0 ≤ left) : vlGo f (p.drop i) left = vlGo f (p.drop (i + 1)) (f p[i] left) := by
  rw [List.drop_eq_getElem_cons hi]
  simp only [vlGo]
  rw [if_neg (by omega)]
theorem vlGo_le (f : Va → Int → Int) (hf : ∀ y l, f y l ≤ l) : ∀ (p : List Va) (left : Int), vlGo f p left ≤ left
  | [], left => Int.le_refl _
  | y :: p, left => by
    simp only [vlGo]
    split
    · omega
    · have := vlGo_le f hf p (f y left); have := hf y left; omega
theorem vl_le : ∀ (n : Nat) (x : Va) (left : Int), vl n x left ≤ left
  | 0, _, left => Int.le_refl _
  | n + 1, x, left => by
    have := vlGo_le (vl n) (vl_le n) x.parts (left - 1 - ((x.data.length / 64 : Nat) : Int))
    unfold vl; omega
/-- Such a value has but so much of each, less than n levels deep. -/
def FewV : Nat → Va → Prop
  | 0, _ => False
  | n + 1, x => x.data.length ≤ 700000 ∧ x.parts.length ≤ 10000 ∧ ∀ y ∈ x.parts, FewV n y
theorem vlGo_few (f : Va → Int → Int) (hf : ∀ y l, f y l ≤ l - 1) : ∀ (p : List Va) (left : Int), 0 ≤ vlGo f p left → (p.length : Int) ≤ left ∧ ∀ y ∈ p, ∃ q : Int, q ≤ left ∧ 0 ≤ f y q
  | [], left, h => by simp [vlGo] at h; exact ⟨by simpa using h, by simp⟩
  | y :: p, left, h => by
    simp only [vlGo] at h
    split at h
    · omega
    · obtain ⟨h1, h2⟩ := vlGo_few f hf p _ h
      have h3 := hf y left
      refine ⟨by simp; omega, fun z hz => ?_⟩
      rcases List.mem_cons.1 hz with rfl | hz
      · exact ⟨left, Int.le_refl _, by omega⟩
      · obtain ⟨q, hq, h0⟩ := h2 z hz
        exact ⟨q, by omega, h0⟩
/-- How deep a value's parts go. -/
def lv : Nat → Va → Prop
  | 0, _ => False
  | n + 1, x => ∀ y ∈ x.parts, lv n y
theorem vl_lt (n : Nat) (x : Va) (left : Int) : vl (n + 1) x left ≤ left - 1 := by
  have := vlGo_le (vl n) (vl_le n) x.parts (left - 1 - ((x.data.length / 64 : Nat) : Int))
  unfold vl; omega
theorem vlGo_few2 (f : Va → Int → Int) (p : List Va) (hf : ∀ y ∈ p, ∀ l, f y l ≤ l - 1) (left : Int) (h : 0 ≤ vlGo f p left) : (p.length : Int) ≤ left ∧ ∀ y ∈ p, ∃ q : Int, q ≤ left ∧ 0 ≤ f y q := by
  induction p generalizing left with
  | nil => simp [vlGo] at h; exact ⟨by simpa using h, by simp⟩
  | cons y p ih =>
    simp only [vlGo] at h
    split at h
    · omega
    · obtain ⟨h1, h2⟩ := ih (fun z hz => hf z (by simp [hz])) _ h
      have h3 := hf y (by simp) left
      refine ⟨by simp; omega, fun z hz => ?_⟩
      rcases List.mem_cons.1 hz with rfl | hz
      · exact ⟨left, Int.le_refl _, by omega⟩
      · obtain ⟨q, hq, h0⟩ := h2 z hz
        exact ⟨q, by omega, h0⟩
theorem RdP.lv {w : World} : ∀ (n : Nat) (v : Value) (l : List Va), RdP w n v l → ∀ y ∈ l, lv n y
  | 0, _, _, h => h.elim
  | n + 1, v, l, h => fun y hy => by
    obtain ⟨A, c, e, h1, h2, h3⟩ := h
    obtain ⟨i, hi, rfl⟩ := List.getElem_of_mem hy
    obtain ⟨ad, ha, hc⟩ := h3 (by omega)
    obtain ⟨g0, dv, pv, g1, g2, g3, g4, g5⟩ := hc i l[i] (by simp [hi])
    exact RdP.lv n pv _ g5
theorem few_of : ∀ (n : Nat) (x : Va) (left : Int), lv n x → left ≤ 10001 → 0 ≤ vl n x left → FewV n x
  | 0, _, _, h, _, _ => h.elim
  | n + 1, x, left, hl, h1, h2 => by
    unfold vl at h2
    have hpos : ∀ y ∈ x.parts, ∀ l, vl n y l ≤ l - 1 := by
      intro y hy l
      have := hl y hy
      cases n with
      | zero => exact this.elim
      | succ n => exact vl_lt n y l
    obtain ⟨h3, h4⟩ := vlGo_few2 (vl n) x.parts hpos _ h2
    refine ⟨by omega, by omega, fun y hy => ?_⟩
    obtain ⟨q, hq, h0⟩ := h4 y hy
    exact few_of n y q (hl y hy) (by omega) h0
end Go.Proofs.YtinngljphjdpoaaGreatDoor.Vo
/- Schemas and values without depth, as rows that a literal makes. -/
namespace Go.Proofs.YtinngljphjdpoaaGreatDoor.Ft
open Go Go.RowKit Go.Proofs.YtinngljphjdpoaaGreatDoor.Pa Go.Proofs.YtinngljphjdpoaaGreatDoor.Pb Go.Proofs.YtinngljphjdpoaaGreatDoor.Pf Go.Proofs.YtinngljphjdpoaaGreatDoor.Sc Go.Proofs.YtinngljphjdpoaaGreatDoor.Rs Go.Proofs.YtinngljphjdpoaaGreatDoor.Hs Go.Proofs.YtinngljphjdpoaaGreatDoor.Vu Go.Proofs.YtinngljphjdpoaaGreatDoor.Vo
set_option linter.unusedVariables false
set_option linter.unusedSimpArgs false
/-- The cells of slots with nothing within. -/
def c5 : List Slot → List Value
  | [] => []
  | t :: r => .int .i64 t.no :: .int .i64 t.kind :: .int .u64 (t.least : Int) :: .int .u64 (t.most : Int) :: .slice none 0 0 :: c5 r
theorem c5_get : ∀ (l : List Slot) (i : Nat) (t : Slot) (q : Nat), l[i]? = some t → q < 5 → (c5 l)[i * 5 + q]? = [Value.int .i64 t.no, .int .i64 t.kind, .int .u64 (t.least : Int), .int .u64 (t.most : Int), .slice none 0 0][q]?
  | [], i, t, q, h, _ => by simp at h
  | u :: r, 0, t, q, h, hq => by
    obtain rfl : u = t := by simpa using h
    rcases q with _ | _ | _ | _ | _ | q <;> simp [c5] <;> omega
  | u :: r, i + 1, t, q, h, hq => by
    have := c5_get r i t q (by simpa using h) hq
    rw [show (i + 1) * 5 + q = i * 5 + q + 1 + 1 + 1 + 1 + 1 by omega]
    simp only [c5, List.getElem?_cons_succ]
    exact this
theorem rds_flat {w : World} {g : Nat} {T : TypeId} {fr : Nat × Nat} (l : List Slot) (hg : hp w g = some (.cells (c5 l).toArray T fr)) (hw : ∀ t ∈ l, WfS t ∧ t.sub = []) (hl : l.length ≤ 1000) : RdS w 2 (.slice (some ⟨g, 0, none⟩) l.length l.length) l := by
  refine ⟨_, _, rfl, Nat.le_refl _, by simp [maxLen]; omega, fun _ => ⟨_, rfl, fun i t ht => ?_⟩⟩
  have hm := List.mem_of_getElem? ht
  have hc : ∀ q, q < 5 → w.cell? ⟨g, i * 5 + q, none⟩ = [Value.int .i64 t.no, .int .i64 t.kind, .int .u64 (t.least : Int), .int .u64 (t.most : Int), .slice none 0 0][q]? := fun q hq => by
    rw [hp_cell hg, ← c5_get l i t q ht hq]; simp
  have ha : (⟨g, 0, none⟩ : Addr).add (i * 5) = ⟨g, i * 5, none⟩ := Hs.add0 _ _
  refine ⟨(hw t hm).1, .slice none 0 0, ?_, ?_⟩
  · rw [ha]
    exact ⟨hc 0 (by omega), hc 1 (by omega), hc 2 (by omega), hc 3 (by omega), hc 4 (by omega)⟩
  · rw [(hw t hm).2]
    exact RdS.nil _ _
/-- The cells of values without parts. -/
def c3 : List (Nat × Value × List UInt8) → List Value
  | [] => []
  | x :: r => .int .u64 (x.1 : Int) :: x.2.1 :: .slice none 0 0 :: c3 r
theorem c3_get : ∀ (l : List (Nat × Value × List UInt8)) (i : Nat) (x : Nat × Value × List UInt8) (q : Nat), l[i]? = some x → q < 3 → (c3 l)[i * 3 + q]? = [Value.int .u64 (x.1 : Int), x.2.1, .slice none 0 0][q]?
  | [], i, t, q, h, _ => by simp at h
  | u :: r, 0, t, q, h, hq => by
    obtain rfl : u = t := by simpa using h
    rcases q with _ | _ | _ | q <;> simp [c3] <;> omega
  | u :: r, i + 1, t, q, h, hq => by
    have := c3_get r i t q (by simpa using h) hq
    rw [show (i + 1) * 3 + q = i * 3 + q + 1 + 1 + 1 by omega]
    simp only [c3, List.getElem?_cons_succ]
    exact this
def vaOf (l : List (Nat × Value × List UInt8)) : Va := .mk 0 [] (l.map fun x => .mk x.1 x.2.2 [])
theorem rdp_flat {w : World} {g : Nat} {T : TypeId} {fr : Nat × Nat} (l : List (Nat × Value × List UInt8)) (hg : hp w g = some (.cells (c3 l).toArray T fr)) (hw : ∀ x ∈ l, x.1 < 18446744073709551616 ∧ Rd w x.2.1 x.2.2) (hl : l.length ≤ 1000) :
    RdV w 2 (.int .u64 0) (.slice none 0 0) (.slice (some ⟨g, 0, none⟩) l.length l.length) (vaOf l) := by
  refine ⟨by simp [vaOf, Va.num], rfl, Rd.nil _, ?_⟩
  refine ⟨some ⟨g, 0, none⟩, l.length, by simp [vaOf, Va.parts], by simp [vaOf, Va.parts], by simp [maxLen]; omega, fun _ => ⟨_, rfl, fun i y hy => ?_⟩⟩
  simp only [vaOf, Va.parts, List.getElem?_map, Option.map_eq_some_iff] at hy
  obtain ⟨x, hx, rfl⟩ := hy
  have hm := List.mem_of_getElem? hx
  have hc : ∀ q, q < 3 → w.cell? ⟨g, i * 3 + q, none⟩ = [Value.int .u64 (x.1 : Int), x.2.1, .slice none 0 0][q]? := fun q hq => by
    rw [hp_cell hg, ← c3_get l i x q hx hq]; simp
  refine ⟨(hw x hm).1, x.2.1, .slice none 0 0, ?_, ?_, ?_, (hw x hm).2, ⟨none, 0, rfl, by simp [Va.parts], by simp [maxLen], fun h => absurd h (by simp [Va.parts])⟩⟩
  · rw [Hs.add0]; exact hc 0 (by omega)
  · rw [Hs.add0]; exact hc 1 (by omega)
  · rw [Hs.add0]; exact hc 2 (by omega)
theorem few_flat (l : List (Nat × Value × List UInt8)) (h : ∀ x ∈ l, x.2.2.length ≤ 700000) (hl : l.length ≤ 1000) : FewV 3 (vaOf l) := by
  refine ⟨by simp [vaOf, Va.data], by simp [vaOf, Va.parts]; omega, fun y hy => ?_⟩
  simp only [vaOf, Va.parts, List.mem_map] at hy
  obtain ⟨x, hx, rfl⟩ := hy
  exact ⟨h x hx, by simp [Va.parts], fun z hz => by simp [Va.parts] at hz⟩
/-- An array at the head of a block, as a list of bytes. -/
theorem rd_head {w : World} {g n : Nat} {C : Array Value} {T : TypeId} {fr : Nat × Nat} (k : Vector UInt8 n) (hg : hp w g = some (.cells C T fr)) (o c : Nat) (hc : ∀ i, i < n → C[o + i]? = (bv k)[i]?) (hn : n ≤ c) (hm : c ≤ maxLen) : Rd w (.slice (some ⟨g, o, none⟩) n c) k.toList := by
  refine ⟨_, _, by rw [Vector.length_toList], by simpa using hn, hm, fun _ => ⟨_, rfl, fun j u hu => ?_⟩⟩
  have hj := (List.getElem?_eq_some_iff.1 hu).1
  simp [cb] at hj
  have ha : (⟨g, o, none⟩ : Addr).add j = ⟨g, o + j, none⟩ := by unfold Addr.add; split <;> simp_all
  rw [ha, hp_cell hg, hc j hj, ← hu]
  simp [bv, cb, hj]
end Go.Proofs.YtinngljphjdpoaaGreatDoor.Ft
