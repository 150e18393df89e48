/- An argument that is a value, opened; how large a value is. No program in sight; no conditions. -/
import Derived.Test.YtpfckpaokoifhaaGreatDoorJVg
namespace Go.Proofs.YtpfckpaokoifhaaGreatDoor.Vo
open Go Go.RowKit Go.ChangeShapes Go.WideShapes Go.Deep Go.Proofs.YtpfckpaokoifhaaGreatDoor.Pa Go.Proofs.YtpfckpaokoifhaaGreatDoor.Pb Go.Proofs.YtpfckpaokoifhaaGreatDoor.Pf Go.Proofs.YtpfckpaokoifhaaGreatDoor.Sc Go.Proofs.YtpfckpaokoifhaaGreatDoor.Rs Go.Proofs.YtpfckpaokoifhaaGreatDoor.Vu
set_option linter.unusedVariables false
set_option linter.unusedSimpArgs false
instance : Inhabited Va := ⟨.mk 0 [] []⟩
section
variable {H : Type} {enc : TypeId × Value → H} {P : Program} {w : World} {base : Nat} {spare : Nat → Bool} {held : Bool}
/-- What a program must say of the type of values. -/
structure TV (P : Program) (T E U D B : TypeId) : Prop where
  sl : P.underlying T = some (.slice E)
  st : ∃ fs, P.underlying E = some (.struct fs) ∧ oneCellFields P fs = true ∧ fs.map (·.type) = #[U, D, T]
  u : P.underlying U = some (.int .u64)
  d : P.underlying D = some (.slice B)
  b : P.underlying B = some (.int .u8)
  cb : P.cellsOf B = 1
  c : P.cellsOf E = 3
theorem open_data {D B : TypeId} (hd : P.underlying D = some (.slice B)) (hb : P.underlying B = some (.int .u8)) (hc : P.cellsOf B = 1) {fuel : Nat} {v : Value} {x : DataW H × List MemPlace} (h : DataW.trod enc P w base spare held fuel D [v] = some x) :
    ∃ l : List UInt8, Rd w v l := by
  rcases open_ints hd hb hc h with ⟨hcs, _⟩ | ⟨x, n, c, zs, hcs, _, hl, hm, hz, hx, hcell, hwf⟩
  · obtain rfl : v = .slice none 0 0 := by simpa using hcs
    exact ⟨[], Rd.nil w⟩
  · obtain rfl : v = .slice (some x) n c := by simpa using hcs
    have hlz : n ≤ zs.length := by rw [hz]; split <;> omega
    refine ⟨(zs.take n).map fun z => UInt8.ofNat z.toNat, ⟨some x, c, by simp [Nat.min_eq_left hlz], by simp; omega, hm, fun _ => ⟨x, rfl, fun i u hu => ?_⟩⟩⟩
    have hi : i < n := by
      have := (List.getElem?_eq_some_iff.1 hu).1
      simp at this
      omega
    have hcl := hcell i (by omega)
    rw [hcl, ← hu]
    have hiz : i < zs.length := by omega
    have hw := bounds_u8 (hwf zs[i] (List.getElem_mem hiz))
    simp only [cb, List.map_map, List.getElem?_map, List.getElem?_take, if_pos hi, List.getElem?_eq_getElem hiz, Option.map_some, Function.comp_apply, List.getD_eq_getElem?_getD, Option.getD_some]
    congr 2
    have : (UInt8.ofNat (zs[i]).toNat).toNat = (zs[i]).toNat := by simp; omega
    rw [this]
    omega
theorem RdP.mono {w : World} : ∀ (n m : Nat) (v : Value) (l : List Va), n ≤ m → RdP w n v l → RdP w m v l
  | 0, _, _, _, _, h => h.elim
  | n + 1, 0, _, _, h, _ => absurd h (by omega)
  | n + 1, m + 1, v, l, hm, h => by
    obtain ⟨A, c, e, h1, h2, h3⟩ := h
    refine ⟨A, c, e, h1, h2, fun h0 => ?_⟩
    obtain ⟨ad, ha, hc⟩ := h3 h0
    refine ⟨ad, ha, fun i t ht => ?_⟩
    obtain ⟨g0, dv, pv, g1, g2, g3, g4, g5⟩ := hc i t ht
    exact ⟨g0, dv, pv, g1, g2, g3, g4, RdP.mono n m pv t.parts (by omega) g5⟩
/-- Parts read as values. -/
theorem open_parts {T E U D B : TypeId} (hT : TV P T E U D B) : ∀ (fuel : Nat) (v : Value) (x : DataW H × List MemPlace), DataW.trod enc P w base spare held fuel T [v] = some x → ∃ l, RdP w fuel v l := by
  intro fuel
  induction fuel using Nat.strongRecOn with
  | _ fuel ih =>
    intro v x h
    cases fuel with
    | zero => simp [DataW.trod] at h
    | succ fuel =>
      obtain ⟨fs, hu, hone, hty⟩ := hT.st
      have hsz : fs.size = 3 := by have := congrArg Array.size hty; simpa using this
      have tyAt : ∀ j (hj : j < 3), (fs[j]'(by omega)).type = (#[U, D, T] : Array TypeId)[j]'hj := by
        intro j hj
        have h1 : (fs.map (·.type))[j]'(by simp; omega) = (#[U, D, T] : Array TypeId)[j]'hj := by simp only [hty]
        simpa using h1
      rcases open_slice_fields hT.sl hu hone (by rw [hT.c, hsz]) h with ⟨e, _⟩ | ⟨a, len, cap, e, h1, h2, h3⟩
      · obtain rfl : v = .slice none 0 0 := by simpa using e
        exact ⟨[], none, 0, rfl, by simp, by simp [maxLen], fun h => absurd h (by simp)⟩
      · obtain rfl : v = .slice (some a) len cap := by simpa using e
        have hi : ∀ i, i < len → ∃ t : Va, t.num < 18446744073709551616 ∧ ∃ dv pv, w.cell? (a.add (i * 3)) = some (.int .u64 t.num) ∧ w.cell? (a.add (i * 3 + 1)) = some dv ∧ w.cell? (a.add (i * 3 + 2)) = some pv ∧ Rd w dv t.data ∧ RdP w fuel pv t.parts := by
          intro i hi
          obtain ⟨n, hn, hf⟩ := h3 i hi
          rw [hsz] at hf
          obtain ⟨v0, y0, c0, t0⟩ := hf 0 _ (Array.getElem?_eq_getElem (by omega))
          obtain ⟨v1, y1, c1, t1⟩ := hf 1 _ (Array.getElem?_eq_getElem (by omega))
          obtain ⟨v2, y2, c2, t2⟩ := hf 2 _ (Array.getElem?_eq_getElem (by omega))
          rw [Nat.add_zero] at c0
          rw [tyAt 0 (by omega)] at t0
          rw [tyAt 1 (by omega)] at t1
          rw [tyAt 2 (by omega)] at t2
          obtain ⟨z0, e0, _, w0⟩ := DataW.trod_int hT.u t0
          obtain rfl : v0 = .int .u64 z0 := by simpa using e0
          have b0 := bounds_u64 w0
          obtain ⟨m0, rfl⟩ := Int.eq_ofNat_of_zero_le b0.1
          obtain ⟨dl, hdl⟩ := open_data hT.d hT.b hT.cb t1
          obtain ⟨l, hl⟩ := ih n (by omega) v2 y2 t2
          exact ⟨.mk m0 dl l, by have := b0.2; simp only [Va.num]; omega, v1, v2, c0, c1, c2, hdl, RdP.mono n fuel v2 l (by omega) hl⟩
        obtain ⟨f, hf⟩ := choose_lt (α := Va) (p := fun i t => t.num < 18446744073709551616 ∧ ∃ dv pv, w.cell? (a.add (i * 3)) = some (.int .u64 t.num) ∧ w.cell? (a.add (i * 3 + 1)) = some dv ∧ w.cell? (a.add (i * 3 + 2)) = some pv ∧ Rd w dv t.data ∧ RdP w fuel pv t.parts) hi
        refine ⟨(List.range len).map f, some a, cap, by simp, by simpa using h1, h2, fun _ => ⟨a, rfl, fun i t ht => ?_⟩⟩
        have hil : i < len := by
          have := (List.getElem?_eq_some_iff.1 ht).1
          simpa using this
        have : t = f i := by
          simp [List.getElem?_map, List.getElem?_range hil] at ht
          exact ht.symm
        subst this
        exact hf i hil
/-- An argument that is a value. -/
theorem open_value {T E U D B : TypeId} (hT : TV P T E U D B) {v : Value} {d : DataW H} {ps : List MemPlace} {r : Reach} {b0 : Nat} (hv : Value.okWide P w r b0 E v) (h : DataW.Trod enc P w base spare held E v d ps) :
    ∃ n nv dv pv x, v = .agg #[nv, dv, pv] ∧ RdV w n nv dv pv x := by
  obtain ⟨fuel, hf⟩ := h
  obtain ⟨fs, hu, hone, hty⟩ := hT.st
  have hsz : fs.size = 3 := by have := congrArg Array.size hty; simpa using this
  have tyAt : ∀ j (hj : j < 3), (fs[j]'(by omega)).type = (#[U, D, T] : Array TypeId)[j]'hj := by
    intro j hj
    have h1 : (fs.map (·.type))[j]'(by simp; omega) = (#[U, D, T] : Array TypeId)[j]'hj := by simp only [hty]
    simpa using h1
  obtain ⟨cs, rfl⟩ : ∃ cs, v = .agg cs := by
    simp only [Value.okWide, hu] at hv
    obtain ⟨cs, h1, _⟩ := hv
    exact ⟨cs, h1⟩
  obtain ⟨ys, n', hn', hy, hlen, hyl, hff⟩ := DataW.trod_struct hu hf
  rw [hT.c] at hlen
  have hlen' : cs.size = 3 := by simpa [Value.cells] using hlen
  obtain ⟨nv, dv, pv, rfl⟩ : ∃ nv dv pv, cs = #[nv, dv, pv] := ⟨cs[0], cs[1], cs[2], by
    apply Array.ext
    · simp [hlen']
    · intro i h1 h2
      have : i = 0 ∨ i = 1 ∨ i = 2 := by simp at h2; omega
      rcases this with rfl | rfl | rfl <;> rfl⟩
  have at_ : ∀ j (hj : j < 3), ∃ y : DataW H × List MemPlace, DataW.trod enc P w base spare held n' ((#[U, D, T] : Array TypeId)[j]'hj) [(#[nv, dv, pv] : Array Value)[j]'hj] = some y := by
    intro j hj
    obtain ⟨ho, hk⟩ := hone_of hone j _ (Array.getElem?_eq_getElem (by omega))
    have h1 := hff j _ (Array.getElem?_eq_getElem (by omega))
    rw [ho, hk, tyAt j hj] at h1
    have hjy : j < ys.length := by omega
    refine ⟨ys[j], ?_⟩
    rw [List.getElem?_eq_getElem hjy] at h1
    rw [← h1]
    congr 1
    have : j = 0 ∨ j = 1 ∨ j = 2 := by omega
    rcases this with rfl | rfl | rfl <;> rfl
  obtain ⟨y0, t0⟩ := at_ 0 (by omega)
  obtain ⟨y1, t1⟩ := at_ 1 (by omega)
  obtain ⟨y2, t2⟩ := at_ 2 (by omega)
  obtain ⟨z0, e0, _, w0⟩ := DataW.trod_int hT.u t0
  obtain rfl : nv = .int .u64 z0 := by simpa using e0
  have b0 := bounds_u64 w0
  obtain ⟨m0, rfl⟩ := Int.eq_ofNat_of_zero_le b0.1
  obtain ⟨dl, hdl⟩ := open_data hT.d hT.b hT.cb t1
  obtain ⟨l, hl⟩ := open_parts hT n' pv y2 t2
  exact ⟨n', _, dv, pv, .mk m0 dl l, rfl, by have := b0.2; simp only [Va.num]; omega, rfl, hdl, hl⟩
end
/-! ### How large a value is -/
/-- What valueLeft leaves. -/
def vlGo (f : Va → Int → Int) : List Va → Int → Int
  | [], left => left
  | y :: p, left => if left < 0 then left else vlGo f p (f y left)
def vl : Nat → Va → Int → Int
  | 0, _, left => left
  | n + 1, x, left => vlGo (vl n) x.parts (left - 1 - ((x.data.length / 64 : Nat) : Int))
theorem vlGo_neg (f : Va → Int → Int) : ∀ (p : List Va) (left : Int), left < 0 → vlGo f p left = left
  | [], _, _ => rfl
  | _ :: _, left, h => by simp [vlGo, h]
theorem vlGo_drop (f : Va → Int → Int) (p : List Va) (i : Nat) (left : Int) (hi : i < p.length) (h : 0 ≤ left) : vlGo f (p.drop i) left = vlGo f (p.drop (i + 1)) (f p[i] left) := by
  rw [List.drop_eq_getElem_cons hi]
  simp only [vlGo]
  rw [if_neg (by omega)]
theorem vlGo_le (f : Va → Int → Int) (hf : ∀ y l, f y l ≤ l) : ∀ (p : List Va) (left : Int), vlGo f p left ≤ left
  | [], left => Int.le_refl _
  | y :: p, left => by
    simp only [vlGo]
    split
    · omega
    · have := vlGo_le f hf p (f y left); have := hf y left; omega
theorem vl_le : ∀ (n : Nat) (x : Va) (left : Int), vl n x left ≤ left
  | 0, _, left => Int.le_refl _
  | n + 1, x, left => by
    have := vlGo_le (vl n) (vl_le n) x.parts (left - 1 - ((x.data.length / 64 : Nat) : Int))
    unfold vl; omega
/-- Such a value has but so much of each, less than n levels deep. -/
def FewV : Nat → Va → Prop
  | 0, _ => False
  | n + 1, x => x.data.length ≤ 700000 ∧ x.parts.length ≤ 10000 ∧ ∀ y ∈ x.parts, FewV n y
theorem vlGo_few (f : Va → Int → Int) (hf : ∀ y l, f y l ≤ l - 1) : ∀ (p : List Va) (left : Int), 0 ≤ vlGo f p left → (p.length : Int) ≤ left ∧ ∀ y ∈ p, ∃ q : Int, q ≤ left ∧ 0 ≤ f y q
  | [], left, h => by simp [vlGo] at h; exact ⟨by simpa using h, by simp⟩
  | y :: p, left, h => by
    simp only [vlGo] at h
    split at h
    · omega
    · obtain ⟨h1, h2⟩ := vlGo_few f hf p _ h
      have h3 := hf y left
      refine ⟨by simp; omega, fun z hz => ?_⟩
      rcases List.mem_cons.1 hz with rfl | hz
      · exact ⟨left, Int.le_refl _, by omega⟩
      · obtain ⟨q, hq, h0⟩ := h2 z hz
        exact ⟨q, by omega, h0⟩
/-- How deep a value's parts go. -/
def lv : Nat → Va → Prop
  | 0, _ => False
  | n + 1, x => ∀ y ∈ x.parts, lv n y
theorem vl_lt (n : Nat) (x : Va) (left : Int) : vl (n + 1) x left ≤ left - 1 := by
  have := vlGo_le (vl n) (vl_le n) x.parts (left - 1 - ((x.data.length / 64 : Nat) : Int))
  unfold vl; omega
theorem vlGo_few2 (f : Va → Int → Int) (p : List Va) (hf : ∀ y ∈ p, ∀ l, f y l ≤ l - 1) (left : Int) (h : 0 ≤ vlGo f p left) : (p.length : Int) ≤ left ∧ ∀ y ∈ p, ∃ q : Int, q ≤ left ∧ 0 ≤ f y q := by
  induction p generalizing left with
  | nil => simp [vlGo] at h; exact ⟨by simpa using h, by simp⟩
  | cons y p ih =>
    simp only [vlGo] at h
    split at h
    · omega
    · obtain ⟨h1, h2⟩ := ih (fun z hz => hf z (by simp [hz])) _ h
      have h3 := hf y (by simp) left
      refine ⟨by simp; omega, fun z hz => ?_⟩
      rcases List.mem_cons.1 hz with rfl | hz
      · exact ⟨left, Int.le_refl _, by omega⟩
      · obtain ⟨q, hq, h0⟩ := h2 z hz
        exact ⟨q, by omega, h0⟩
theorem RdP.lv {w : World} : ∀ (n : Nat) (v : Value) (l : List Va), RdP w n v l → ∀ y ∈ l, lv n y
  | 0, _, _, h => h.elim
  | n + 1, v, l, h => fun y hy => by
    obtain ⟨A, c, e, h1, h2, h3⟩ := h
    obtain ⟨i, hi, rfl⟩ := List.getElem_of_mem hy
    obtain ⟨ad, ha, hc⟩ := h3 (by omega)
    obtain ⟨g0, dv, pv, g1, g2, g3, g4, g5⟩ := hc i l[i] (by simp [hi])
    exact RdP.lv n pv _ g5
theorem few_of : ∀ (n : Nat) (x : Va) (left : Int), lv n x → left ≤ 10001 → 0 ≤ vl n x left → FewV n x
  | 0, _, _, h, _, _ => h.elim
  | n + 1, x, left, hl, h1, h2 => by
    unfold vl at h2
    have hpos : ∀ y ∈ x.parts, ∀ l, vl n y l ≤ l - 1 := by
      intro y hy l
      have := hl y hy
      cases n with
      | zero => exact this.elim
      | succ n => exact vl_lt n y l
    obtain ⟨h3, h4⟩ := vlGo_few2 (vl n) x.parts hpos _ h2
    refine ⟨by omega, by omega, fun y hy => ?_⟩
    obtain ⟨q, hq, h0⟩ := h4 y hy
    exact few_of n y q (hl y hy) (by omega) h0
end Go.Proofs.YtpfckpaokoifhaaGreatDoor.Vo
/- valueLeft, bigValue. -/
namespace Go.Proofs.YtpfckpaokoifhaaGreatDoor.Vk
open Go Go.RowKit Go.Proofs.YtpfckpaokoifhaaGreatDoor.Pa Go.Proofs.YtpfckpaokoifhaaGreatDoor.Pb Go.Proofs.YtpfckpaokoifhaaGreatDoor.Pf Go.Proofs.YtpfckpaokoifhaaGreatDoor.Sc Go.Proofs.YtpfckpaokoifhaaGreatDoor.Rs Go.Proofs.YtpfckpaokoifhaaGreatDoor.Vu Go.Proofs.YtpfckpaokoifhaaGreatDoor.Vo
set_option linter.unusedVariables false
set_option linter.unusedSimpArgs false
theorem b1 (w : World) (o : Obj) : Below w.heap.size w (w.alloc o) := (Below.refl _ _).alloc (Nat.le_refl _) _
set_option maxHeartbeats 1000000 in
set_option maxRecDepth 100000 in
theorem valueLeft : ∀ (n : Nat) (nv dv pv : Value) (x : Va) (left : Int) (W w : World), RdV W n nv dv pv x → Below W.heap.size W w → 0 ≤ left → left ≤ 10000 →
    Calls Tryz.prog 16 #[.agg #[nv, dv, pv], .int .i64 left] w fun e w' => e = .returned (.int .i64 (vl (n + 1) x left)) ∧ Below w.heap.size w w' ∧ -288230376151711744 ≤ vl (n + 1) x left := by
  intro n
  induction n with
  | zero => exact fun nv dv pv x left W w h _ _ _ => h.2.2.2.elim
  | succ n ih =>
    intro nv dv pv x left W w h hB h1 h2
    obtain ⟨hnum, rfl, hdv, hpv⟩ := h
    obtain ⟨Ad, cd, rfl, hd1, hd2⟩ : ∃ A c, dv = .slice A x.data.length c ∧ x.data.length ≤ c ∧ c ≤ maxLen := by obtain ⟨A, c, e, h1, h2, -⟩ := hdv; exact ⟨A, c, e, h1, h2⟩
    obtain ⟨Ap, cp, rfl, hp1, hp2⟩ := hpv.slice
    unfold maxLen at hd2 hp2
    have IH := Lib.hid ih; have H := Lib.hid hpv; have HB := Lib.hid hB; clear ih hpv hdv hB
    obtain ⟨w1, hw1⟩ : ∃ y, y = w.alloc (.cells #[.int .u64 x.num, .slice Ad x.data.length cd, .slice Ap x.parts.length cp] 27) := ⟨_, rfl⟩
    have hC : hp w1 w.heap.size = some (.cells #[.int .u64 x.num, .slice Ad x.data.length cd, .slice Ap x.parts.length cp] 27 (0, 0)) := by rw [hw1]; exact hp_alloc_at _ _ rfl
    have hsz : w1.heap.size = w.heap.size + 1 := by rw [hw1]; simp
    have hb1 : Below w.heap.size w w1 := by rw [hw1]; exact b1 _ _
    have hq : ((x.data.length : Int)).tdiv 64 = ((x.data.length / 64 : Nat) : Int) := by rw [Int.tdiv_eq_ediv_of_nonneg (by omega)]; omega
    obtain ⟨T, hT⟩ : ∃ T, T = vl (n + 2) x left := ⟨_, rfl⟩
    rw [← hT]
    have hT2 : vlGo (vl (n + 1)) x.parts (left - 1 - ((x.data.length / 64 : Nat) : Int)) = T := by rw [hT]; rfl
    have HT := Lib.hid hT2; clear hT hT2
    generalize hdl : x.data.length = dl at *
    generalize x.num = num at *
    clear hdl
    obtain ⟨L, hL⟩ : ∃ L, L = left - 1 - ((dl / 64 : Nat) : Int) := ⟨_, rfl⟩
    rw [← hL] at HT
    have HL := Lib.hid hL
    have HC := Lib.hid hC; have HSZ := Lib.hid hsz; have HB1 := Lib.hid hb1; clear hC hsz hb1 hL
    go_enter Tryz.func16, Tryz.ntmps16
    go_wp2_with fail
    rw [← hw1]
    have hLb : -288230376151711744 ≤ L ∧ L ≤ 10000 := by have := HL.out; omega
    have HLB := Lib.hid hLb; clear hLb hq
    go_loopw [1, 5] (fun s t wr => ∃ (i : Nat) (y : Int), i ≤ x.parts.length ∧ -288230376151711744 ≤ y ∧ y ≤ 10000 ∧ s = .int .i64 y ∧ t = .int .i64 i ∧ vlGo (vl (n + 1)) (x.parts.drop i) y = T ∧ Below w1.heap.size w1 wr) (fun _ t _ => x.parts.length - (intOf t).toNat)
    case atStart => exact ⟨0, L, by omega, HLB.out.1, HLB.out.2, by rw [HL.out]; congr 1, rfl, HT.out, Below.refl _ _⟩
    case round =>
      obtain ⟨i, y, hi, hy1, hy2, rfl, rfl, he, hbw⟩ := hrel
      have HE := Lib.hid he; have HBW := Lib.hid hbw; clear he hbw
      have hCr : hp wr w.heap.size = some (.cells #[.int .u64 num, .slice Ad dl cd, .slice Ap x.parts.length cp] 27 (0, 0)) := (HBW.out.hp _ (by have := HSZ.out; omega)).trans HC.out
      have hcr := fun i => hp_cell hCr i
      clear hCr
      by_cases hil : i < x.parts.length
      · by_cases hy0 : 0 ≤ y
        · have hBr : Below W.heap.size W wr := HB.out.trans ((HB1.out.trans (HBW.out.mono HB1.out.size)).mono HB.out.size)
          obtain ⟨ad, rfl, dv', pv', g1, g2, g3, g4⟩ := H.out.at_ i hil
          have hst := vlGo_drop (vl (n + 1)) x.parts i y hil hy0
          have hle := vl_le (n + 1) x.parts[i] y
          have k : ∀ a u, W.cell? a = some u → wr.cell? a = some u := fun a u hu => (World.cell?_of_block (hBr.block _ (World.block_lt_of_cell? W _ hu))).trans hu
          replace g1 := k _ _ g1; replace g2 := k _ _ g2; replace g3 := k _ _ g3
          have hcall := IH.out _ _ _ _ y W wr g4 hBr hy0 hy2
          rw [hst] at HE
          generalize x.parts[i] = z at *
          obtain ⟨pz, hpz⟩ : ∃ pz, ad.add (i * 3) = pz := ⟨_, rfl⟩
          rw [add_lit _ _ _ (by omega)] at g2 g3
          rw [hpz] at g1 g2 g3
          have HCALL := Lib.hid hcall; clear hcall g4 k hst
          obtain ⟨V, hV⟩ : ∃ V, V = vl (n + 1) z y := ⟨_, rfl⟩
          rw [← hV] at HCALL HE hle
          clear hV
          go_wp2_with (go_at_call 9999)
          go_at_call 16
          refine HCALL.out.mono ?_
          rintro _ w2 ⟨rfl, b2, hge⟩
          have HB2 := Lib.hid (HBW.out.trans (b2.mono HBW.out.size)); clear b2 hcr g1 g2 g3
          go_wp2_with fail
          go_roundw
          case rel => exact ⟨i + 1, V, by omega, hge, by omega, rfl, by go_num, HE.out, HB2.out⟩
          case measure => simp [intOf]; omega
        · have hfin : T = y := by rw [← HE.out, vlGo_neg _ _ _ (by omega)]
          subst hfin
          have HB2 := Lib.hid (HB1.out.trans (HBW.out.mono HB1.out.size))
          clear HE
          go_wp2_with fail
          go_ret
          first | exact ⟨rfl, HB2.out, hy1⟩ | exact ⟨rfl, HB2.out⟩
      · obtain rfl : i = x.parts.length := by omega
        have hfin : T = y := by rw [← HE.out, List.drop_length]; rfl
        subst hfin
        have HB2 := Lib.hid (HB1.out.trans (HBW.out.mono HB1.out.size))
        clear HE
        go_wp2_with fail
        go_ret
        first | exact ⟨rfl, HB2.out, hy1⟩ | exact ⟨rfl, HB2.out⟩
theorem big {n : Nat} {nv dv pv : Value} {x : Va} {W : World} (w : World) (h : RdV W n nv dv pv x) (hb : Below W.heap.size W w) :
    Calls Tryz.prog 6 #[.agg #[nv, dv, pv]] w fun e w' => e = .returned (.bool (decide (vl (n + 1) x 10000 < 0))) ∧ Below w.heap.size w w' := by
  have hv := fun w1 (h1 : Below w.heap.size w w1) => valueLeft n nv dv pv x 10000 W w1 h (hb.trans (h1.mono hb.size)) (by omega) (by omega)
  have HV := Lib.hid hv
  obtain ⟨hnum, rfl, hdv, hpv⟩ := h
  obtain ⟨Ad, cd, rfl, -⟩ := hdv
  obtain ⟨Ap, cp, rfl, -⟩ := hpv.slice
  have HB := Lib.hid (b1 w (.cells #[.int .u64 x.num, .slice Ad x.data.length cd, .slice Ap x.parts.length cp] 27))
  clear hv hpv hb
  go_enter Tryz.func6, Tryz.ntmps6
  go_wp2_with (go_at_call 9999)
  go_at_call 16
  refine (HV.out _ HB.out).mono ?_
  rintro _ w1 ⟨rfl, b, -⟩
  have HB2 := Lib.hid (HB.out.trans (b.mono HB.out.size)); clear b
  go_wp2_with fail
  go_ret
  exact ⟨rfl, HB2.out⟩
end Go.Proofs.YtpfckpaokoifhaaGreatDoor.Vk
