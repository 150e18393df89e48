/- The program's write: what a message's bytes are; the closures. -/
import Derived.Test.YtinngljphjdpoaaGreatDoorJEq
import Derived.Test.YtinngljphjdpoaaGreatDoorJRq
namespace Go.Proofs.YtinngljphjdpoaaGreatDoor.Es
open Go Go.RowKit Go.Proofs.YtinngljphjdpoaaGreatDoor.Pa Go.Proofs.YtinngljphjdpoaaGreatDoor.Pb Go.Proofs.YtinngljphjdpoaaGreatDoor.Pf Go.Proofs.YtinngljphjdpoaaGreatDoor.Pq Go.Proofs.YtinngljphjdpoaaGreatDoor.Sc Go.Proofs.YtinngljphjdpoaaGreatDoor.Rs Go.Proofs.YtinngljphjdpoaaGreatDoor.Hs Go.Proofs.YtinngljphjdpoaaGreatDoor.Va Go.Proofs.YtinngljphjdpoaaGreatDoor.Ca Go.Proofs.YtinngljphjdpoaaGreatDoor.Ce Go.Proofs.YtinngljphjdpoaaGreatDoor.Ea Go.Proofs.YtinngljphjdpoaaGreatDoor.Eb Go.Proofs.YtinngljphjdpoaaGreatDoor.Eu Go.Proofs.YtinngljphjdpoaaGreatDoor.Eq Go.Proofs.YtinngljphjdpoaaGreatDoor.Hx Go.Proofs.YtinngljphjdpoaaGreatDoor.Vo
set_option linter.unusedVariables false
set_option linter.unusedSimpArgs false
/-- A slot's field, by the program: number and bytes within. -/
def numW (t : Slot) (x : Vu.Va) : Nat := if t.kind = 5 ∨ t.kind = 6 ∨ t.kind = 8 ∨ t.kind = 9 then 0 else x.num
def datW (e : List Slot → Vu.Va → List UInt8) (t : Slot) (x : Vu.Va) : List UInt8 :=
  if t.kind = 5 ∨ t.kind = 6 then x.data else if t.kind = 8 then e t.sub x else if t.kind = 9 then Ep.join (x.parts.map (e t.sub)) else []
def fdW (e : List Slot → Vu.Va → List UInt8) (t : Slot) (x : Vu.Va) : Ep.Fd := ⟨t.no, (wt t.kind : Nat), numW t x, datW e t x⟩
/-- A message's bytes, by the program. -/
def encW : Nat → List Slot → Vu.Va → List UInt8
  | 0, _, _ => []
  | n + 1, s, x => Ep.enc (List.zipWith (fdW (encW n)) s x.parts)
theorem encW_len (n : Nat) (s : List Slot) (x : Vu.Va) : (encW n s x).length ≤ 4194304 := by
  cases n with
  | zero => simp [encW]
  | succ n => exact Ep.enc_len _
/-- A field as its closure hands it back. -/
def fval (num : Nat) (A : Option Addr) (dl c : Nat) : Value := .agg #[.int .i64 0, .int .i64 0, .int .u64 (num : Int), .slice A dl c]
theorem v2b (w : World) (o o' : Obj) : Below w.heap.size w ((w.alloc o).alloc o') := (vb w o).trans ((vb _ o').mono (by simp))
set_option maxRecDepth 100000 in
theorem wr3 (num dl pl : Nat) (Ad Ap : Option Addr) (cd cp : Nat) (w : World) : Calls Tryz.prog 119 #[.agg #[.int .u64 (num : Int), .slice Ad dl cd, .slice Ap pl cp]] w fun e w' => e = .returned (.agg #[.int .i64 0, .int .i64 0, .int .u64 (num : Int), .slice none 0 0]) ∧ Below w.heap.size w w' := by
  go_enter Tryz.func119, Tryz.ntmps119
  go_wp2_with fail
  exact ret_row Tryz.results119 Tryz.underlying140 rfl (by kernel_rfl) rfl (hp_alloc_at _ _ (by simp)) rfl ⟨rfl, v2b _ _ _⟩
set_option maxRecDepth 100000 in
theorem wr5 (num dl pl : Nat) (Ad Ap : Option Addr) (cd cp : Nat) (w : World) : Calls Tryz.prog 122 #[.agg #[.int .u64 (num : Int), .slice Ad dl cd, .slice Ap pl cp]] w fun e w' => e = .returned (.agg #[.int .i64 0, .int .i64 0, .int .u64 0, .slice Ad dl cd]) ∧ Below w.heap.size w w' := by
  go_enter Tryz.func122, Tryz.ntmps122
  go_wp2_with fail
  exact ret_row Tryz.results122 Tryz.underlying140 rfl (by kernel_rfl) rfl (hp_alloc_at _ _ (by simp)) rfl ⟨rfl, v2b _ _ _⟩
/-- What write answers. -/
def WrSaid (n : Nat) : Prop := ∀ (S : Pl) (k j : Nat) (g : Nat) (l : List Slot) (nv dv pv : Value) (x : Vu.Va) (deep : Int) (U : List UInt8 → Bool) (W w : World), Cd W S n g l → Vu.RdV W k nv dv pv x → FewV (k + 1) x → okL j l → Below W.heap.size W w → (Vu.chk Vh.pF U n l x deep).2.2 = 0 →
  Calls Tryz.prog 57 #[.pointer (some ⟨g, 0, none⟩), .agg #[nv, dv, pv]] w fun e w' => ∃ v', e = .returned v' ∧ Own w' w.heap.size 5 v' (encW n l x) ∧ Below w.heap.size w w'
/-- The world where a field is laid. -/
def set4 (w : World) (g : Nat) (a b c d : Value) : World := (((w.setCell ⟨g, 0, none⟩ a).setCell ⟨g, 1, none⟩ b).setCell ⟨g, 2, none⟩ c).setCell ⟨g, 3, none⟩ d
theorem hp_set4 {w : World} {g : Nat} {p q r s : Value} {t : TypeId} (h : hp w g = some (.cells #[p, q, r, s] t (0, 0))) (a b c d : Value) : hp (set4 w g a b c d) g = some (.cells #[a, b, c, d] t (0, 0)) := by
  have h1 := heap_setCell_same w g 0 _ _ a h
  have h2 := heap_setCell_same _ g 1 _ _ b h1
  have h3 := heap_setCell_same _ g 2 _ _ c h2
  exact heap_setCell_same _ g 3 _ _ d h3
theorem below_set4 {B : Nat} {w0 w : World} (h : Below B w0 w) {g : Nat} (hg : B ≤ g) (a b c d : Value) : Below B w0 (set4 w g a b c d) := (((h.setCell hg _).setCell hg _).setCell hg _).setCell hg _
theorem set4_other (w : World) (g k : Nat) (a b c d : Value) (h : k ≠ g) : (set4 w g a b c d).heap[k]? = w.heap[k]? := by
  unfold set4
  rw [heap_setCell_other _ _ _ _ h, heap_setCell_other _ _ _ _ h, heap_setCell_other _ _ _ _ h, heap_setCell_other _ _ _ _ h]
theorem own_set4 {w : World} {base g : Nat} {v : Value} {l : List UInt8} (h : Own w base 5 v l) (hg : g < base) (a b c d : Value) : Own (set4 w g a b c d) base 5 v l :=
  World.ownsRow.kept h (row := some g) ⟨rfl, rfl, rfl, by simp [set4, World.setCell], fun b _ hne => set4_other _ _ _ _ _ _ _ (fun e => hne (by rw [e]))⟩ (.inr (fun e => by have := (h.lt _ e).1; omega))
set_option maxHeartbeats 1000000 in
set_option maxRecDepth 100000 in
/-- The closure of a message's slot. -/
theorem wr7 (n : Nat) (IH : WrSaid n) (S : Pl) (k j g b9 : Nat) (l : List Slot) (nv dv pv : Value) (x : Vu.Va) (deep : Int) (U : List UInt8 → Bool) (W w : World) (hc : Cd W S n g l) (hx : Vu.RdV W k nv dv pv x) (hf : FewV (k + 1) x) (hl : okL j l) (hB : Below W.heap.size W w) (hk : (Vu.chk Vh.pF U n l x deep).2.2 = 0)
    (hb9 : hp W b9 = some (.cells #[.pointer (some ⟨g, 0, none⟩)] 197 (0, 0))) :
    Calls Tryz.prog 124 #[.agg #[nv, dv, pv], .pointer (some ⟨b9, 0, none⟩)] w fun e w' => ∃ A c, e = .returned (.agg #[.int .i64 0, .int .i64 0, .int .u64 0, .slice A (encW n l x).length c]) ∧ Own w' w.heap.size 5 (.slice A (encW n l x).length c) (encW n l x) ∧ Below w.heap.size w w' := by
  have hcall := fun w2 (h : Below w.heap.size w w2) => IH S k j g l nv dv pv x deep U W w2 hc hx hf hl (hB.trans (h.mono hB.size)) hk
  obtain ⟨hnum, rfl, hdv, hpv⟩ := hx
  obtain ⟨Ad, cd, rfl, -⟩ := hdv
  obtain ⟨Ap, cp, rfl, -⟩ := hpv.slice
  obtain ⟨w2, hw2⟩ : ∃ y, y = (w.alloc (.cells #[.int .u64 (x.num : Int), .slice Ad x.data.length cd, .slice Ap x.parts.length cp] 32)).alloc (.cells #[.int .i64 0, .int .i64 0, .int .u64 0, .slice none 0 0] 140) := ⟨_, rfl⟩
  have hb2 : Below w.heap.size w w2 := by rw [hw2]; exact v2b _ _ _
  have hx2 : hp w2 w.heap.size = some (.cells #[.int .u64 (x.num : Int), .slice Ad x.data.length cd, .slice Ap x.parts.length cp] 32 (0, 0)) := by rw [hw2]; exact (hp_alloc_past _ _ (by simp)).trans (hp_alloc_at _ _ rfl)
  have hr2 : hp w2 (w.heap.size + 1) = some (.cells #[.int .i64 0, .int .i64 0, .int .u64 0, .slice none 0 0] 140 (0, 0)) := by rw [hw2]; exact hp_alloc_at _ _ (by simp)
  have hbw := below_hp hb9 (hB.trans (hb2.mono hB.size))
  have hb9c := fun i => hp_cell hbw i
  have hxc := fun i => hp_cell hx2 i
  have HC := Lib.hid hcall; have HB2 := Lib.hid hb2; have HR2 := Lib.hid hr2
  clear hcall hpv hc hB hb2 hx2 hr2 hbw hb9 hk hf
  generalize encW n l x = R at *
  go_enter Tryz.func124, Tryz.ntmps124
  go_upto_region 1 with fail
  rw [← hw2]
  clear hw2
  go_wp2_with (go_at_call 9999)
  go_at_call 57
  refine (HC.out _ HB2.out).mono ?_
  rintro _ w3 ⟨v3, rfl, ho3, b3⟩
  obtain ⟨A3, c3, rfl⟩ := ho3.slice
  have hr3 := below_hp HR2.out b3
  have hrc := fun i => hp_cell hr3 i
  have hrf := fun i => hp_frozen hr3 i
  have hs2 : w.heap.size + 1 < w2.heap.size := (Array.getElem?_eq_some_iff.1 HR2.out).1
  have hb3 := HB2.out.trans (b3.mono HB2.out.size)
  have hov := (own_set4 ho3 (show w.heap.size + 1 < w2.heap.size by omega) (.int .i64 0) (.int .i64 0) (.int .u64 0) (.slice A3 R.length c3)).mono (base' := w.heap.size) (by omega)
  have HO3 := Lib.hid hov; have HR3 := Lib.hid hr3; have HB3 := Lib.hid hb3
  clear ho3 b3 hr3 hb3 hov hxc hb9c
  go_wp2_with fail
  exact ret_row Tryz.results124 Tryz.underlying140 rfl (by kernel_rfl) rfl (hp_set4 HR3.out (.int .i64 0) (.int .i64 0) (.int .u64 0) (.slice A3 R.length c3)) rfl ⟨A3, c3, rfl, HO3.out, below_set4 HB3.out (by omega) _ _ _ _⟩
theorem items_ok (f : Vu.Va → Vu.Flt) : ∀ (l : List Vu.Va), (Vu.itemsGo f l).2.2 = 0 → ∀ y ∈ l, (f y).2.2 = 0
  | [], _, y, hy => by cases hy
  | z :: r, h, y, hy => by
    simp only [Vu.itemsGo] at h
    split at h
    · rename_i h1; exact absurd h h1
    · rename_i h1
      rcases List.mem_cons.1 hy with rfl | hy
      · exact Classical.byContradiction h1
      · exact items_ok f r h y hy
/-- The three boxes of a list's write. -/
def B3 (w : World) (g a b num : Nat) (Ad : Option Addr) (dl cd : Nat) (Ap : Option Addr) (pl cp : Nat) (W : World) : Prop :=
  Below w.heap.size w W ∧ w.heap.size + 3 ≤ W.heap.size ∧ hp W w.heap.size = some (.cells #[.pointer (some ⟨g, 0, none⟩), .int .u64 (a : Int), .int .u64 (b : Int)] 201 (0, 0)) ∧
  hp W (w.heap.size + 1) = some (.cells #[.int .u64 (num : Int), .slice Ad dl cd, .slice Ap pl cp] 32 (0, 0)) ∧ hp W (w.heap.size + 2) = some (.cells #[.int .i64 0, .int .i64 0, .int .u64 0, .slice none 0 0] 140 (0, 0))
theorem B3.below {w : World} {g a b num : Nat} {Ad : Option Addr} {dl cd : Nat} {Ap : Option Addr} {pl cp : Nat} {W W' : World} (h : B3 w g a b num Ad dl cd Ap pl cp W) (hb : Below W.heap.size W W') : B3 w g a b num Ad dl cd Ap pl cp W' :=
  ⟨h.1.trans (hb.mono h.1.size), Nat.le_trans h.2.1 hb.size, below_hp h.2.2.1 hb, below_hp h.2.2.2.1 hb, below_hp h.2.2.2.2 hb⟩
theorem B3.grown {w : World} {g a b num : Nat} {Ad : Option Addr} {dl cd : Nat} {Ap : Option Addr} {pl cp : Nat} {W W' : World} {row : Option Nat} (h : B3 w g a b num Ad dl cd Ap pl cp W) (hk : ∀ q, q < W.heap.size → row ≠ some q → W'.heap[q]? = W.heap[q]?) (hr : ∀ q, row = some q → w.heap.size + 3 ≤ q)
    (hb : Below w.heap.size w W') (hs : W.heap.size ≤ W'.heap.size) : B3 w g a b num Ad dl cd Ap pl cp W' := by
  have hs3 := h.2.1
  have k : ∀ q, q < w.heap.size + 3 → hp W' q = hp W q := fun q hq => hk q (by omega) (fun e => by have := hr q e; omega)
  exact ⟨hb, by omega, (k _ (by omega)).trans h.2.2.1, (k _ (by omega)).trans h.2.2.2.1, (k _ (by omega)).trans h.2.2.2.2⟩
set_option maxHeartbeats 2000000 in
set_option maxRecDepth 100000 in
/-- The closure of a list's slot. -/
theorem wrL (n : Nat) (IH : WrSaid n) (S : Pl) (k j g a b : Nat) (l : List Slot) (nv dv pv : Value) (x : Vu.Va) (deep : Int) (U : List UInt8 → Bool) (W w : World) (hc : Cd W S n g l) (hx : Vu.RdV W k nv dv pv x) (hf : FewV (k + 1) x) (hl : okL j l) (hB : Below W.heap.size W w)
    (hk : (Vu.itemsGo (fun y => Vu.chk Vh.pF U n l y deep) x.parts).2.2 = 0) :
    Calls Tryz.prog 127 #[.agg #[.pointer (some ⟨g, 0, none⟩), .int .u64 (a : Int), .int .u64 (b : Int)], .agg #[nv, dv, pv]] w fun e w' => ∃ A c, e = .returned (.agg #[.int .i64 0, .int .i64 0, .int .u64 0, .slice A (Ep.join (x.parts.map (encW n l))).length c]) ∧ Own w' w.heap.size 5 (.slice A (Ep.join (x.parts.map (encW n l))).length c) (Ep.join (x.parts.map (encW n l))) ∧ Below w.heap.size w w' := by
  have hko := items_ok _ x.parts hk
  obtain ⟨hnum, rfl, hdv, hpv⟩ := hx
  obtain ⟨Ad, cd, rfl, -⟩ := hdv
  obtain ⟨Ap, cp, rfl, -⟩ := hpv.slice
  obtain ⟨k, rfl⟩ := hpv.pos
  obtain ⟨hf1, hf2, hf3⟩ := hf
  obtain ⟨w2, hw2⟩ : ∃ y, y = ((w.alloc (.cells #[.pointer (some ⟨g, 0, none⟩), .int .u64 (a : Int), .int .u64 (b : Int)] 201)).alloc (.cells #[.int .u64 (x.num : Int), .slice Ad x.data.length cd, .slice Ap x.parts.length cp] 32)).alloc (.cells #[.int .i64 0, .int .i64 0, .int .u64 0, .slice none 0 0] 140) := ⟨_, rfl⟩
  have hbx : B3 w g a b x.num Ad x.data.length cd Ap x.parts.length cp w2 := by
    have h : ∀ {w' : World} (o : Obj), Below w.heap.size w w' → Below w.heap.size w (w'.alloc o) := fun o hb => hb.alloc hb.size _
    rw [hw2]
    exact ⟨h _ (h _ (h _ (Below.refl _ _))), by simp, (hp_alloc_past _ _ (by simp; omega)).trans ((hp_alloc_past _ _ (by simp)).trans (hp_alloc_at _ _ rfl)), (hp_alloc_past _ _ (by simp)).trans (hp_alloc_at _ _ (by simp)), hp_alloc_at _ _ (by simp)⟩
  have hcall := fun (i : Nat) (hi : i < x.parts.length) (nv2 dv2 pv2 : Value) (hxx : Vu.RdV W k nv2 dv2 pv2 x.parts[i]) w3 (h : Below w.heap.size w w3) => IH S k j g l nv2 dv2 pv2 x.parts[i] deep U W w3 hc hxx (hf3 _ (List.getElem_mem hi)) hl (hB.trans (h.mono hB.size)) (hko _ (List.getElem_mem hi))
  have HC := Lib.hid hcall; have HBX := Lib.hid hbx; have HPV := Lib.hid hpv; have HB := Lib.hid hB
  have hWw := HB.out.size
  have hlen : ∀ y : Vu.Va, (encW n l y).length ≤ 5000000 := fun y => Nat.le_trans (encW_len n l y) (by omega)
  have HLEN := Lib.hid hlen
  clear hcall hpv hB hbx hc hk hko hf3 IH hlen hf1
  generalize encW n l = en at *
  obtain ⟨R, hR⟩ : ∃ R, R = Ep.join (x.parts.map en) := ⟨_, rfl⟩
  rw [← hR]
  have HR := Lib.hid hR; clear hR
  have hxc := fun i => hp_cell HBX.out.2.2.2.1 i
  go_enter Tryz.func127, Tryz.ntmps127
  go_upto_region 1 with fail
  rw [← hw2]
  clear hw2
  go_wp2_with fail
  clear hxc
  go_loopw [5, 13] (fun s u wr => ∃ (i : Nat) (A : Option Addr) (c : Nat) (xs : List Value), i ≤ x.parts.length ∧ u = .int .i64 i ∧ s = .slice A i c ∧ Ui wr (w.heap.size + 3) ((x.parts.take i).map en) A c xs ∧ B3 w g a b x.num Ad x.data.length cd Ap x.parts.length cp wr) (fun _ u _ => x.parts.length - (intOf u).toNat)
  case atStart => exact ⟨0, none, 0, [], by omega, rfl, rfl, Ui.nil _ _, HBX.out⟩
  case round =>
    obtain ⟨i, A, c, xs, hi, rfl, rfl, hu, hbx⟩ := hrel
    have hlt : ((x.parts.take i).map en).length = i := by simp; omega
    have hws := hbx.2.1
    by_cases hin : i < x.parts.length
    · have hbr : Below W.heap.size W wr := HB.out.trans (hbx.1.mono hWw)
      obtain ⟨ad, rfl, dv2, pv2, g1, g2, g3, g4⟩ := HPV.out.at_ i hin
      have K : ∀ a u, W.cell? a = some u → wr.cell? a = some u := fun a u hu => (World.cell?_of_block (hbr.block _ (World.block_lt_of_cell? W _ hu))).trans hu
      replace g1 := K _ _ g1; replace g2 := K _ _ g2; replace g3 := K _ _ g3
      have hca := HC.out i hin _ dv2 pv2 g4
      have htk : (x.parts.take (i + 1)).map en = (x.parts.take i).map en ++ [en x.parts[i]] := by rw [List.take_succ_eq_append_getElem hin, List.map_append]; rfl
      have hrl := HLEN.out x.parts[i]
      generalize x.parts[i] = z at *
      obtain ⟨q, hpz⟩ : ∃ q, ad.add (i * 3) = q := ⟨_, rfl⟩
      rw [Rs.add_lit _ _ _ (by omega)] at g2 g3
      rw [hpz] at g1 g2 g3
      obtain ⟨hz1, -, hz3, hz4⟩ := id g4
      obtain ⟨Ad2, cd2, rfl, -⟩ := hz3
      obtain ⟨Ap2, cp2, rfl, -⟩ := hz4.slice
      obtain ⟨w4, hw4⟩ : ∃ y, y = wr.alloc (.cells #[.int .u64 (z.num : Int), .slice Ad2 z.data.length cd2, .slice Ap2 z.parts.length cp2] 32) := ⟨_, rfl⟩
      have hb4 : Below wr.heap.size wr w4 := by rw [hw4]; exact vb _ _
      have hz4c : hp w4 wr.heap.size = some (.cells #[.int .u64 (z.num : Int), .slice Ad2 z.data.length cd2, .slice Ap2 z.parts.length cp2] 32 (0, 0)) := by rw [hw4]; exact hp_alloc_at _ _ rfl
      have hx4 := hbx.below hb4
      have hc4 := fun i => hp_cell hz4c i
      have hl4 := fun i => hp_cell hx4.2.2.1 i
      have CA := Lib.hid (hca w4 hx4.1); have HX4 := Lib.hid hx4; have HU4 := Lib.hid (hu.below hb4); have HTK := Lib.hid htk
      generalize en z = R2 at *
      clear hca hx4 hz4c hb4 g4 hz1 hz4 K hbr hu hbx htk
      go_upto_region 5 with fail
      rw [← hw4]
      clear hw4
      go_wp2_with (go_at_call 9999)
      go_at_call 57
      refine CA.out.mono ?_
      rintro _ w5 ⟨v5, rfl, ho5, b5⟩
      obtain ⟨A5, c5, rfl⟩ := ho5.slice
      have hu5 := HU4.out.below b5
      have hx5 := HX4.out.below b5
      have hown := fun k e => hu5.row.lt k e
      have hrow5 : w5.ownsRow (w.heap.size + 3) 23 1 (.slice A i c) i xs := by have := hu5.row; rwa [hlt] at this
      obtain ⟨A8, c8, w8, hap, o8, z8, e81, e82, e83, k8, ow8⟩ := pushI hrow5 (by have := hx5.2.1; omega) (by omega) (.slice A5 R2.length c5) (by intro u hu; simp only [List.mem_cons, List.not_mem_nil, or_false] at hu; subst hu; rfl)
      have hd5 : Dt w5 (Value.slice A ((x.parts.take i).map en).length c).ownBlock (.slice A5 R2.length c5) R2 := dt_own ho5 (fun k e => (HU4.out.row.lt k e).2)
      have hup := hu5.step (w6 := w5) (A' := A8) (c' := c8) R2 A5 c5 hrl (Below.refl _ _) hd5 (by rw [hlt]; exact o8) z8 (by rw [hlt]; exact k8) (by rw [hlt]; exact ow8)
      rw [← HTK.out] at hup
      have hb8 : Below w.heap.size w w8 := ⟨e81.trans hx5.1.os, e82.trans hx5.1.tape, e83.trans hx5.1.output, by have := hx5.1.size; omega, fun q hq => (k8 q (by have := hx5.2.1; omega) (fun e => by have := (hrow5.lt q e).1; omega)).trans (hx5.1.block q hq)⟩
      have hx8 := hx5.grown k8 (fun q e => (hrow5.lt q e).1) hb8 (by omega)
      have HUP := Lib.hid hup; have HX8 := Lib.hid hx8
      clear hup hx8 hb8 hd5 o8 z8 e81 e82 e83 k8 ow8 hrow5 hown hx5 hu5 ho5 b5 hc4 hl4 g1 g2 g3
      go_wp2_with fail
      go_roundw
      case rel => exact ⟨i + 1, A8, c8, _, by omega, by go_num, rfl, HUP.out, HX8.out⟩
      case measure => simp [intOf]; omega
    · obtain rfl : i = x.parts.length := by omega
      rw [List.take_length] at hu
      have hrd := hu.rd
      have hj := joinP _ (x.parts.map en) wr wr hrd (Below.refl _ _) (by simp; omega)
      have hlm : (x.parts.map en).length = x.parts.length := by simp
      rw [hlm] at hj
      rw [← HR.out] at hj
      have HJ := Lib.hid hj; have HBX2 := Lib.hid hbx
      clear hj hrd hu hbx hlt HR hlm
      go_wp2_with (go_at_call 9999)
      go_at_call 148
      refine HJ.out.mono ?_
      rintro _ w5 ⟨v5, rfl, ho5, b5⟩
      obtain ⟨A5, c5, rfl⟩ := ho5.slice
      have hx5 := HBX2.out.below b5
      have hrc := fun i => hp_cell hx5.2.2.2.2 i
      have hrf := fun i => hp_frozen hx5.2.2.2.2 i
      have hov := (own_set4 ho5 (show w.heap.size + 2 < wr.heap.size by omega) (.int .i64 0) (.int .i64 0) (.int .u64 0) (.slice A5 R.length c5)).mono (base' := w.heap.size) (by omega)
      have HO5 := Lib.hid hov; have HX5 := Lib.hid hx5
      clear ho5 b5 hx5 hov
      go_wp2_with fail
      exact ret_row Tryz.results127 Tryz.underlying140 rfl (by kernel_rfl) rfl (hp_set4 HX5.out.2.2.2.2 (.int .i64 0) (.int .i64 0) (.int .u64 0) (.slice A5 R.length c5)) rfl ⟨A5, c5, rfl, HO5.out, below_set4 HX5.out.1 (by omega) _ _ _ _⟩
end Go.Proofs.YtinngljphjdpoaaGreatDoor.Es
