/- The reference's Fold, Bytes, Start, Sum. -/
import Derived.Test.YtjlhicopinhiaaaDoorSe
namespace Go.Proofs.YtjlhicopinhiaaaDoor.Sf
open Go Go.RowKit Go.Proofs.YtjlhicopinhiaaaDoor.Pa Go.Proofs.YtjlhicopinhiaaaDoor.Pb Go.Proofs.YtjlhicopinhiaaaDoor.Pc Go.Proofs.YtjlhicopinhiaaaDoor.Pf Go.Proofs.YtjlhicopinhiaaaDoor.Sh Go.Proofs.YtjlhicopinhiaaaDoor.Sv Go.Proofs.YtjlhicopinhiaaaDoor.Sk Go.Proofs.YtjlhicopinhiaaaDoor.So Go.Proofs.YtjlhicopinhiaaaDoor.Sb Go.Proofs.YtjlhicopinhiaaaDoor.Sd Go.Proofs.YtjlhicopinhiaaaDoor.Se
set_option linter.unusedVariables false
set_option linter.unusedSimpArgs false

@[go_sem ↓] theorem ldxB64 (x : Value) : Instr.loadAt 50 x = loadX 50 x := rfl
@[go_sem] theorem ldB64 (w : World) (b o : Nat) : (loadX 50 (.pointer (some ⟨b, o, none⟩))).run Tryd.prog w = readR w b o 64 ((loadZ 50 (.pointer (some ⟨b, o, none⟩))).run Tryd.prog w) := load_agg w _ 64 _ Tryd.underlying50 rfl (by kernel_rfl) b o
@[go_sem ↓] theorem ldvB64 (x : Addr) : loadVar 50 x = loadX 50 (.pointer (some x)) := rfl
@[go_sem ↓] theorem zvxB64 : zeroValue 50 = zeroX 50 := rfl
@[go_sem] theorem zvB64 (w : World) : (zeroX 50).run Tryd.prog w = .ok (.agg (bv (Vector.replicate 64 0))) w := by kernel_rfl
@[simp, go_sem] theorem bv_ex64 (k : Vector UInt8 64) : (bv k).extract 0 64 = bv k := ex_all _ _ (by simp)
@[go_sem ↓] theorem ldxKey (x : Value) : Instr.loadAt 23 x = loadX 23 x := rfl
@[go_sem] theorem ldKey (w : World) (b o : Nat) : (loadX 23 (.pointer (some ⟨b, o, none⟩))).run Tryd.prog w = readR w b o 32 ((loadZ 23 (.pointer (some ⟨b, o, none⟩))).run Tryd.prog w) := load_agg w _ 32 _ Tryd.underlying23 rfl (by kernel_rfl) b o
@[go_sem ↓] theorem stxKey (x v : Value) : Instr.storeAt 23 x v = storeX 23 x v := rfl
@[go_sem] theorem stKey (w : World) (b o : Nat) (v : Array Value) : (storeX 23 (.pointer (some ⟨b, o, none⟩)) (.agg v)).run Tryd.prog w = writeR w b o 32 v ((storeZ 23 (.pointer (some ⟨b, o, none⟩)) (.agg v)).run Tryd.prog w) := store_agg w _ 32 (by kernel_rfl) b o v
@[go_sem ↓] theorem ldvKey (x : Addr) : loadVar 23 x = loadX 23 (.pointer (some x)) := rfl
@[go_sem ↓] theorem zvxKey : zeroValue 23 = zeroX 23 := rfl
@[go_sem] theorem zvKey (w : World) : (zeroX 23).run Tryd.prog w = .ok (.agg (bv (Vector.replicate 32 0))) w := by kernel_rfl
@[simp, go_sem] theorem bv_ex32 (k : Vector UInt8 32) : (bv k).extract 0 32 = bv k := ex_all _ _ (by simp)
@[simp, go_sem] theorem bv_put32 (a b : Vector UInt8 32) : putR (bv a) 0 (bv b) = bv b := Pa.put_all _ _ (by simp)
theorem riKey (x : Vector UInt8 32) : (Tryd.prog.info? 23).map (·.size) = some (bv x).size := by rw [bv_size]; kernel_rfl

theorem bv_set {n : Nat} (k : Vector UInt8 n) (i : Nat) (h : i < n) (x : UInt8) : (bv k).setIfInBounds i (.int .u8 (x.toNat : Int)) = bv (k.set i x) := by
  apply Array.ext_getElem?
  intro j
  simp only [bv, Array.getElem?_setIfInBounds, Array.getElem?_map, Vector.toArray_set, Array.getElem?_set, Array.size_map, Vector.size_toArray]
  by_cases hij : i = j
  · subst hij; simp [h]
  · simp [hij]
/-- Block g is just these bytes. -/
def By (w : World) (g : Nat) (T : TypeId) {n : Nat} (k : Vector UInt8 n) : Prop := hp w g = some (.cells (bv k) T (0, 0))
section
variable {w w' : World} {g : Nat} {T : TypeId} {n : Nat} {k : Vector UInt8 n}
theorem By.lt (h : By w g T k) : g < w.heap.size := by
  rcases Nat.lt_or_ge g w.heap.size with h1 | h1
  · exact h1
  · unfold By hp at h; rw [Array.getElem?_eq_none h1] at h; cases h
theorem By.cell (h : By w g T k) (i : Nat) (hi : i < n) : w.cell? ⟨g, i, none⟩ = some (.int .u8 (k[i].toNat : Int)) := (hp_cell h i).trans (bv_at k i hi)
theorem By.frozen (h : By w g T k) (i : Nat) : w.frozen? ⟨g, i, none⟩ = false := hp_frozen h i
theorem By.set (h : By w g T k) (i : Nat) (hi : i < n) (x : UInt8) {y : Int} (hy : y = (x.toNat : Int)) : By (w.setCell ⟨g, i, none⟩ (.int .u8 y)) g T (k.set i x) := by
  subst hy
  unfold By hp at *
  rw [heap_setCell_same w g i _ T _ h, bv_set k i hi x]
theorem By.below (h : By w g T k) (hb : Below w.heap.size w w') : By w' g T k := (hb.hp g h.lt).trans h
theorem By.alloc (h : By w g T k) (o : Obj) : By (w.alloc o) g T k := (hp_alloc_past o g h.lt).trans h
theorem By.far (h : By w g T k) (a : Addr) (hne : g ≠ a.block) (v : Value) : By (w.setCell a v) g T k := (hp_setCell_other a g v hne).trans h
theorem By.chg {S : Nat → Prop} (h : By w g T k) (hc : Chg S w w') (hn : ¬ S g) : By w' g T k := hp_chg h hc hn
theorem _root_.Go.Proofs.YtjlhicopinhiaaaDoor.Sv.Wd.chg {S : Nat → Prop} {q : Vector UInt32 n} (h : Wd w g T q) (hc : Chg S w w') (hn : ¬ S g) : Wd w' g T q := hp_chg h hc hn
end
/-- The first i bytes of block k. -/
def part (l : List UInt8) (k i : Nat) : Vector UInt8 64 := Vector.ofFn fun j => if j.val < i then l.getD (64 * k + j) 0 else 0
theorem part_0 (l : List UInt8) (k : Nat) : part l k 0 = Vector.replicate 64 0 := by apply Vector.ext; intro j hj; simp [part]
theorem part_64 (l : List UInt8) (k : Nat) : part l k 64 = chunk l k := by apply Vector.ext; intro j hj; simp [part, chunk, hj]
theorem part_set (l : List UInt8) (k i : Nat) (hi : i < 64) : (part l k i).set i (l.getD (64 * k + i) 0) = part l k (i + 1) := by
  apply Vector.ext; intro j hj
  by_cases hij : i = j
  · subst hij; simp [part]
  · rw [Vector.getElem_set_ne _ _ hij]
    simp only [part, Vector.getElem_ofFn]
    by_cases h1 : j < i
    · rw [if_pos h1, if_pos (by omega)]
    · rw [if_neg h1, if_neg (by omega)]
set_option maxHeartbeats 1000000 in
set_option maxRecDepth 100000 in
theorem rfold (h : Vector UInt32 8) {v : Value} {l : List UInt8} (w : World) (hv : Rd w v l) (hl : l.length ≤ 140737488355328) :
    Calls Tryd.prog 29 #[.agg (uv h), v] w fun e w' => e = .returned (.agg (uv (foldN h l (l.length / 64)))) ∧ Below w.heap.size w w' := by
  obtain ⟨A, c, rfl, -⟩ := id hv
  have HV := Lib.hid hv; clear hv
  have h1 := Lib.hid (show Wd ((w.alloc (.cells (uv h) 46)).alloc (.cells (uv (Vector.replicate 8 0)) 46)) w.heap.size 46 (foldN h l 0) by unfold Wd foldN; simp [go_sem])
  have h2 := Lib.hid (show Wd ((w.alloc (.cells (uv h) 46)).alloc (.cells (uv (Vector.replicate 8 0)) 46)) (w.heap.size + 1) 46 (Vector.replicate 8 0) by unfold Wd; simp [go_sem])
  go_enter Tryd.func29, Tryd.ntmps29
  go_wp2_with fail
  go_loopw [5] (fun s wr => ∃ (k a : Nat), a = 64 * k ∧ a ≤ l.length ∧ s = .int .i64 a ∧ Wd wr w.heap.size 46 (foldN h l k) ∧ Wd wr (w.heap.size + 1) 46 (Vector.replicate 8 0) ∧ Below w.heap.size w wr) (fun s _ => l.length - (intOf s).toNat)
  case atStart => exact ⟨0, 0, rfl, by omega, rfl, h1.out, h2.out, ((Below.refl _ _).alloc (Nat.le_refl _) _).alloc (by simp) _⟩
  case round =>
    obtain ⟨k, a, hak, hal, rfl, a1, a2, ab⟩ := hrel
    have HAK := Lib.hid hak; clear hak
    have A1 := Lib.hid a1; have A2 := Lib.hid a2; have AB := Lib.hid ab; clear a1 a2 ab
    by_cases hlt : a + 64 ≤ l.length
    · go_wp2_with fail
      obtain ⟨wo, hwo⟩ : ∃ x, x = wr := ⟨_, rfl⟩
      subst hwo
      go_loopw [7] (fun s w2 => ∃ i : Nat, i ≤ 64 ∧ s = .int .i64 i ∧ By w2 wo.heap.size 50 (part l k i) ∧ Chg (fun g => g = wo.heap.size) (wo.alloc (.cells (bv (Vector.replicate 64 0)) 50)) w2) (fun s _ => 64 - (intOf s).toNat)
      case atStart => exact ⟨0, by omega, rfl, by rw [part_0]; exact hp_alloc_at _ _ rfl, Chg.refl _ _⟩
      case round =>
        obtain ⟨i, hi, rfl, hx, hc⟩ := hrel
        by_cases hi64 : i < 64
        · have hlt2 : a + i < l.length := by omega
          have hw2 : Below w.heap.size w wr := hc.below (AB.out.alloc AB.out.size _) (fun g e => by have := AB.out.size; omega) (by have := AB.out.size; simp; omega)
          obtain ⟨ad, rfl, hcell⟩ := (HV.out.below hw2).at_ (a + i) hlt2
          have cx := hx.cell i hi64
          have fx := hx.frozen i
          have hs := hx.set i hi64 (l.getD (64 * k + i) 0) (y := (l[a + i].toNat : Int)) (by rw [← HAK.out, List.getD_eq_getElem?_getD, List.getElem?_eq_getElem hlt2]; rfl)
          rw [part_set l k i hi64] at hs
          have hc' := hc.trans (Chg.store wr ⟨wo.heap.size, i, none⟩ (.int .u8 (l[a + i].toNat : Int)))
          have HS := Lib.hid hs; have HC := Lib.hid hc'; clear hs hc' hx hc hw2
          generalize l[a + i] = y at *
          generalize (part l k i)[i] = old at cx
          go_wp2_with fail
          go_roundw
          case rel => exact ⟨i + 1, by omega, by go_num, HS.out, HC.out⟩
          case measure => simp [intOf]; omega
        · obtain rfl : i = 64 := by omega
          rw [part_64] at hx
          have hw2 : Below w.heap.size w wr := hc.below (AB.out.alloc AB.out.size _) (fun g e => by have := AB.out.size; omega) (by have := AB.out.size; simp; omega)
          have l1 := A1.out.lt
          have l2 := A2.out.lt
          have b1 := (A1.out.alloc (.cells (bv (Vector.replicate 64 0)) 50)).chg hc (fun e => by omega)
          have b2 := (A2.out.alloc (.cells (bv (Vector.replicate 64 0)) 50)).chg hc (fun e => by omega)
          have b1' : hp wr w.heap.size = some (.cells (uv (foldN h l k)) 46 (0, 0)) := b1
          have hx' : hp wr wo.heap.size = some (.cells (bv (chunk l k)) 50 (0, 0)) := hx
          have B1 := Lib.hid b1; have B2 := Lib.hid b2; have HW2 := Lib.hid hw2; clear b1 b2 hw2 hx hc
          go_wp2_with (go_at_call 9999)
          go_at_call 32
          refine (rblock (foldN h l k) (chunk l k) wr).mono ?_
          rintro _ w3 ⟨rfl, hb3⟩
          have c1' : hp w3 w.heap.size = some (.cells (uv (foldN h l k)) 46 (0, 0)) := B1.out.below hb3
          have c2 := B2.out.below hb3
          have C2 := Lib.hid c2; have HB3 := Lib.hid hb3; clear b1' hx' c2 hb3
          go_wp2_with fail
          have hrel : Wd (w3.setRow w.heap.size (uv (block Kc (foldN h l k) (bf (chunk l k))))) w.heap.size 46 (foldN h l (k + 1)) := hp_setRow_same _ _ _ _ _ c1'
          have hbb : Below w.heap.size w (w3.setRow w.heap.size (uv (block Kc (foldN h l k) (bf (chunk l k))))) := Below.setRow (HW2.out.trans (HB3.out.mono HW2.out.size)) (Nat.le_refl _) _
          refine ⟨⟨k + 1, a + 64, by have := HAK.out; omega, hlt, by go_num, hrel, (hp_setRow_other _ _ _ (by omega)).trans C2.out, hbb⟩, ?_⟩
          simp [intOf]; omega
    · obtain rfl : k = l.length / 64 := by have := HAK.out; omega
      have b1' : hp wr w.heap.size = some (.cells (uv (foldN h l (l.length / 64))) 46 (0, 0)) := A1.out
      have b2' : hp wr (w.heap.size + 1) = some (.cells (uv (Vector.replicate 8 0)) 46 (0, 0)) := A2.out
      go_wp2_with fail
      refine ret_row Tryd.results29 Tryd.underlying46 rfl (riW8 _) rfl (hp_setRow_same _ _ _ _ _ b2') rfl ⟨rfl, ?_⟩
      exact Below.setRow AB.out (by omega) _
theorem rstart (w : World) : Calls Tryd.prog 30 #[] w fun e w' => e = .returned (.agg (uv H0)) ∧ Below w.heap.size w w' := by
  have hb : ∀ W, (buildX 46 #[(0, .int .u32 1779033703), (1, .int .u32 3144134277), (2, .int .u32 1013904242), (3, .int .u32 2773480762), (4, .int .u32 1359893119), (5, .int .u32 2600822924), (6, .int .u32 528734635), (7, .int .u32 1541459225)]).run Tryd.prog W = .ok (.agg (uv H0)) W := fun W => by kernel_rfl
  go_enter Tryd.func30, Tryd.ntmps30
  go_wp2_with fail
  refine ret_row Tryd.results30 Tryd.underlying46 rfl (riW8 _) rfl (hp_alloc_at _ _ rfl) rfl ⟨rfl, ?_⟩
  exact (Below.refl _ _).alloc (Nat.le_refl _) _
theorem pstart (w : World) : Calls Tryd.prog 22 #[] w fun e w' => e = .returned (.agg (uv H0)) ∧ Below w.heap.size w w' := by
  have hb : ∀ W, (buildX 46 #[(0, .int .u32 1779033703), (1, .int .u32 3144134277), (2, .int .u32 1013904242), (3, .int .u32 2773480762), (4, .int .u32 1359893119), (5, .int .u32 2600822924), (6, .int .u32 528734635), (7, .int .u32 1541459225)]).run Tryd.prog W = .ok (.agg (uv H0)) W := fun W => by kernel_rfl
  go_enter Tryd.func22, Tryd.ntmps22
  go_wp2_with fail
  refine ret_row Tryd.results22 Tryd.underlying46 rfl (riW8 _) rfl (hp_alloc_at _ _ rfl) rfl ⟨rfl, ?_⟩
  exact (Below.refl _ _).alloc (Nat.le_refl _) _
/-- The first i bytes of v, then noughts. -/
def upto {n : Nat} (v : Vector UInt8 n) (i : Nat) : Vector UInt8 n := Vector.ofFn fun j => if j.val < i then v[j] else 0
theorem upto_0 {n : Nat} (v : Vector UInt8 n) : upto v 0 = Vector.replicate n 0 := by apply Vector.ext; intro j hj; simp [upto]
theorem upto_all {n : Nat} (v : Vector UInt8 n) : upto v n = v := by apply Vector.ext; intro j hj; simp [upto, hj]
theorem upto_set {n : Nat} (v : Vector UInt8 n) (i : Nat) (hi : i < n) : (upto v i).set i v[i] = upto v (i + 1) := by
  apply Vector.ext; intro j hj
  by_cases hij : i = j
  · subst hij; simp [upto]
  · rw [Vector.getElem_set_ne _ _ hij]
    simp only [upto, Vector.getElem_ofFn]
    by_cases h1 : j < i
    · rw [if_pos h1, if_pos (by omega)]
    · rw [if_neg h1, if_neg (by omega)]
theorem bytesOf_at (h : Vector UInt32 8) (i j : Nat) (hi : i < 8) (hj : j < 4) : (bytesOf h)[4 * i + j] = UInt8.ofNat (h[i].toNat / 2 ^ (24 - 8 * j)) := by
  simp only [bytesOf, Vector.getElem_ofFn]
  have e1 : (4 * i + j) / 4 = i := by omega
  have e2 : (4 * i + j) % 4 = j := by omega
  simp only [e1, e2]
set_option maxHeartbeats 1000000 in
set_option maxRecDepth 100000 in
theorem rbytes (h : Vector UInt32 8) (w : World) :
    Calls Tryd.prog 28 #[.agg (uv h)] w fun e w' => e = .returned (.agg (bv (bytesOf h))) ∧ Below w.heap.size w w' := by
  have h1 := Lib.hid (show Wd (((w.alloc (.cells (uv h) 46)).alloc (.cells (bv (Vector.replicate 32 0)) 23)).alloc (.cells (bv (Vector.replicate 32 0)) 23)) w.heap.size 46 h by unfold Wd; simp [go_sem])
  have h2 := Lib.hid (show By (((w.alloc (.cells (uv h) 46)).alloc (.cells (bv (Vector.replicate 32 0)) 23)).alloc (.cells (bv (Vector.replicate 32 0)) 23)) (w.heap.size + 1) 23 (Vector.replicate 32 0) by unfold By; simp [go_sem])
  have h3 := Lib.hid (show By (((w.alloc (.cells (uv h) 46)).alloc (.cells (bv (Vector.replicate 32 0)) 23)).alloc (.cells (bv (Vector.replicate 32 0)) 23)) (w.heap.size + 2) 23 (upto (bytesOf h) (4 * 0)) by unfold By; rw [upto_0]; simp [go_sem])
  go_enter Tryd.func28, Tryd.ntmps28
  go_wp2_with fail
  go_loopw [4] (fun s wr => ∃ i : Nat, i ≤ 8 ∧ s = .int .i64 i ∧ Wd wr w.heap.size 46 h ∧ By wr (w.heap.size + 1) 23 (Vector.replicate 32 0) ∧ By wr (w.heap.size + 2) 23 (upto (bytesOf h) (4 * i)) ∧ Below w.heap.size w wr) (fun s _ => 8 - (intOf s).toNat)
  case atStart => exact ⟨0, by omega, rfl, h1.out, h2.out, h3.out, (((Below.refl _ _).alloc (Nat.le_refl _) _).alloc (by simp) _).alloc (by simp; omega) _⟩
  case round =>
    obtain ⟨i, hi, rfl, a1, a2, a3, ab⟩ := hrel
    by_cases hi8 : i < 8
    · have A1 := Lib.hid a1; have A2 := Lib.hid a2; have A3 := Lib.hid a3; have AB := Lib.hid ab; clear a1 a2 a3 ab
      go_wp2_with fail
      obtain ⟨wo, hwo⟩ : ∃ x, x = wr := ⟨_, rfl⟩
      subst hwo
      go_loopw [5] (fun s wr => ∃ j : Nat, j ≤ 4 ∧ s = .int .i64 j ∧ Wd wr w.heap.size 46 h ∧ By wr (w.heap.size + 1) 23 (Vector.replicate 32 0) ∧ By wr (w.heap.size + 2) 23 (upto (bytesOf h) (4 * i + j)) ∧ Below w.heap.size w wr) (fun s _ => 4 - (intOf s).toNat)
      case atStart => exact ⟨0, by omega, rfl, A1.out, A2.out, A3.out, AB.out⟩
      case round =>
        obtain ⟨j, hj, rfl, a1, a2, a3, ab⟩ := hrel
        by_cases hj4 : j < 4
        · have cw : wr.cell? ⟨w.heap.size, i, none⟩ = some (.int .u32 (h[i].toNat : Int)) := a1.cell i hi8
          have hq := h[i].toNat_lt
          have ck := a3.cell (4 * i + j) (by omega)
          have fk := a3.frozen (4 * i + j)
          have hst := Lib.hid (show ∀ y : Int, y = ((UInt8.ofNat (h[i].toNat / 2 ^ (24 - 8 * j))).toNat : Int) → By (wr.setCell ⟨w.heap.size + 2, 4 * i + j, none⟩ (.int .u8 y)) (w.heap.size + 2) 23 (upto (bytesOf h) (4 * i + j + 1)) by
            intro y hy
            rw [← bytesOf_at h i j hi8 hj4] at hy
            have h' := a3.set (4 * i + j) (by omega) ((bytesOf h)[4 * i + j]'(by omega)) (y := y) hy
            rw [upto_set] at h'
            exact h')
          have hf1 := Lib.hid (fun y => a1.far ⟨w.heap.size + 2, 4 * i + j, none⟩ (by simp) y)
          have hf2 := Lib.hid (fun y => a2.far ⟨w.heap.size + 2, 4 * i + j, none⟩ (by simp) y)
          have hf3 := Lib.hid (ab.setCell (p := ⟨w.heap.size + 2, 4 * i + j, none⟩) (by simp))
          clear a1 a2 a3 ab
          generalize (upto (bytesOf h) (4 * i + j))[4 * i + j] = old at ck
          generalize h[i].toNat = q at *
          obtain rfl | rfl | rfl | rfl : j = 0 ∨ j = 1 ∨ j = 2 ∨ j = 3 := by omega
          · simp only [Nat.add_zero] at ck fk
            go_wp2_with fail
            refine ⟨⟨1, by omega, rfl, hf1.out _, hf2.out _, hst.out _ (by simp; omega), hf3.out _⟩, ?_⟩
            simp [intOf]
          · go_wp2_with fail
            refine ⟨⟨2, by omega, rfl, hf1.out _, hf2.out _, hst.out _ (by simp), hf3.out _⟩, ?_⟩
            simp [intOf]
          · go_wp2_with fail
            refine ⟨⟨3, by omega, rfl, hf1.out _, hf2.out _, hst.out _ (by simp), hf3.out _⟩, ?_⟩
            simp [intOf]
          · go_wp2_with fail
            refine ⟨⟨4, by omega, rfl, hf1.out _, hf2.out _, hst.out _ (by simp), hf3.out _⟩, ?_⟩
            simp [intOf]
        · obtain rfl : j = 4 := by omega
          go_wp2_with fail
          refine ⟨⟨i + 1, by omega, by go_num, a1, a2, a3, ab⟩, ?_⟩
          simp [intOf]; omega
    · obtain rfl : i = 8 := by omega
      have hx : hp wr (w.heap.size + 2) = some (.cells (bv (bytesOf h)) 23 (0, 0)) := by have := a3; rw [show 4 * 8 = 32 from rfl, upto_all] at this; exact this
      have hr : hp wr (w.heap.size + 1) = some (.cells (bv (Vector.replicate 32 0)) 23 (0, 0)) := a2
      have AB := Lib.hid ab
      clear a1 a2 a3 ab
      go_wp2_with fail
      refine ret_row Tryd.results28 Tryd.underlying23 rfl (riKey _) rfl (hp_setRow_same _ _ _ _ _ hr) rfl ⟨rfl, ?_⟩
      exact Below.setRow AB.out (by omega) _
/-- make([]byte, 0, c). -/
theorem run_mk0 {P : Program} {T E : TypeId} (hU : U8 P T E) (n : Nat) (hn : n ≤ 281474976710656) (W : World) :
    (Instr.makeSlice T (.int .i64 0) (.int .i64 (n : Int))).run P W = .ok (.slice (some ⟨W.heap.size, 0, none⟩) 0 n) (W.alloc (.cells (cb (List.replicate n 0)).toArray E)) := by
  obtain ⟨i, hi, hzz⟩ := Option.map_eq_some_iff.1 hU.info
  simp only [Prod.mk.injEq] at hzz
  obtain ⟨hz0, hz1, hz2⟩ := hzz
  have hr := run_make (P := P) W T E i (.int .u8 0) hU.sl hi hz0 .i64 .i64 0 n (by omega) (by omega) (by rw [hz2]; omega) (by omega)
  rw [hr]
  congr 3
  apply Array.ext'
  simp [madeCells, cb, hz1, Value.cells]
  apply List.ext_getElem
  · simp
  · intro i h1 h2
    simp [Nat.mod_one]
set_option maxRecDepth 100000 in
theorem rsum {v : Value} {l : List UInt8} (w : World) (hv : Rd w v l) (hl : l.length ≤ 140737488350000) :
    Calls Tryd.prog 21 #[v] w fun e w' => e = .returned (.agg (bv (sha l))) ∧ Below w.heap.size w w' := by
  obtain ⟨A, c, rfl, -⟩ := id hv
  have al : ∀ (w : World) (o : Obj), Below w.heap.size w (w.alloc o) := fun w o => (Below.refl _ _).alloc (Nat.le_refl _) _
  have hmk : ∀ W : World, (Instr.makeSlice 30 (.int .i64 0) (.int .i64 ((l.length : Int) + 72))).run Tryd.prog W = .ok (.slice (some ⟨W.heap.size, 0, none⟩) 0 (l.length + 72)) (W.alloc (.cells (cb (List.replicate (l.length + 72) 0)).toArray 5)) := fun W => run_mk0 uu8 (l.length + 72) (by omega) W
  obtain ⟨wa, hwa⟩ : ∃ x, x = w.alloc (.cells (bv (Vector.replicate 32 0)) 23) := ⟨_, rfl⟩
  have ba : Below w.heap.size w wa := by rw [hwa]; exact al _ _
  have sa : wa.heap.size = w.heap.size + 1 := by rw [hwa]; simp
  have ra : By wa w.heap.size 23 (Vector.replicate 32 0) := by rw [hwa]; exact hp_alloc_at _ _ rfl
  have o0 := (Arr.new wa 5 (List.replicate (l.length + 72) 0)).own wa.heap.size 0 (Nat.le_refl _) (by simp) (by simp [maxLen]; omega)
  rw [List.take_zero, List.length_replicate] at o0
  obtain ⟨v1, w1, hap1, o1, g1, -⟩ := run_appX uu8 30 o0 ((hv.below ba).below (al wa _)) (by simp) (by simp; omega)
  have b1 : Below wa.heap.size wa w1 := below_grown (al wa _) o0 (Nat.le_refl _) (by simp) g1
  rw [List.nil_append] at o1
  obtain ⟨A1, c1, rfl⟩ := o1.slice
  rw [sa] at hap1
  have HV := Lib.hid hv; have BA := Lib.hid ba; have RA := Lib.hid ra; have O1 := Lib.hid o1; have B1 := Lib.hid b1
  clear hv ba ra o0 o1 g1 b1 sa
  subst hwa
  go_enter Tryd.func21, Tryd.ntmps21
  go_wp2_with (go_at_call 9999)
  go_at_call 27
  refine (rpad l.length (by omega) _).mono ?_
  rintro _ w2 ⟨v2, rfl, o2, b2⟩
  obtain ⟨v3, w3, hap3, o3, g3, -⟩ := run_appX uu8 30 (O1.out.below b2) o2.rd (by have := B1.out.size; have := b2.size; omega) (by rw [padN_length]; have := zeros_lt l.length; omega)
  obtain ⟨A3, c3, rfl⟩ := o3.slice
  have s2 := O1.out.below b2
  have B2 := Lib.hid b2; have O3 := Lib.hid o3
  have hb3 := below_grown ((B1.out.trans (b2.mono B1.out.size))) s2 (Nat.le_refl _) (by have := B1.out.size; have := b2.size; omega) g3
  have B3 := Lib.hid hb3
  clear b2 o3 s2 g3 hb3 o2
  have hwl : (l ++ padN l.length).length = (whole l).length := rfl
  go_wp2_with (go_at_call 9999)
  go_at_call 30
  refine (rstart w3).mono ?_
  rintro _ w4 ⟨rfl, b4⟩
  have B4 := Lib.hid b4; clear b4
  go_wp2_with (go_at_call 9999)
  go_at_call 29
  have r4 : Rd w4 (.slice A3 (whole l).length c3) (whole l) := (O3.out.below B4.out).rd
  refine (rfold H0 w4 r4 (by rw [← hwl, List.length_append, padN_length]; have := zeros_lt l.length; omega)).mono ?_
  rintro _ w5 ⟨rfl, b5⟩
  have B5 := Lib.hid b5; clear b5 r4
  go_wp2_with (go_at_call 9999)
  go_at_call 28
  refine (rbytes _ w5).mono ?_
  rintro _ w6 ⟨rfl, b6⟩
  have b36 : Below w3.heap.size w3 w6 := B4.out.trans ((B5.out.mono B4.out.size).trans (b6.mono (by have := B4.out.size; have := B5.out.size; omega)))
  have ba6 := B3.out.trans (b36.mono B3.out.size)
  have b06 : Below w.heap.size w w6 := BA.out.trans (ba6.mono BA.out.size)
  have r6 : hp w6 w.heap.size = some (.cells (bv (Vector.replicate 32 0)) 23 (0, 0)) := RA.out.below ba6
  have B06 := Lib.hid b06; clear b06 ba6 b36 b6
  go_wp2_with fail
  refine ret_row Tryd.results21 Tryd.underlying23 rfl (riKey _) rfl (hp_setRow_same _ _ _ _ _ r6) rfl ⟨rfl, ?_⟩
  exact Below.setRow B06.out (Nat.le_refl _) _
end Go.Proofs.YtjlhicopinhiaaaDoor.Sf
