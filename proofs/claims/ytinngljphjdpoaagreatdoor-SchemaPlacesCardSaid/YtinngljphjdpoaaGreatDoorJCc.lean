/- ready. -/
import Derived.Test.YtinngljphjdpoaaGreatDoorJCb
import Derived.Test.YtinngljphjdpoaaGreatDoorJRg
import Derived.Laws.EntriesVeiled
import Derived.Deep.DeepCutAuto
namespace Go.Proofs.YtinngljphjdpoaaGreatDoor.Cc
open Go Go.RowKit Go.Proofs.YtinngljphjdpoaaGreatDoor.Pa Go.Proofs.YtinngljphjdpoaaGreatDoor.Pb Go.Proofs.YtinngljphjdpoaaGreatDoor.Pf Go.Proofs.YtinngljphjdpoaaGreatDoor.Pq Go.Proofs.YtinngljphjdpoaaGreatDoor.Sc Go.Proofs.YtinngljphjdpoaaGreatDoor.Rs Go.Proofs.YtinngljphjdpoaaGreatDoor.Va Go.Proofs.YtinngljphjdpoaaGreatDoor.Vc Go.Proofs.YtinngljphjdpoaaGreatDoor.Vd Go.Proofs.YtinngljphjdpoaaGreatDoor.Ca Go.Proofs.YtinngljphjdpoaaGreatDoor.Cb
set_option linter.unusedVariables false
set_option linter.unusedSimpArgs false
/-- What ready answers. -/
def ReadySaid (m : Nat) (t : Slot) (sv : Value) (w : World) : Prop := Calls Tryz.prog 93 #[.agg #[.int .i64 t.no, .int .i64 t.kind, .int .u64 t.least, .int .u64 t.most, sv]] w fun e w' =>
      ∃ chk wr rd, e = .returned (.agg #[.int .i64 t.no, .int .i64 (wt t.kind : Nat), chk, wr, rd]) ∧ Rdy (Cd w' (Bt w w') m) w' (Bt w w') t chk wr rd ∧ Below w.heap.size w w'
/-- The world where a slot's functions are laid and the slot is handed out. -/
def lay (w : World) (g2 g3 : Nat) (no ki : Int) (chk wr rd : Value) : World :=
  (((((((w.setCell ⟨g3, 2, none⟩ chk).setCell ⟨g3, 3, none⟩ wr).setCell ⟨g3, 4, none⟩ rd).setCell ⟨g2, 0, none⟩ (.int .i64 no)).setCell ⟨g2, 1, none⟩ (.int .i64 ki)).setCell ⟨g2, 2, none⟩ chk).setCell ⟨g2, 3, none⟩ wr).setCell ⟨g2, 4, none⟩ rd
theorem lay_size (w : World) (g2 g3 : Nat) (no ki : Int) (chk wr rd : Value) : (lay w g2 g3 no ki chk wr rd).heap.size = w.heap.size := by simp [lay, World.setCell]
theorem lay_other (w : World) (g2 g3 : Nat) (no ki : Int) (chk wr rd : Value) (b : Nat) (h2 : b ≠ g2) (h3 : b ≠ g3) : (lay w g2 g3 no ki chk wr rd).heap[b]? = w.heap[b]? := by
  unfold lay
  repeat rw [heap_setCell_other _ _ _ _ (by assumption)]
theorem lay_two (w : World) (g2 g3 : Nat) (no ki : Int) (chk wr rd : Value) (h23 : g2 ≠ g3) (h : hp w g2 = some (.cells #[.int .i64 0, .int .i64 0, .nilFunc, .nilFunc, .nilFunc] 149 (0, 0))) :
    hp (lay w g2 g3 no ki chk wr rd) g2 = some (.cells #[.int .i64 no, .int .i64 ki, chk, wr, rd] 149 (0, 0)) := by
  unfold lay hp at *
  have h0 : (((w.setCell ⟨g3, 2, none⟩ chk).setCell ⟨g3, 3, none⟩ wr).setCell ⟨g3, 4, none⟩ rd).heap[g2]? = some (.cells #[.int .i64 0, .int .i64 0, .nilFunc, .nilFunc, .nilFunc] 149 (0, 0)) := by
    repeat rw [heap_setCell_other _ _ _ _ (by assumption)]
    exact h
  have h1 := heap_setCell_same _ g2 0 _ _ (.int .i64 no) h0
  have h2 := heap_setCell_same _ g2 1 _ _ (.int .i64 ki) h1
  have h3 := heap_setCell_same _ g2 2 _ _ chk h2
  have h4 := heap_setCell_same _ g2 3 _ _ wr h3
  exact heap_setCell_same _ g2 4 _ _ rd h4
theorem lay_below {B : Nat} {w0 w : World} (hb : Below B w0 w) (g2 g3 : Nat) (no ki : Int) (chk wr rd : Value) (h2 : B ≤ g2) (h3 : B ≤ g3) : Below B w0 (lay w g2 g3 no ki chk wr rd) := by
  unfold lay
  exact (((((((hb.setCell h3 _).setCell h3 _).setCell h3 _).setCell h2 _).setCell h2 _).setCell h2 _).setCell h2 _).setCell h2 _
/-- What is known at the end. -/
structure Fin (w w5 Wf : World) (g1 g2 g3 : Nat) (no ki : Int) (chk wr rd : Value) (o : Obj) : Prop where
  two : hp Wf g2 = some (.cells #[.int .i64 no, .int .i64 ki, chk, wr, rd] 149 (0, 0))
  four : hp Wf w5.heap.size = some o
  size : w5.heap.size < Wf.heap.size
  keep : ∀ b, b ≠ g2 → b ≠ g3 → b < w5.heap.size → Wf.heap[b]? = w5.heap[b]?
  below : Below w.heap.size w Wf
theorem fin_of {w w5 Wf : World} {g1 g2 g3 : Nat} {no ki : Int} {chk wr rd : Value} {o : Obj} (h23 : g2 ≠ g3) (h : hp w5 g2 = some (.cells #[.int .i64 0, .int .i64 0, .nilFunc, .nilFunc, .nilFunc] 149 (0, 0)))
    (h5 : Below w.heap.size w w5) (b2 : w.heap.size ≤ g2 ∧ g2 < w5.heap.size) (b3 : w.heap.size ≤ g3 ∧ g3 < w5.heap.size) (hW : Below ((lay w5 g2 g3 no ki chk wr rd).heap.size + 1) ((lay w5 g2 g3 no ki chk wr rd).alloc o) Wf) : Fin w w5 Wf g1 g2 g3 no ki chk wr rd o := by
  have hs := lay_size w5 g2 g3 no ki chk wr rd
  have hl := lay_two w5 g2 g3 no ki chk wr rd h23 h
  have hz := hW.size
  rw [hs] at hW
  simp at hz
  refine ⟨?_, ?_, by omega, fun b n2 n3 hb => ?_, ?_⟩
  · rw [hW.hp _ (by omega)]; exact (hp_alloc_past _ _ (by omega)).trans hl
  · rw [hW.hp _ (by omega)]; exact hp_alloc_at _ _ hs.symm
  · rw [hW.block _ (by omega), ← lay_other w5 g2 g3 no ki chk wr rd b n2 n3]
    exact hp_alloc_past _ _ (by omega)
  · exact ((lay_below h5 g2 g3 no ki chk wr rd b2.1 b3.1).alloc (by rw [hs]; exact h5.size) o).trans (hW.mono (by have := h5.size; omega))
section
variable {C : Nat → List Slot → Prop} {w : World} {S : Pl} {no kind : Int} {least most : Nat} {sub : List Slot}
theorem rdyN {b4 b1 : Nat} {sv : Value} (h8 : kind ≠ 8) (h9 : kind ≠ 9) (h5 : kind ≠ 5) (h6 : kind ≠ 6) (s4 : S b4) (s1 : S b1) (k4 : hp w b4 = some (.cells #[flat (.mk no kind least most sub)] 194 (0, 0)))
    (k1 : hp w b1 = some (.cells #[.int .i64 no, .int .i64 kind, .int .u64 least, .int .u64 most, sv] 117 (0, 0))) :
    Rdy C w S (.mk no kind least most sub) (.func (.func 117) #[] #[ptr b4, ptr b1]) (.func (.func 119) #[] #[]) (.func (.func 120) #[] #[ptr b4]) := by
  unfold Rdy
  rw [if_neg (show ¬ (Slot.mk no kind least most sub).kind = 8 from h8)]
  refine ⟨_, b4, b1, sv, shp_flat (by simp [nest, Slot.kind, h8, h9]), s4, s1, k4, k1, rfl, ?_⟩
  rw [if_neg (show ¬ (Slot.mk no kind least most sub).kind = 9 from h9), if_neg (show ¬ ((Slot.mk no kind least most sub).kind = 5 ∨ (Slot.mk no kind least most sub).kind = 6) from fun h => h.elim h5 h6)]
  exact ⟨rfl, rfl⟩
theorem rdyD {b4 b1 : Nat} {sv : Value} (h56 : kind = 5 ∨ kind = 6) (s4 : S b4) (s1 : S b1) (k4 : hp w b4 = some (.cells #[flat (.mk no kind least most sub)] 194 (0, 0)))
    (k1 : hp w b1 = some (.cells #[.int .i64 no, .int .i64 kind, .int .u64 least, .int .u64 most, sv] 117 (0, 0))) :
    Rdy C w S (.mk no kind least most sub) (.func (.func 117) #[] #[ptr b4, ptr b1]) (.func (.func 122) #[] #[]) (.func (.func 123) #[] #[ptr b4]) := by
  unfold Rdy
  rw [if_neg (show ¬ (Slot.mk no kind least most sub).kind = 8 from fun e => by simp only [Slot.kind] at e; omega)]
  refine ⟨_, b4, b1, sv, shp_flat (by simp only [nest, Slot.kind]; exact decide_eq_false (by omega)), s4, s1, k4, k1, rfl, ?_⟩
  rw [if_neg (show ¬ (Slot.mk no kind least most sub).kind = 9 from fun e => by simp only [Slot.kind] at e; omega), if_pos (show ((Slot.mk no kind least most sub).kind = 5 ∨ (Slot.mk no kind least most sub).kind = 6) from h56)]
  exact ⟨rfl, rfl⟩
theorem rdy8 {c b5 b9 : Nat} (h : C c sub) (s5 : S b5) (s9 : S b9) (k5 : hp w b5 = some (.cells #[ptr c] 197 (0, 0))) (k9 : hp w b9 = some (.cells #[ptr c] 197 (0, 0))) :
    Rdy C w S (.mk no 8 least most sub) (.func (.func 116) #[] #[ptr b5]) (.func (.func 124) #[] #[ptr b9]) (.func (.func 125) #[] #[ptr b9]) := by
  unfold Rdy
  rw [if_pos (show (Slot.mk no 8 least most sub).kind = 8 from rfl)]
  exact ⟨c, b5, b9, h, s5, s9, k5, k9, rfl, rfl, rfl⟩
theorem rdy9 {c b4 b1 : Nat} {sv : Value} (h : C c sub) (s4 : S b4) (s1 : S b1) (k4 : hp w b4 = some (.cells #[.iface 201 (.agg #[ptr c, .int .u64 least, .int .u64 most])] 194 (0, 0)))
    (k1 : hp w b1 = some (.cells #[.int .i64 no, .int .i64 9, .int .u64 least, .int .u64 most, sv] 117 (0, 0))) :
    Rdy C w S (.mk no 9 least most sub) (.func (.func 117) #[] #[ptr b4, ptr b1]) (.func (.func 127) #[.agg #[ptr c, .int .u64 least, .int .u64 most]] #[]) (.func (.func 128) #[.agg #[ptr c, .int .u64 least, .int .u64 most]] #[]) := by
  unfold Rdy
  rw [if_neg (show ¬ (Slot.mk no 9 least most sub).kind = 8 from by show ¬ (9 : Int) = 8; decide)]
  refine ⟨_, b4, b1, sv, shp9 h, s4, s1, k4, k1, rfl, ?_⟩
  rw [if_pos (show (Slot.mk no 9 least most sub).kind = 9 from rfl)]
  exact ⟨c, rfl, rfl, rfl⟩
end
set_option maxHeartbeats 20000000 in
set_option maxRecDepth 100000 in
theorem ready (m k : Nat) (IH : CompSaid m) (no kind : Int) (least most : Nat) (sub : List Slot) (sv : Value) (W w : World) (h1 : sv.oneCell' = true) (hb : bnd (.mk no kind least most sub) = true)
    (hn : nest (.mk no kind least most sub) = true → RdS W m sv sub ∧ okL k sub) (hB : Below W.heap.size W w) : ReadySaid m (.mk no kind least most sub) sv w := by
  unfold ReadySaid
  simp only [Slot.no, Slot.kind, Slot.least, Slot.most]
  have HB := Lib.hid hB; have HN := Lib.hid hn; have HBB := Lib.hid hb; clear hB hn hb
  have bx : Below w.heap.size w ((w.alloc (.cells #[.int .i64 no, .int .i64 kind, .int .u64 least, .int .u64 most, sv] 117)).alloc (.cells #[.int .i64 0, .int .i64 0, .nilFunc, .nilFunc, .nilFunc] 149)) := ((Below.refl _ _).alloc (Nat.le_refl _) _).alloc (by simp) _
  have BX := Lib.hid bx; clear bx
  obtain ⟨wx, hwx⟩ : ∃ x, x = (w.alloc (.cells #[.int .i64 no, .int .i64 kind, .int .u64 least, .int .u64 most, sv] 117)).alloc (.cells #[.int .i64 0, .int .i64 0, .nilFunc, .nilFunc, .nilFunc] 149) := ⟨_, rfl⟩
  have hx : hp wx w.heap.size = some (.cells #[.int .i64 no, .int .i64 kind, .int .u64 least, .int .u64 most, sv] 117 (0, 0)) := by rw [hwx]; simp [go_sem]
  have hy : hp wx (w.heap.size + 1) = some (.cells #[.int .i64 0, .int .i64 0, .nilFunc, .nilFunc, .nilFunc] 149 (0, 0)) := by rw [hwx]; exact hp_alloc_at _ _ (by simp)
  have hsz : wx.heap.size = w.heap.size + 1 + 1 := by rw [hwx]; simp
  have c0 : wx.cell? ⟨w.heap.size, 0, none⟩ = some (.int .i64 no) := hp_cell hx 0
  have c1 : wx.cell? ⟨w.heap.size, 1, none⟩ = some (.int .i64 kind) := hp_cell hx 1
  have hlt : w.heap.size < wx.heap.size := by omega
  have hne : ¬ w.heap.size = wx.heap.size := by omega
  have HX := Lib.hid hx; have HY := Lib.hid hy; have HSZ := Lib.hid hsz; have HWX := Lib.hid hwx
  clear hx hy hsz
  rw [← hwx] at BX
  clear hwx
  go_enter Tryz.func93, Tryz.ntmps93
  go_upto_region 1 with fail
  rw [← HWX.out]
  go_cut [3] (fun p wq => p = .pointer (some ⟨wx.heap.size, 0, none⟩) ∧ wq = (wx.alloc (.cells #[.int .i64 no, .int .i64 (wt kind : Nat), .nilFunc, .nilFunc, .nilFunc] 149)).drew)
  case first =>
    go_region_with (go_at_call 113; refine (wireOf _ _).mono ?_; rintro _ wz ⟨rfl, rfl⟩)
    all_goals
      go_wp2_with fail
      go_meet
      exact ⟨rfl, rfl⟩
  case rest =>
    obtain ⟨rfl, rfl⟩ := hcut
    obtain ⟨wq, hwq⟩ : ∃ x, x = (wx.alloc (.cells #[.int .i64 no, .int .i64 (wt kind : Nat), .nilFunc, .nilFunc, .nilFunc] 149)).drew := ⟨_, rfl⟩
    rw [← hwq]
    have hsq : wq.heap.size = w.heap.size + 1 + 1 + 1 := by rw [hwq]; simp; have := HSZ.out; omega
    have hb1 : hp wq w.heap.size = some (.cells #[.int .i64 no, .int .i64 kind, .int .u64 least, .int .u64 most, sv] 117 (0, 0)) := by rw [hwq]; exact (hp_drew _).trans ((hp_alloc_past _ _ hlt).trans HX.out)
    have hb2 : hp wq (w.heap.size + 1) = some (.cells #[.int .i64 0, .int .i64 0, .nilFunc, .nilFunc, .nilFunc] 149 (0, 0)) := by rw [hwq]; exact (hp_drew _).trans ((hp_alloc_past _ _ (by have := HSZ.out; omega)).trans HY.out)
    have hb3 : hp wq (w.heap.size + 1 + 1) = some (.cells #[.int .i64 no, .int .i64 (wt kind : Nat), .nilFunc, .nilFunc, .nilFunc] 149 (0, 0)) := by rw [hwq]; exact (hp_drew _).trans (hp_alloc_at _ _ (by have := HSZ.out; omega))
    have hbq : Below w.heap.size w wq := by rw [hwq]; exact (BX.out.alloc (Nat.le_of_lt hlt) _).drew
    rw [HSZ.out]
    have HB1 := Lib.hid hb1; have HB2 := Lib.hid hb2; have HB3 := Lib.hid hb3; have HBQ := Lib.hid hbq; have HSQ := Lib.hid hsq
    have hC1 := fun i => hp_cell hb1 i
    clear hwq hsq hb1 hb2 hb3 hbq c0 c1 hlt hne HX HY HSZ HWX BX
    go_wp2_with (go_at_call 9999)
    go_at_call 115
    refine (shapeOf m k IH no kind least most sub sv W wq h1 HBB.out HN.out (HB.out.trans (HBQ.out.mono HB.out.size))).mono ?_
    rintro _ w5 ⟨sh, rfl, hsh, b5⟩
    have hs5 := b5.size
    have hb1 : hp w5 w.heap.size = some (.cells #[.int .i64 no, .int .i64 kind, .int .u64 least, .int .u64 most, sv] 117 (0, 0)) := (b5.hp _ (by have := HSQ.out; omega)).trans HB1.out
    have hb2 : hp w5 (w.heap.size + 1) = some (.cells #[.int .i64 0, .int .i64 0, .nilFunc, .nilFunc, .nilFunc] 149 (0, 0)) := (b5.hp _ (by have := HSQ.out; omega)).trans HB2.out
    have hb3 : hp w5 (w.heap.size + 1 + 1) = some (.cells #[.int .i64 no, .int .i64 (wt kind : Nat), .nilFunc, .nilFunc, .nilFunc] 149 (0, 0)) := (b5.hp _ (by have := HSQ.out; omega)).trans HB3.out
    have hl5 : w.heap.size + 1 + 1 < w5.heap.size := by have := HSQ.out; omega
    have HSH := Lib.hid hsh
    have GQ := Lib.hid (show w.heap.size + 1 < wq.heap.size ∧ w.heap.size + 1 + 1 < wq.heap.size by have := HSQ.out; omega)
    have G0 := Lib.hid (show w.heap.size ≤ wq.heap.size by have := HSQ.out; omega)
    have B5 := Lib.hid (HBQ.out.trans (b5.mono (by have := HSQ.out; omega)))
    have K1 := Lib.hid hb1; have K2 := Lib.hid hb2; have K3 := Lib.hid hb3
    clear hsh b5 hs5 hb1 hb2 hb3 HB1 HB2 HB3 HBQ HSQ
    have hC1 := fun i => hp_cell K1.out i
    have hC2 := fun i => hp_cell K2.out i
    have hC3 := fun i => hp_cell K3.out i
    have hF2 := fun i => hp_frozen K2.out i
    have hF3 := fun i => hp_frozen K3.out i
    have G1 := Lib.hid (show w.heap.size ≤ w.heap.size ∧ w.heap.size < w5.heap.size by omega)
    have G2 := Lib.hid (show w.heap.size ≤ w.heap.size + 1 ∧ w.heap.size + 1 < w5.heap.size by omega)
    have G3 := Lib.hid (show w.heap.size ≤ w.heap.size + 1 + 1 ∧ w.heap.size + 1 + 1 < w5.heap.size by omega)
    have hn2 : ¬ w.heap.size + 1 = w5.heap.size := by omega
    have hn3 : ¬ w.heap.size + 1 + 1 = w5.heap.size := by omega
    have hn12 : ¬ w.heap.size + 1 = w.heap.size + 1 + 1 := by omega
    have hx12 : ¬ w.heap.size = w.heap.size + 1 := by omega
    have hx13 : ¬ w.heap.size = w.heap.size + 1 + 1 := by omega
    have hn21 : ¬ w.heap.size + 1 + 1 = w.heap.size + 1 := by omega
    have hl1 : w.heap.size < w5.heap.size := by omega
    have hl2 : w.heap.size + 1 < w5.heap.size := by omega
    have hl3 : w.heap.size + 1 + 1 < w5.heap.size := by omega
    have hm2 : ¬ w5.heap.size = w.heap.size + 1 := by omega
    have hm3 : ¬ w5.heap.size = w.heap.size + 1 + 1 := by omega
    have hp2 : ¬ w5.heap.size + 1 = w.heap.size + 1 := by omega
    have hp3 : ¬ w5.heap.size + 1 = w.heap.size + 1 + 1 := by omega
    have hq3 : ¬ w5.heap.size + 1 + 1 = w.heap.size + 1 + 1 := by omega
    have x0 : ¬ w.heap.size = w5.heap.size := by omega
    have y0 : ¬ w5.heap.size = w.heap.size := by omega
    have za1 : w.heap.size < w5.heap.size + 1 := by omega
    have ya1 : ¬ w5.heap.size + 1 = w.heap.size := by omega
    have xa1 : ¬ w.heap.size = w5.heap.size + 1 := by omega
    have za2 : w.heap.size < w5.heap.size + 1 + 1 := by omega
    have ya2 : ¬ w5.heap.size + 1 + 1 = w.heap.size := by omega
    have xa2 : ¬ w.heap.size = w5.heap.size + 1 + 1 := by omega
    have za3 : w.heap.size < w5.heap.size + 1 + 1 + 1 := by omega
    have ya3 : ¬ w5.heap.size + 1 + 1 + 1 = w.heap.size := by omega
    have xa3 : ¬ w.heap.size = w5.heap.size + 1 + 1 + 1 := by omega
    have zb1 : w.heap.size + 1 < w5.heap.size + 1 := by omega
    have yb1 : ¬ w5.heap.size + 1 = w.heap.size + 1 := by omega
    have xb1 : ¬ w.heap.size + 1 = w5.heap.size + 1 := by omega
    have zb2 : w.heap.size + 1 < w5.heap.size + 1 + 1 := by omega
    have yb2 : ¬ w5.heap.size + 1 + 1 = w.heap.size + 1 := by omega
    have xb2 : ¬ w.heap.size + 1 = w5.heap.size + 1 + 1 := by omega
    have zb3 : w.heap.size + 1 < w5.heap.size + 1 + 1 + 1 := by omega
    have yb3 : ¬ w5.heap.size + 1 + 1 + 1 = w.heap.size + 1 := by omega
    have xb3 : ¬ w.heap.size + 1 = w5.heap.size + 1 + 1 + 1 := by omega
    have zc1 : w.heap.size + 1 + 1 < w5.heap.size + 1 := by omega
    have yc1 : ¬ w5.heap.size + 1 = w.heap.size + 1 + 1 := by omega
    have xc1 : ¬ w.heap.size + 1 + 1 = w5.heap.size + 1 := by omega
    have zc2 : w.heap.size + 1 + 1 < w5.heap.size + 1 + 1 := by omega
    have yc2 : ¬ w5.heap.size + 1 + 1 = w.heap.size + 1 + 1 := by omega
    have xc2 : ¬ w.heap.size + 1 + 1 = w5.heap.size + 1 + 1 := by omega
    have zc3 : w.heap.size + 1 + 1 < w5.heap.size + 1 + 1 + 1 := by omega
    have yc3 : ¬ w5.heap.size + 1 + 1 + 1 = w.heap.size + 1 + 1 := by omega
    have xc3 : ¬ w.heap.size + 1 + 1 = w5.heap.size + 1 + 1 + 1 := by omega
    clear hl5
    generalize hg3 : w.heap.size + 1 + 1 = g3 at *
    generalize hg2 : w.heap.size + 1 = g2 at *
    clear hg3 hg2
    rcases bnd_kind HBB.out with e | e | e | e | e | e | e | e | e
    all_goals simp only [Slot.kind] at e
    · subst e
      have hsh : sh = .iface 204 (.agg #[.int .u64 least, .int .u64 most]) := shp_invN (by decide) (by decide) HSH.out
      have hfl : flat (.mk no 1 least most sub) = .iface 204 (.agg #[.int .u64 least, .int .u64 most]) := rfl
      have HFL := Lib.hid hfl; clear hfl
      subst hsh
      go_wp2_with fail
      have fin := fin_of (g1 := w.heap.size) (no := no) (ki := (wt 1 : Nat)) (chk := .func (.func 117) #[] #[ptr w5.heap.size, ptr w.heap.size]) (wr := .func (.func 119) #[] #[]) (rd := .func (.func 120) #[] #[ptr w5.heap.size]) (o := .cells #[.iface 204 (.agg #[.int .u64 least, .int .u64 most])] 194) hn12 K2.out B5.out G2.out G3.out (Below.alloc (Below.refl _ _) (by first | (simp; done) | (simp; omega)) (.cells #[.pointer none] 197))
      refine ret_row Tryz.results93 Tryz.underlying149 rfl (by kernel_rfl) rfl fin.two rfl ⟨_, _, _, rfl, ?_, fin.below⟩
      refine rdyN (by decide) (by decide) (by decide) (by decide) ⟨Nat.le_of_lt G1.out.2, fin.size⟩ ⟨G1.out.1, Nat.lt_trans G1.out.2 fin.size⟩ (by rw [HFL.out]; exact fin.four) ((fin.keep w.heap.size hx12 hx13 G1.out.2).trans K1.out)
    · subst e
      have hsh : sh = .iface 204 (.agg #[.int .u64 least, .int .u64 most]) := shp_invN (by decide) (by decide) HSH.out
      have hfl : flat (.mk no 2 least most sub) = .iface 204 (.agg #[.int .u64 least, .int .u64 most]) := rfl
      have HFL := Lib.hid hfl; clear hfl
      subst hsh
      go_wp2_with fail
      have fin := fin_of (g1 := w.heap.size) (no := no) (ki := (wt 2 : Nat)) (chk := .func (.func 117) #[] #[ptr w5.heap.size, ptr w.heap.size]) (wr := .func (.func 119) #[] #[]) (rd := .func (.func 120) #[] #[ptr w5.heap.size]) (o := .cells #[.iface 204 (.agg #[.int .u64 least, .int .u64 most])] 194) hn12 K2.out B5.out G2.out G3.out (Below.alloc (Below.refl _ _) (by first | (simp; done) | (simp; omega)) (.cells #[.pointer none] 197))
      refine ret_row Tryz.results93 Tryz.underlying149 rfl (by kernel_rfl) rfl fin.two rfl ⟨_, _, _, rfl, ?_, fin.below⟩
      refine rdyN (by decide) (by decide) (by decide) (by decide) ⟨Nat.le_of_lt G1.out.2, fin.size⟩ ⟨G1.out.1, Nat.lt_trans G1.out.2 fin.size⟩ (by rw [HFL.out]; exact fin.four) ((fin.keep w.heap.size hx12 hx13 G1.out.2).trans K1.out)
    · subst e
      have hsh : sh = .iface 204 (.agg #[.int .u64 least, .int .u64 most]) := shp_invN (by decide) (by decide) HSH.out
      have hfl : flat (.mk no 3 least most sub) = .iface 204 (.agg #[.int .u64 least, .int .u64 most]) := rfl
      have HFL := Lib.hid hfl; clear hfl
      subst hsh
      go_wp2_with fail
      have fin := fin_of (g1 := w.heap.size) (no := no) (ki := (wt 3 : Nat)) (chk := .func (.func 117) #[] #[ptr w5.heap.size, ptr w.heap.size]) (wr := .func (.func 119) #[] #[]) (rd := .func (.func 120) #[] #[ptr w5.heap.size]) (o := .cells #[.iface 204 (.agg #[.int .u64 least, .int .u64 most])] 194) hn12 K2.out B5.out G2.out G3.out (Below.alloc (Below.refl _ _) (by first | (simp; done) | (simp; omega)) (.cells #[.pointer none] 197))
      refine ret_row Tryz.results93 Tryz.underlying149 rfl (by kernel_rfl) rfl fin.two rfl ⟨_, _, _, rfl, ?_, fin.below⟩
      refine rdyN (by decide) (by decide) (by decide) (by decide) ⟨Nat.le_of_lt G1.out.2, fin.size⟩ ⟨G1.out.1, Nat.lt_trans G1.out.2 fin.size⟩ (by rw [HFL.out]; exact fin.four) ((fin.keep w.heap.size hx12 hx13 G1.out.2).trans K1.out)
    · subst e
      have hsh : sh = .iface 204 (.agg #[.int .u64 0, .int .u64 1]) := shp_invN (by decide) (by decide) HSH.out
      have hfl : flat (.mk no 4 least most sub) = .iface 204 (.agg #[.int .u64 0, .int .u64 1]) := rfl
      have HFL := Lib.hid hfl; clear hfl
      subst hsh
      go_wp2_with fail
      have fin := fin_of (g1 := w.heap.size) (no := no) (ki := (wt 4 : Nat)) (chk := .func (.func 117) #[] #[ptr w5.heap.size, ptr w.heap.size]) (wr := .func (.func 119) #[] #[]) (rd := .func (.func 120) #[] #[ptr w5.heap.size]) (o := .cells #[.iface 204 (.agg #[.int .u64 0, .int .u64 1])] 194) hn12 K2.out B5.out G2.out G3.out (Below.alloc (Below.refl _ _) (by first | (simp; done) | (simp; omega)) (.cells #[.pointer none] 197))
      refine ret_row Tryz.results93 Tryz.underlying149 rfl (by kernel_rfl) rfl fin.two rfl ⟨_, _, _, rfl, ?_, fin.below⟩
      refine rdyN (by decide) (by decide) (by decide) (by decide) ⟨Nat.le_of_lt G1.out.2, fin.size⟩ ⟨G1.out.1, Nat.lt_trans G1.out.2 fin.size⟩ (by rw [HFL.out]; exact fin.four) ((fin.keep w.heap.size hx12 hx13 G1.out.2).trans K1.out)
    · subst e
      have hsh : sh = .iface 210 (.agg #[.int .u64 least, .int .u64 most, .bool false]) := shp_invN (by decide) (by decide) HSH.out
      have hfl : flat (.mk no 5 least most sub) = .iface 210 (.agg #[.int .u64 least, .int .u64 most, .bool false]) := rfl
      have HFL := Lib.hid hfl; clear hfl
      subst hsh
      go_wp2_with fail
      have fin := fin_of (g1 := w.heap.size) (no := no) (ki := (wt 5 : Nat)) (chk := .func (.func 117) #[] #[ptr w5.heap.size, ptr w.heap.size]) (wr := .func (.func 122) #[] #[]) (rd := .func (.func 123) #[] #[ptr w5.heap.size]) (o := .cells #[.iface 210 (.agg #[.int .u64 least, .int .u64 most, .bool false])] 194) hn12 K2.out B5.out G2.out G3.out (Below.alloc (Below.alloc (Below.refl _ _) (by first | (simp; done) | (simp; omega)) (.cells #[.pointer none] 197)) (by first | (simp; done) | (simp; omega)) (.cells #[.int .u64 least, .int .u64 most, .bool false] 210))
      refine ret_row Tryz.results93 Tryz.underlying149 rfl (by kernel_rfl) rfl fin.two rfl ⟨_, _, _, rfl, ?_, fin.below⟩
      refine rdyD (by decide) ⟨Nat.le_of_lt G1.out.2, fin.size⟩ ⟨G1.out.1, Nat.lt_trans G1.out.2 fin.size⟩ (by rw [HFL.out]; exact fin.four) ((fin.keep w.heap.size hx12 hx13 G1.out.2).trans K1.out)
    · subst e
      have hsh : sh = .iface 210 (.agg #[.int .u64 least, .int .u64 most, .bool true]) := shp_invN (by decide) (by decide) HSH.out
      have hfl : flat (.mk no 6 least most sub) = .iface 210 (.agg #[.int .u64 least, .int .u64 most, .bool true]) := rfl
      have HFL := Lib.hid hfl; clear hfl
      subst hsh
      go_wp2_with fail
      have fin := fin_of (g1 := w.heap.size) (no := no) (ki := (wt 6 : Nat)) (chk := .func (.func 117) #[] #[ptr w5.heap.size, ptr w.heap.size]) (wr := .func (.func 122) #[] #[]) (rd := .func (.func 123) #[] #[ptr w5.heap.size]) (o := .cells #[.iface 210 (.agg #[.int .u64 least, .int .u64 most, .bool true])] 194) hn12 K2.out B5.out G2.out G3.out (Below.alloc (Below.alloc (Below.refl _ _) (by first | (simp; done) | (simp; omega)) (.cells #[.pointer none] 197)) (by first | (simp; done) | (simp; omega)) (.cells #[.int .u64 least, .int .u64 most, .bool true] 210))
      refine ret_row Tryz.results93 Tryz.underlying149 rfl (by kernel_rfl) rfl fin.two rfl ⟨_, _, _, rfl, ?_, fin.below⟩
      refine rdyD (by decide) ⟨Nat.le_of_lt G1.out.2, fin.size⟩ ⟨G1.out.1, Nat.lt_trans G1.out.2 fin.size⟩ (by rw [HFL.out]; exact fin.four) ((fin.keep w.heap.size hx12 hx13 G1.out.2).trans K1.out)
    · subst e
      have hsh : sh = .iface 207 (.agg #[fbits most]) := shp_invN (by decide) (by decide) HSH.out
      have hfl : flat (.mk no 7 least most sub) = .iface 207 (.agg #[fbits most]) := rfl
      have HFL := Lib.hid hfl; clear hfl
      subst hsh
      unfold fbits at *
      go_wp2_with fail
      have fin := fin_of (g1 := w.heap.size) (no := no) (ki := (wt 7 : Nat)) (chk := .func (.func 117) #[] #[ptr w5.heap.size, ptr w.heap.size]) (wr := .func (.func 119) #[] #[]) (rd := .func (.func 120) #[] #[ptr w5.heap.size]) (o := .cells #[.iface 207 (.agg #[fbits most])] 194) hn12 K2.out B5.out G2.out G3.out (Below.alloc (Below.refl _ _) (by first | (simp; done) | (simp; omega)) (.cells #[.pointer none] 197))
      refine ret_row Tryz.results93 Tryz.underlying149 rfl (by kernel_rfl) rfl fin.two rfl ⟨_, _, _, rfl, ?_, fin.below⟩
      refine rdyN (by decide) (by decide) (by decide) (by decide) ⟨Nat.le_of_lt G1.out.2, fin.size⟩ ⟨G1.out.1, Nat.lt_trans G1.out.2 fin.size⟩ (by rw [HFL.out]; exact fin.four) ((fin.keep w.heap.size hx12 hx13 G1.out.2).trans K1.out)
    · subst e
      obtain ⟨c, hc, hsh⟩ := shp_inv8 HSH.out
      subst hsh
      have HC := Lib.hid hc; clear hc
      go_wp2_with fail
      have fin := fin_of (g1 := w.heap.size) (no := no) (ki := (wt 8 : Nat)) (chk := .func (.func 116) #[] #[ptr (w5.heap.size + 1)]) (wr := .func (.func 124) #[] #[ptr (w5.heap.size + 1 + 1)]) (rd := .func (.func 125) #[] #[ptr (w5.heap.size + 1 + 1)]) (o := .cells #[.iface 197 (.agg #[ptr c])] 194) hn12 K2.out B5.out G2.out G3.out (Below.alloc (Below.alloc (Below.refl _ _) (by first | (simp; done) | (simp; omega)) (.cells #[ptr c] 197)) (by first | (simp; done) | (simp; omega)) (.cells #[ptr c] 197))
      refine ret_row Tryz.results93 Tryz.underlying149 rfl (by kernel_rfl) rfl fin.two rfl ⟨_, _, _, rfl, ?_, fin.below⟩
      have hcd := Cd.keep (Bt.sub (w0 := w) (G0.out) (Nat.le_of_lt fin.size)) (fun b hb hlt => fin.keep b (fun e => by have := hb.1; have := GQ.out; omega) (fun e => by have := hb.1; have := GQ.out; omega) hlt) m c sub HC.out
      obtain ⟨L, hL⟩ : ∃ L, L = lay w5 g2 g3 no (wt 8 : Nat) (.func (.func 116) #[] #[ptr (w5.heap.size + 1)]) (.func (.func 124) #[] #[ptr (w5.heap.size + 1 + 1)]) (.func (.func 125) #[] #[ptr (w5.heap.size + 1 + 1)]) := ⟨_, rfl⟩
      have hLs : L.heap.size = w5.heap.size := by rw [hL]; exact lay_size _ _ _ _ _ _ _ _
      have k5 : hp (((L.alloc (.cells #[.iface 197 (.agg #[ptr c])] 194)).alloc (.cells #[ptr c] 197)).alloc (.cells #[ptr c] 197)) (w5.heap.size + 1) = some (.cells #[ptr c] 197 (0, 0)) := (hp_alloc_past _ _ (by simp only [World.size_alloc, hLs]; omega)).trans (hp_alloc_at _ _ (by simp only [World.size_alloc, hLs]))
      have k9 : hp (((L.alloc (.cells #[.iface 197 (.agg #[ptr c])] 194)).alloc (.cells #[ptr c] 197)).alloc (.cells #[ptr c] 197)) (w5.heap.size + 1 + 1) = some (.cells #[ptr c] 197 (0, 0)) := hp_alloc_at _ _ (by simp only [World.size_alloc, hLs])
      have hWs : (((L.alloc (.cells #[.iface 197 (.agg #[ptr c])] 194)).alloc (.cells #[ptr c] 197)).alloc (.cells #[ptr c] 197)).heap.size = w5.heap.size + 1 + 1 + 1 := by simp only [World.size_alloc, hLs]
      rw [hL] at k5 k9 hWs
      refine rdy8 hcd ⟨Nat.le_trans (Nat.le_of_lt G1.out.2) (Nat.le_succ _), ?_⟩ ⟨Nat.le_trans (Nat.le_of_lt G1.out.2) (by omega), ?_⟩ k5 k9
      · exact Nat.lt_of_lt_of_eq (by omega) hWs.symm
      · exact Nat.lt_of_lt_of_eq (by omega) hWs.symm
    · subst e
      obtain ⟨c, hc, hsh⟩ := shp_inv9 HSH.out
      subst hsh
      have HC := Lib.hid hc; clear hc
      go_wp2_with fail
      have fin := fin_of (g1 := w.heap.size) (no := no) (ki := (wt 9 : Nat)) (chk := .func (.func 117) #[] #[ptr w5.heap.size, ptr w.heap.size]) (wr := .func (.func 127) #[.agg #[ptr c, .int .u64 least, .int .u64 most]] #[]) (rd := .func (.func 128) #[.agg #[ptr c, .int .u64 least, .int .u64 most]] #[]) (o := .cells #[.iface 201 (.agg #[ptr c, .int .u64 least, .int .u64 most])] 194) hn12 K2.out B5.out G2.out G3.out (Below.alloc (Below.alloc (Below.refl _ _) (by first | (simp; done) | (simp; omega)) (.cells #[.pointer none] 197)) (by first | (simp; done) | (simp; omega)) (.cells #[ptr c, .int .u64 least, .int .u64 most] 201))
      refine ret_row Tryz.results93 Tryz.underlying149 rfl (by kernel_rfl) rfl fin.two rfl ⟨_, _, _, rfl, ?_, fin.below⟩
      have hcd := Cd.keep (Bt.sub (w0 := w) (G0.out) (Nat.le_of_lt fin.size)) (fun b hb hlt => fin.keep b (fun e => by have := hb.1; have := GQ.out; omega) (fun e => by have := hb.1; have := GQ.out; omega) hlt) m c sub HC.out
      exact rdy9 hcd ⟨Nat.le_of_lt G1.out.2, fin.size⟩ ⟨G1.out.1, Nat.lt_trans G1.out.2 fin.size⟩ fin.four ((fin.keep w.heap.size hx12 hx13 G1.out.2).trans K1.out)
end Go.Proofs.YtinngljphjdpoaaGreatDoor.Cc
