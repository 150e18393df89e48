/- faulty: an error says a fault. -/
import Derived.Test.YtpfckpaokoifhaaGreatDoorFy
import Derived.Test.YtpfckpaokoifhaaGreatDoorPb
import Derived.Deep.DeepCutAuto
import Derived.BigRegion
import Derived.Deep.RegionWith
namespace Go.Proofs.YtpfckpaokoifhaaGreatDoor.Fz
open Go Go.RowKit Go.Proofs.YtpfckpaokoifhaaGreatDoor.Pa Go.Proofs.YtpfckpaokoifhaaGreatDoor.Fy
set_option linter.unusedVariables false
set_option linter.unusedSimpArgs false
/-- The variable errors.errorType stands as laid. -/
def Et (w : World) : Prop := w.cell? ⟨0, 0, none⟩ = some (.iface 111 (.agg #[.pointer (some ⟨4, 37, none⟩)]))
theorem Et.lt {w : World} (h : Et w) : 0 < w.heap.size := by
  have h1 := World.block_lt_of_cell? w _ h
  exact Nat.lt_of_le_of_lt (Nat.zero_le _) h1
theorem Et.below {w w' : World} (h : Et w) (hb : Below w.heap.size w w') : Et w' :=
  (World.cell?_of_block (hb.block _ (World.block_lt_of_cell? w _ h))).trans h
set_option maxRecDepth 100000 in
theorem faulty_no (f1 f2 : Int) (w : World) : Calls Tryz.prog 9 #[.nilIface, .agg #[.int .i64 f1, .int .i64 f2, .int .i64 0]] w fun e w' => e = .returned (.bool true) ∧ Below w.heap.size w w' := by
  have HB := Lib.hid (show Below w.heap.size w (w.alloc (.cells #[.int .i64 f1, .int .i64 f2, .int .i64 0] 41)) from (Below.refl _ _).alloc (Nat.le_refl _) _)
  go_enter Tryz.func9, Tryz.ntmps9
  go_wp2
  go_ret
  exact ⟨rfl, HB.out⟩
theorem found_below (w : World) (o1 o2 o3 o4 o5 o6 : Obj) (v : Value) : Below w.heap.size w (((((((w.alloc o1).alloc o2).alloc o3).alloc o4).alloc o5).alloc o6).setCell ⟨w.heap.size + 1, 0, none⟩ v) := by
  have h : ∀ {w' : World} (o : Obj), Below w.heap.size w w' → Below w.heap.size w (w'.alloc o) := fun o hb => hb.alloc hb.size _
  exact (h _ (h _ (h _ (h _ (h _ (h _ (Below.refl _ _))))))).setCell (by simp) _
set_option maxHeartbeats 1000000 in
set_option maxRecDepth 100000 in
theorem faulty_hit (f1 f2 f3 : Int) (b : Nat) (w : World) (hw : hp w b = some (.cells #[.int .i64 f1, .int .i64 f2, .int .i64 f3] 41 (0, 0))) (h3 : f3 ≠ 0) (hE : Et w) :
    Calls Tryz.prog 9 #[.iface 58 (.pointer (some ⟨b, 0, none⟩)), .agg #[.int .i64 f1, .int .i64 f2, .int .i64 f3]] w fun e w' => e = .returned (.bool true) ∧ Below w.heap.size w w' := by
  have hblt : b < w.heap.size := (Array.getElem?_eq_some_iff.1 hw).1
  have h3z : (f3 == 0) = false := by simpa using h3
  have h0 := hE.lt
  obtain ⟨w2, hw2⟩ : ∃ y, y = (w.alloc (.cells #[.int .i64 f1, .int .i64 f2, .int .i64 f3] 41)).alloc (.cells #[.pointer none] 58) := ⟨_, rfl⟩
  have hb2 : Below w.heap.size w w2 := by rw [hw2]; exact ((Below.refl _ _).alloc (Nat.le_refl _) _).alloc (by simp) _
  have hc2 : w2.cell? ⟨w.heap.size + 1, 0, none⟩ = some (.pointer none) := by rw [hw2]; simp
  have hf2 : w2.frozen? ⟨w.heap.size + 1, 0, none⟩ = false := by rw [hw2]; simp
  have hx2 : hp w2 w.heap.size = some (.cells #[.int .i64 f1, .int .i64 f2, .int .i64 f3] 41 (0, 0)) := by rw [hw2]; exact (hp_alloc_past _ _ (by simp)).trans (hp_alloc_at _ _ rfl)
  have hs2 : w2.heap.size = w.heap.size + 1 + 1 := by rw [hw2]; simp
  have hg2 : w2.cell? ⟨0, 0, none⟩ = some (.iface 111 (.agg #[.pointer (some ⟨4, 37, none⟩)])) := hE.below hb2
  have hw2b : hp w2 b = some (.cells #[.int .i64 f1, .int .i64 f2, .int .i64 f3] 41 (0, 0)) := (hb2.hp _ hblt).trans hw
  have H := Lib.hid (as_hit ⟨b, 0, none⟩ ⟨w.heap.size + 1, 0, none⟩ (.pointer none) w2.drew hg2 hc2 hf2)
  go_enter Tryz.func9, Tryz.ntmps9
  go_upto_region 4 with fail
  rw [← hw2]
  obtain ⟨w3, hw3⟩ : ∃ y, y = ((((w2.drew.alloc (.cells #[.pointer (some ⟨w.heap.size + 1, 0, none⟩)] 60)).alloc (.cells #[.pointer (some ⟨4, 60, none⟩), .pointer (some ⟨w2.drew.heap.size, 0, none⟩), .int .u64 150] 76)).alloc (.cells #[.pointer (some ⟨4, 60, none⟩), .pointer (some ⟨w2.drew.heap.size, 0, none⟩), .int .u64 150] 76)).alloc (.cells #[.pointer (some ⟨b, 0, none⟩)] 58)).setCell ⟨w.heap.size + 1, 0, none⟩ (.pointer (some ⟨b, 0, none⟩)) := ⟨_, rfl⟩
  have hb3 : Below w.heap.size w w3 := by
    have h : ∀ {w' : World} (o : Obj), Below w.heap.size w w' → Below w.heap.size w (w'.alloc o) := fun o hb => hb.alloc hb.size _
    rw [hw3]; exact (h _ (h _ (h _ (h _ hb2.drew)))).setCell (by simp) _
  have hh : ∀ k, k < w2.heap.size → k ≠ w.heap.size + 1 → hp w3 k = hp w2 k := fun k hk hne => by
    rw [hw3]
    refine (hp_setCell_other _ _ _ hne).trans ?_
    rw [hp_alloc_past _ _ (by simp; omega), hp_alloc_past _ _ (by simp; omega), hp_alloc_past _ _ (by simp; omega)]
    exact hp_alloc_past (w := w2.drew) _ _ hk
  have hx3 := (hh w.heap.size (by omega) (by omega)).trans hx2
  have hb3r := (hh b (by omega) (by omega)).trans hw2b
  have hc3 : w3.cell? ⟨w.heap.size + 1, 0, none⟩ = some (.pointer (some ⟨b, 0, none⟩)) := by
    have h2 : hp w2 (w.heap.size + 1) = some (.cells #[.pointer none] 58 (0, 0)) := by rw [hw2]; exact hp_alloc_at _ _ (by simp)
    have h3 : hp ((((w2.drew.alloc (.cells #[.pointer (some ⟨w.heap.size + 1, 0, none⟩)] 60)).alloc (.cells #[.pointer (some ⟨4, 60, none⟩), .pointer (some ⟨w2.drew.heap.size, 0, none⟩), .int .u64 150] 76)).alloc (.cells #[.pointer (some ⟨4, 60, none⟩), .pointer (some ⟨w2.drew.heap.size, 0, none⟩), .int .u64 150] 76)).alloc (.cells #[.pointer (some ⟨b, 0, none⟩)] 58)) (w.heap.size + 1) = some (.cells #[.pointer none] 58 (0, 0)) := by
      rw [hp_alloc_past _ _ (by simp; omega), hp_alloc_past _ _ (by simp; omega), hp_alloc_past _ _ (by simp; omega), hp_alloc_past _ _ (by simp; omega)]; exact h2
    have h4 := heap_setCell_same _ (w.heap.size + 1) 0 _ _ (.pointer (some ⟨b, 0, none⟩)) h3
    rw [← hw3] at h4
    have := hp_cell h4 0
    simpa using this
  have hcx := fun i => hp_cell hx3 i
  have hcb := fun i => hp_cell hb3r i
  have hk1 : ∀ i, w2.cell? ⟨w.heap.size, i, none⟩ = (#[.int .i64 f1, .int .i64 f2, .int .i64 f3] : Array Value)[i]? := fun i => hp_cell hx2 i
  rw [← hw3] at H
  have HB := Lib.hid hb3
  clear hw3 hw2 hb2 hc2 hf2 hx2 hs2 hg2 hw2b hb3 hh hx3 hb3r hE hw h0 hblt
  go_region_with (go_at_call 22; refine H.out.mono ?_; rintro _ w4 ⟨rfl, rfl⟩)
  all_goals (go_wp2_with fail; go_ret; exact ⟨rfl, HB.out⟩)
end Go.Proofs.YtpfckpaokoifhaaGreatDoor.Fz
