/- The law's joined (of two keys) and side. -/
import Derived.Test.YtjlhicopinhiaaaDoorDm
namespace Go.Proofs.YtjlhicopinhiaaaDoor.Dj
open Go Go.RowKit Go.Proofs.YtjlhicopinhiaaaDoor.Pa Go.Proofs.YtjlhicopinhiaaaDoor.Pb Go.Proofs.YtjlhicopinhiaaaDoor.Pc Go.Proofs.YtjlhicopinhiaaaDoor.Pf Go.Proofs.YtjlhicopinhiaaaDoor.Pq Go.Proofs.YtjlhicopinhiaaaDoor.Pr Go.Proofs.YtjlhicopinhiaaaDoor.Sv Go.Proofs.YtjlhicopinhiaaaDoor.Sk Go.Proofs.YtjlhicopinhiaaaDoor.Sd Go.Proofs.YtjlhicopinhiaaaDoor.Se Go.Proofs.YtjlhicopinhiaaaDoor.Sf Go.Proofs.YtjlhicopinhiaaaDoor.Su Go.Proofs.YtjlhicopinhiaaaDoor.Dg Go.Proofs.YtjlhicopinhiaaaDoor.Dp Go.Proofs.YtjlhicopinhiaaaDoor.Ds Go.Proofs.YtjlhicopinhiaaaDoor.Dq Go.Proofs.YtjlhicopinhiaaaDoor.Dm
set_option linter.unusedVariables false
set_option linter.unusedSimpArgs false
/-- A table of two keys, built, kept whole. -/
def bsX (p : Array (Nat × Value)) : Sem Value := Instr.buildSlice 41 2 p
@[go_sem ↓] theorem bs_y (p : Array (Nat × Value)) : Instr.buildSlice 41 2 p = bsX p := rfl
theorem run_row (w : World) (E : TypeId) (c : Array Value) : (newRow E c).run Tryd.prog w = .ok ⟨w.heap.size, 0, none⟩ (w.alloc (.cells c E)) := rfl
theorem fill_two (X Y Z : Array Value) (hX : X.size = 32) (hY : Y.size = 32) (hZ : Z.size = 64) : fillX (fun i => some (i * 32, 32)) Z [(0, .agg X), (1, .agg Y)] = some (X ++ Y) := by
  have e1 : (putR Z (0 * 32) X).size = 64 := by rw [putR_size _ _ _ (by omega)]; exact hZ
  show (if X.size = 32 ∧ 0 * 32 + 32 ≤ Z.size then (if Y.size = 32 ∧ 1 * 32 + 32 ≤ (putR Z (0 * 32) X).size then some (putR (putR Z (0 * 32) X) (1 * 32) Y) else none) else none) = _
  rw [if_pos ⟨hX, by omega⟩, if_pos ⟨hY, by omega⟩]
  congr 1
  apply Array.ext'
  have hx : X.toList.length = 32 := by simpa using hX
  have hy : Y.toList.length = 32 := by simpa using hY
  have hz : Z.toList.length = 64 := by simpa using hZ
  have hpx : (putR Z (0 * 32) X).toList = X.toList ++ Z.toList.drop 32 := by simp [putR, hX]
  have h5 : (putR (putR Z (0 * 32) X) (1 * 32) Y).toList = (putR Z (0 * 32) X).toList.take 32 ++ Y.toList ++ (putR Z (0 * 32) X).toList.drop 64 := by
    simp only [putR, hY]
  rw [h5, hpx, List.take_left' hx, List.drop_eq_nil_of_le (by simp [hx, hZ])]
  simp
theorem run_bs (w : World) (x y : Vector UInt8 32) : (bsX #[(0, .agg (bv x)), (1, .agg (bv y))]).run Tryd.prog w = .ok (.slice (some ⟨w.heap.size, 0, none⟩) 2 2) (w.alloc (.cells (bv x ++ bv y) 23)) := by
  have h1 : (sizeOf 23).run Tryd.prog w = .ok 32 w := by kernel_rfl
  have h2 : (zeroValue 23).run Tryd.prog w = .ok (.agg (bv (Vector.replicate 32 0))) w := by kernel_rfl
  simp only [bsX, Instr.buildSlice, Sem.run_bind, run_underlying Tryd.underlying41, h1, Result.andThen_ok]
  rw [if_neg (by decide)]
  rw [if_neg (by decide)]
  simp only [Sem.run_bind, h2, Result.andThen_ok, Sem.run_pure, Value.cells, fill_eq]
  rw [fill_two _ _ _ (by simp) (by simp) (by simp)]
  rfl
theorem two_rd {w : World} {g : Nat} {x y : Vector UInt8 32} (h : hp w g = some (.cells (bv x ++ bv y) 23 (0, 0))) (o : Nat) (ho : o = 0 ∨ o = 1) : Rd w (.slice (some ⟨g, o * 32, none⟩) 32 32) (if o = 0 then x.toList else y.toList) := by
  have e : (bv x ++ bv y) = (cb (x.toList ++ y.toList)).toArray := by rw [bv_cb, bv_cb, cb_append, List.append_toArray]
  have ha : Arr w g 23 (x.toList ++ y.toList) := by unfold Arr; rw [← e]; exact h
  have := ha.rd (o * 32) 32 32 (by simp; omega) (Nat.le_refl _) (by simp [maxLen])
  rcases ho with rfl | rfl
  · rw [if_pos rfl]; simpa [List.take_append_of_le_length] using this
  · rw [if_neg (by decide)]
    have e2 : ((x.toList ++ y.toList).drop (1 * 32)).take 32 = y.toList := by rw [List.drop_left' (by simp), List.take_of_length_le (by simp)]
    rw [e2] at this
    exact this
set_option maxHeartbeats 1000000 in
set_option maxRecDepth 100000 in
theorem pjoined {w : World} {g : Nat} {x y : Vector UInt8 32} (hg : hp w g = some (.cells (bv x ++ bv y) 23 (0, 0))) :
    Calls Tryd.prog 10 #[.slice (some ⟨g, 0, none⟩) 2 2] w fun e w' => ∃ v, e = .returned v ∧ Rd w' v (x.toList ++ y.toList) ∧ Below w.heap.size w w' := by
  have HG := Lib.hid hg; clear hg
  go_enter Tryd.func10, Tryd.ntmps10
  go_wp2_with fail
  go_loopw [3, 4] (fun s t wr => ∃ (i : Nat) (A : Option Addr) (c : Nat), i ≤ 2 ∧ t = .int .i64 i ∧ s = .slice A (32 * i) c ∧ Own wr w.heap.size 5 s ((x.toList ++ y.toList).take (32 * i)) ∧ Below w.heap.size w wr) (fun _ t _ => 2 - (intOf t).toNat)
  case atStart => exact ⟨0, none, 0, by omega, rfl, rfl, by simpa using Own.nil _ _ _, Below.refl _ _⟩
  case round =>
    obtain ⟨i, A, c, hi, rfl, rfl, ho, hb⟩ := hrel
    have HB := Lib.hid hb; have HO := Lib.hid ho; clear hb ho
    by_cases hlt : i < 2
    · have hsl : (Instr.sliceAt 23 (.pointer (some ⟨g, i * 32, none⟩)) none none none).run Tryd.prog wr = .ok (.slice (some ⟨g, i * 32, none⟩) 32 32) wr := by
        obtain rfl | rfl : i = 0 ∨ i = 1 := by omega
        all_goals kernel_rfl
      have hgr : hp wr g = some (.cells (bv x ++ bv y) 23 (0, 0)) := (HB.out.hp g (Array.getElem?_eq_some_iff.1 HG.out).1).trans HG.out
      obtain ⟨v', w', hr, o', hgr', -⟩ := run_appX uu8 30 HO.out (two_rd hgr i (by omega)) HB.out.size (by simp; split <;> simp <;> omega)
      obtain ⟨A', c', hv'⟩ := o'.slice
      have hl : ((x.toList ++ y.toList).take (32 * i) ++ if i = 0 then x.toList else y.toList) = (x.toList ++ y.toList).take (32 * (i + 1)) := by
        obtain rfl | rfl : i = 0 ∨ i = 1 := by omega
        · simp [List.take_append_of_le_length]
        · rw [if_neg (by decide), List.take_append_of_le_length (by simp), List.take_of_length_le (l := x.toList) (by simp), List.take_of_length_le (by simp)]
      rw [hl] at o' hv'
      obtain rfl : v' = .slice A' (32 * (i + 1)) c' := by rw [hv']; congr 1; simp; omega
      have hb' := below_grown HB.out HO.out (Nat.le_refl _) HB.out.size hgr'
      have O' := Lib.hid o'; have B' := Lib.hid hb'
      clear o' hb' hgr' hv' hl hgr
      go_wp2_with fail
      go_roundw
      case rel => exact ⟨i + 1, A', c', by omega, by go_num, rfl, O'.out, B'.out⟩
      case measure => simp [intOf]; omega
    · obtain rfl : i = 2 := by omega
      go_wp2_with fail
      go_ret
      refine ⟨_, rfl, ?_, HB.out⟩
      have := HO.out.rd
      rwa [List.take_of_length_le (by simp)] at this
end Go.Proofs.YtjlhicopinhiaaaDoor.Dj
