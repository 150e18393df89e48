/- The law AgreeSafeties, walked. -/
import Derived.Test.YtjlhicopinhiaaaDoorDq
namespace Go.Proofs.YtjlhicopinhiaaaDoor.Dl
open Go Go.RowKit Go.Proofs.YtjlhicopinhiaaaDoor.Pa Go.Proofs.YtjlhicopinhiaaaDoor.Pb Go.Proofs.YtjlhicopinhiaaaDoor.Pc Go.Proofs.YtjlhicopinhiaaaDoor.Pf Go.Proofs.YtjlhicopinhiaaaDoor.Pq Go.Proofs.YtjlhicopinhiaaaDoor.Pr Go.Proofs.YtjlhicopinhiaaaDoor.Sv Go.Proofs.YtjlhicopinhiaaaDoor.Sk Go.Proofs.YtjlhicopinhiaaaDoor.Sd Go.Proofs.YtjlhicopinhiaaaDoor.Se Go.Proofs.YtjlhicopinhiaaaDoor.Sf Go.Proofs.YtjlhicopinhiaaaDoor.Su Go.Proofs.YtjlhicopinhiaaaDoor.Sy Go.Proofs.YtjlhicopinhiaaaDoor.Dg Go.Proofs.YtjlhicopinhiaaaDoor.Dp Go.Proofs.YtjlhicopinhiaaaDoor.Dr Go.Proofs.YtjlhicopinhiaaaDoor.Ds Go.Proofs.YtjlhicopinhiaaaDoor.Dq
set_option linter.unusedVariables false
set_option linter.unusedSimpArgs false
set_option maxHeartbeats 1000000 in
set_option maxRecDepth 100000 in
theorem safeties (a b : Vector UInt8 32) (r : Int) {Q : Prop} (_ : Q) (w : World) (hT : Tab w) :
    Calls Tryd.prog 3 #[.agg (bv a), .agg (bv b), .int .i64 r] w fun e w' => e = .returned (.bool true) ∧ Below w.heap.size w w' := by
  have b0 : Below w.heap.size w ((w.alloc (.cells (bv a) 23)).alloc (.cells (bv b) 23)) := ((Below.refl _ _).alloc (Nat.le_refl _) _).alloc (by simp) _
  have ka : By ((w.alloc (.cells (bv a) 23)).alloc (.cells (bv b) 23)) w.heap.size 23 a := by unfold By; simp [go_sem]
  have kb : By ((w.alloc (.cells (bv a) 23)).alloc (.cells (bv b) 23)) (w.heap.size + 1) 23 b := by unfold By; exact hp_alloc_at _ _ (by simp)
  have KA := Lib.hid ka; have KB := Lib.hid kb; have B0 := Lib.hid b0; clear ka kb b0
  have HT := Lib.hid hT; clear hT
  go_enter Tryd.func3, Tryd.ntmps3
  go_wp2_with (go_at_call 9999)
  generalize hw1 : (w.alloc (.cells (bv a) 23)).alloc (.cells (bv b) 23) = w1 at *
  go_at_call 6
  refine (psafety a b r w1 (HT.out.below B0.out)).mono ?_
  rintro _ w2 ⟨rfl, b2⟩
  have ka : hp w2 w.heap.size = some (.cells (bv a) 23 (0, 0)) := KA.out.below b2
  have kb : hp w2 (w.heap.size + 1) = some (.cells (bv b) 23 (0, 0)) := KB.out.below b2
  have B2 := Lib.hid (B0.out.trans (b2.mono B0.out.size))
  clear KA KB B0 b2 hw1
  generalize hs : (if 1 ≤ r ∧ r ≤ 6000 then safe a b r.toNat else []) = s at *
  generalize he : (if 1 ≤ r ∧ r ≤ 6000 then (0 : Int) else 1) = e at *
  go_wp2_with (go_at_call 9999)
  go_at_call 7
  refine (rsafety a b r w2).mono ?_
  rintro _ w3 ⟨rfl, b3⟩
  rw [hs, he]
  have B3 := Lib.hid (B2.out.trans (b3.mono B2.out.size))
  clear ka kb b3 B2 hs he
  go_wp2_with fail
  go_ret
  exact ⟨rfl, B3.out⟩
end Go.Proofs.YtjlhicopinhiaaaDoor.Dl
