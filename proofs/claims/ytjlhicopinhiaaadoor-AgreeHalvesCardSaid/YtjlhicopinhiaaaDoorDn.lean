/- The law AgreeNumber, walked. -/
import Derived.Test.YtjlhicopinhiaaaDoorDm
import Derived.Test.YtjlhicopinhiaaaDoorSt
namespace Go.Proofs.YtjlhicopinhiaaaDoor.Dn
open Go Go.RowKit Go.Proofs.YtjlhicopinhiaaaDoor.Pa Go.Proofs.YtjlhicopinhiaaaDoor.Pb Go.Proofs.YtjlhicopinhiaaaDoor.Pc Go.Proofs.YtjlhicopinhiaaaDoor.Pf Go.Proofs.YtjlhicopinhiaaaDoor.Pq Go.Proofs.YtjlhicopinhiaaaDoor.Pr Go.Proofs.YtjlhicopinhiaaaDoor.Sv Go.Proofs.YtjlhicopinhiaaaDoor.Sk Go.Proofs.YtjlhicopinhiaaaDoor.Sd Go.Proofs.YtjlhicopinhiaaaDoor.Se Go.Proofs.YtjlhicopinhiaaaDoor.Sf Go.Proofs.YtjlhicopinhiaaaDoor.St Go.Proofs.YtjlhicopinhiaaaDoor.Su Go.Proofs.YtjlhicopinhiaaaDoor.Sy Go.Proofs.YtjlhicopinhiaaaDoor.Dg Go.Proofs.YtjlhicopinhiaaaDoor.Dp Go.Proofs.YtjlhicopinhiaaaDoor.Dr Go.Proofs.YtjlhicopinhiaaaDoor.Ds Go.Proofs.YtjlhicopinhiaaaDoor.Dq Go.Proofs.YtjlhicopinhiaaaDoor.Dm
set_option linter.unusedVariables false
set_option linter.unusedSimpArgs false
@[go_sem ↓] theorem eqxKey (x y : Value) : binOp .eql 23 x y = eqX 23 x y := rfl
@[go_sem ↓] theorem nexKey (x y : Value) : binOp .neq 23 x y = neX 23 x y := rfl
theorem eqiKey (d : Nat) (w : World) (x y : Vector UInt8 32) : (Op.equalIn (d + 2) 23 (.agg (bv x)) (.agg (bv y))).run Tryd.prog w = .ok (decide (x = y)) w := run_equalIn_bytes w d Tryd.underlying23 Tryd.underlying5 (by kernel_rfl) x y
@[go_sem] theorem eqKey (w : World) (x y : Vector UInt8 32) : (eqX 23 (.agg (bv x)) (.agg (bv y))).run Tryd.prog w = .ok (.bool (decide (x = y))) w := run_eqX w _ _ _ (eqiKey _ w x y)
@[go_sem] theorem neKey (w : World) (x y : Vector UInt8 32) : (neX 23 (.agg (bv x)) (.agg (bv y))).run Tryd.prog w = .ok (.bool (!decide (x = y))) w := run_neX w _ _ _ (eqiKey _ w x y)
set_option maxHeartbeats 1000000 in
set_option maxRecDepth 100000 in
theorem number (a b : Vector UInt8 32) (r : Int) {Q : Prop} (_ : Q) (w : World) (hT : Tab w) :
    Calls Tryd.prog 4 #[.agg (bv a), .agg (bv b), .int .i64 r] w fun e w' => e = .returned (.bool true) ∧ Below w.heap.size w w' := by
  have b0 : Below w.heap.size w ((w.alloc (.cells (bv a) 23)).alloc (.cells (bv b) 23)) := ((Below.refl _ _).alloc (Nat.le_refl _) _).alloc (by simp) _
  have ka : By ((w.alloc (.cells (bv a) 23)).alloc (.cells (bv b) 23)) w.heap.size 23 a := by unfold By; simp [go_sem]
  have kb : By ((w.alloc (.cells (bv a) 23)).alloc (.cells (bv b) 23)) (w.heap.size + 1) 23 b := by unfold By; exact hp_alloc_at _ _ (by simp)
  have KA := Lib.hid ka; have KB := Lib.hid kb; have B0 := Lib.hid b0; clear ka kb b0
  have HT := Lib.hid hT; clear hT
  go_enter Tryd.func4, Tryd.ntmps4
  go_wp2_with (go_at_call 9999)
  generalize hw1 : (w.alloc (.cells (bv a) 23)).alloc (.cells (bv b) 23) = w1 at *
  go_at_call 6
  refine (psafety a b r w1 (HT.out.below B0.out)).mono ?_
  rintro _ w2 ⟨rfl, b2⟩
  have ka : hp w2 w.heap.size = some (.cells (bv a) 23 (0, 0)) := KA.out.below b2
  have kb : hp w2 (w.heap.size + 1) = some (.cells (bv b) 23 (0, 0)) := KB.out.below b2
  have B2 := Lib.hid (B0.out.trans (b2.mono B0.out.size))
  clear KA KB B0 b2 hw1
  have hpx := psafety b a r w2 (HT.out.below B2.out)
  rw [safe_comm b a] at hpx
  have HPX := Lib.hid hpx; clear hpx
  by_cases hr : 1 ≤ r ∧ r ≤ 6000
  · have HPX := Lib.hid (show Calls Tryd.prog 6 #[.agg (bv b), .agg (bv a), .int .i64 r] w2 fun e w' => e = .returned (.tuple #[.string ⟨(safe a b r.toNat).toArray⟩, .int .i64 0]) ∧ Below w2.heap.size w2 w' by have := HPX.out; rw [if_pos hr, if_pos hr] at this; exact this)
    rw [if_pos hr, if_pos hr]
    have hgr := grp_safe a b r.toNat
    have hsm : a = b → (safe a b r.toNat).take 35 = (safe a b r.toNat).drop 36 := fun e => by subst e; exact same_halves a _
    have HG := Lib.hid hgr; have HSM := Lib.hid hsm; clear hgr hsm
    generalize safe a b r.toNat = s at *
    go_wp2_with (go_at_call 9999)
    go_at_call 6
    refine HPX.out.mono ?_
    rintro _ w3 ⟨rfl, b3⟩
    have ka3 : hp w3 w.heap.size = some (.cells (bv a) 23 (0, 0)) := By.below (T := 23) (k := a) ka b3
    have kb3 : hp w3 (w.heap.size + 1) = some (.cells (bv b) 23 (0, 0)) := By.below (T := 23) (k := b) kb b3
    have B3 := Lib.hid (B2.out.trans (b3.mono B2.out.size))
    have KA := Lib.hid ka3; have KB := Lib.hid kb3
    clear ka kb b3 B2 ka3 kb3 HPX
    have hr1 : ¬ r < 1 := by omega
    have hr2 : ¬ 6000 < r := by omega
    obtain ⟨S0, hS⟩ : ∃ S : ByteArray, S = ⟨s.toArray⟩ := ⟨_, rfl⟩
    rw [← hS]
    have hsz : S0.size = 71 := by rw [hS]; show s.toArray.size = 71; simpa using HG.out.1
    have HGP := Lib.hid (fun w : World => (show Calls Tryd.prog 8 #[.string S0] w fun e w' => e = .returned (.bool true) ∧ w' = w by rw [hS]; exact pgrouped HG.out w))
    have hab : a = b → S0.extract 0 35 = S0.extract 36 71 := fun e => by
      rw [hS, cut_str, cut_str, List.drop_zero, List.take_of_length_le (l := s.drop 36) (by simp [HG.out.1])]
      rw [show 35 - 0 = 35 from rfl, HSM.out e]
    have HAB := Lib.hid hab; have HS := Lib.hid hS; clear hab hS
    go_wp2_with fail
    have hka : ∀ u : Held (Like w3), hp u.w w.heap.size = some (.cells (bv a) 23 (0, 0)) := fun u => by obtain ⟨m, hm⟩ := u.h; rw [hm]; exact (hp_drewN m _).trans KA.out
    have hkb : ∀ u : Held (Like w3), hp u.w (w.heap.size + 1) = some (.cells (bv b) 23 (0, 0)) := fun u => by obtain ⟨m, hm⟩ := u.h; rw [hm]; exact (hp_drewN m _).trans KB.out
    by_cases e : a = b
    · have hx := HAB.out e
      refine wp_region_calm (S := Like w3) (by kernel_rfl) (by kernel_rfl) (Like.refl _) ?_
      intro hN
      repeat (go_big_quiet_step (first | (go_at_call 8; exact calm_call (HGP.out _) (fun w' hs hr => hr ▸ hs))))
      refine wpQuiet_nil ?_
      intro u
      obtain ⟨m, hm⟩ := u.h
      rw [hm]
      go_wp2_with fail
      go_ret
      exact ⟨rfl, ⟨B3.out.os, B3.out.tape, B3.out.output, B3.out.size, B3.out.block⟩⟩
    · refine wp_region_calm (S := Like w3) (by kernel_rfl) (by kernel_rfl) (Like.refl _) ?_
      intro hN
      repeat (go_big_quiet_step (first | (go_at_call 8; exact calm_call (HGP.out _) (fun w' hs hr => hr ▸ hs))))
      refine wpQuiet_nil ?_
      intro u
      obtain ⟨m, hm⟩ := u.h
      rw [hm]
      go_wp2_with fail
      go_ret
      exact ⟨rfl, ⟨B3.out.os, B3.out.tape, B3.out.output, B3.out.size, B3.out.block⟩⟩
  · have HPX := Lib.hid (show Calls Tryd.prog 6 #[.agg (bv b), .agg (bv a), .int .i64 r] w2 fun e w' => e = .returned (.tuple #[.string ⟨#[]⟩, .int .i64 1]) ∧ Below w2.heap.size w2 w' by have := HPX.out; rw [if_neg hr, if_neg hr] at this; exact this)
    rw [if_neg hr, if_neg hr]
    go_wp2_with (go_at_call 9999)
    go_at_call 6
    refine HPX.out.mono ?_
    rintro _ w3 ⟨rfl, b3⟩
    have B3 := Lib.hid (B2.out.trans (b3.mono B2.out.size))
    clear ka kb b3 B2 HPX
    by_cases h1 : r < 1
    · go_wp2_with fail
      go_ret
      exact ⟨rfl, B3.out⟩
    · have h2 : 6000 < r := by omega
      go_wp2_with fail
      go_ret
      exact ⟨rfl, B3.out⟩
end Go.Proofs.YtjlhicopinhiaaaDoor.Dn
