/- made: both codecs of a schema. -/
import Derived.Test.YtpfckpaokoifhaaGreatDoorCm
import Derived.OwnWalk
namespace Go.Proofs.YtpfckpaokoifhaaGreatDoor.Md
open Go Go.RowKit Go.Proofs.YtpfckpaokoifhaaGreatDoor.Pa Go.Proofs.YtpfckpaokoifhaaGreatDoor.Pb Go.Proofs.YtpfckpaokoifhaaGreatDoor.Pf Go.Proofs.YtpfckpaokoifhaaGreatDoor.Sc Go.Proofs.YtpfckpaokoifhaaGreatDoor.Rs Go.Proofs.YtpfckpaokoifhaaGreatDoor.Sl Go.Proofs.YtpfckpaokoifhaaGreatDoor.Hs Go.Proofs.YtpfckpaokoifhaaGreatDoor.Ht Go.Proofs.YtpfckpaokoifhaaGreatDoor.Va Go.Proofs.YtpfckpaokoifhaaGreatDoor.Vc Go.Proofs.YtpfckpaokoifhaaGreatDoor.Vd Go.Proofs.YtpfckpaokoifhaaGreatDoor.Vl Go.Proofs.YtpfckpaokoifhaaGreatDoor.Vs Go.Proofs.YtpfckpaokoifhaaGreatDoor.Ls Go.Proofs.YtpfckpaokoifhaaGreatDoor.Ca Go.Proofs.YtpfckpaokoifhaaGreatDoor.Cb Go.Proofs.YtpfckpaokoifhaaGreatDoor.Ce Go.Proofs.YtpfckpaokoifhaaGreatDoor.Tw Go.Proofs.YtpfckpaokoifhaaGreatDoor.Wi Go.Proofs.YtpfckpaokoifhaaGreatDoor.Cm
set_option linter.unusedVariables false
set_option linter.unusedSimpArgs false
/-- What made hands back. -/
def MadeSaid (n : Nat) (l : List Slot) (W : World) (e : Ending) (w' : World) : Prop :=
  ((valid n l ≠ 0 ∧ e = .returned (.tuple #[.pointer none, .pointer none, .bool true])) ∨ (valid n l = 0 ∧ ∃ c r, e = .returned (.tuple #[ptr c, ptr r, .bool true]) ∧ Cd w' (Bt W w') n c l ∧ Rc w' (Bt W w') n r l)) ∧ Below W.heap.size W w'
set_option maxHeartbeats 2000000 in
set_option maxRecDepth 100000 in
theorem made {n : Nat} {v : Value} {l : List Slot} (W : World) (h : RdS W n v l) (hf : Few n l) : Calls Tryz.prog 7 #[v] W (MadeSaid n l W) := by
  obtain ⟨A, c, rfl, -⟩ := h.slice
  have hlen : l.length + 3 ≤ maxLen := by
    obtain ⟨m, rfl⟩ := h.pos
    have := hf.1
    simp [maxLen]; omega
  have H := Lib.hid h; have HF := Lib.hid hf; have HL := Lib.hid hlen; clear h hf hlen
  unfold MadeSaid
  go_enter Tryz.func7, Tryz.ntmps7
  go_wp2_with (go_at_call 9999)
  go_at_call 17
  refine (handSlots n _ l W W H.out HF.out (Below.refl _ _)).mono ?_
  rintro e w1 ⟨v', rfl, hd1, hb1⟩
  have hwp := wp_of_hd (S := fun b => W.heap.size ≤ b ∧ b < w1.heap.size) (fun b h1 h2 => ⟨h1, h2⟩) n v' l hd1 HF.out
  obtain ⟨b, rfl, -⟩ := hd1.slice
  have HD1 := Lib.hid hd1; have HWP := Lib.hid hwp; have B1 := Lib.hid hb1; clear hd1 hwp hb1
  go_wp2_with (go_at_call 9999)
  go_at_call 18
  refine (pCompile w1 (HD1.out.rd n _ _ HL.out HF.out)).mono ?_
  rintro e w2 ⟨he, hb2⟩
  have hc2 := B1.out.trans (hb2.mono B1.out.size)
  have B12 := Lib.hid hb2; have B2 := Lib.hid hc2; clear hb2 hc2
  have rc := rCompile w2 (H.out.below B2.out) HF.out
  have RC := Lib.hid rc; clear rc
  -- what comes behind both, given the two answers
  have tail : ∀ (w3 w5 : World), Below w2.heap.size w2 w3 → (∃ w4, Below w3.heap.size w3 w4 ∧ Over (fun b => W.heap.size ≤ b ∧ b < w1.heap.size) w4 w5) → Below W.heap.size W w5 ∧ (∀ k, w1.heap.size ≤ k → k < w3.heap.size → w5.heap[k]? = w3.heap[k]?) ∧ w3.heap.size ≤ w5.heap.size := by
    rintro w3 w5 b3 ⟨w4, b4, ov⟩
    have h1 := B1.out.size; have h2 := B12.out.size; have h3 := b3.size; have h4 := b4.size
    have hW4 : Below W.heap.size W w4 := (B2.out.trans (b3.mono (by omega))).trans (b4.mono (by omega))
    refine ⟨⟨ov.os.trans hW4.os, ov.tape.trans hW4.tape, ov.output.trans hW4.output, by rw [ov.size]; exact hW4.size, fun k hk => (ov.keep k (fun h => by omega)).trans (hW4.block k hk)⟩, fun k hk1 hk2 => (ov.keep k (fun h => by omega)).trans (b4.block k hk2), by rw [ov.size]; exact h4⟩
  have TL := Lib.hid tail; clear tail
  have lf : ∀ w3, Below w2.heap.size w2 w3 → Calls Tryz.prog 20 #[.slice (some ⟨b, 0, none⟩) l.length (l.length + 3), .slice A l.length c] w3 fun e w' => e = .returned (.bool true) ∧ Below w3.heap.size w3 w' := fun w3 b3 =>
    leftSlots n _ _ _ l W w3 H.out ((HD1.out.below B12.out).below b3) HF.out (B2.out.trans (b3.mono B2.out.size))
  have LF := Lib.hid lf; clear lf
  have wi : ∀ w3 w4, Below w2.heap.size w2 w3 → Below w3.heap.size w3 w4 → Calls Tryz.prog 21 #[.slice (some ⟨b, 0, none⟩) l.length (l.length + 3)] w4 fun e w' => e = .returned (.tuple #[]) ∧ Over (fun b => W.heap.size ≤ b ∧ b < w1.heap.size) w4 w' := fun w3 w4 b3 b4 =>
    wipe _ n _ w4 (Wp.below b4 n _ (Wp.below b3 n _ (Wp.below B12.out n _ HWP.out)))
  have WI := Lib.hid wi; clear wi
  rcases he with ⟨hv, rfl⟩ | ⟨hv, cc, rfl, hcd⟩
  · have HV := Lib.hid hv; clear hv
    go_wp2_with (go_at_call 9999)
    go_at_call 19
    refine RC.out.mono ?_
    rintro e w3 ⟨he, hb3⟩
    rcases he with ⟨-, rfl⟩ | ⟨h0, -⟩
    · have B3 := Lib.hid hb3; clear hb3
      go_wp2_with (go_at_call 9999)
      go_at_call 20
      refine (LF.out w3 B3.out).mono ?_
      rintro e w4 ⟨rfl, hb4⟩
      have B4 := Lib.hid hb4; clear hb4
      go_wp2_with (go_at_call 9999)
      go_at_call 21
      refine (WI.out w3 w4 B3.out B4.out).mono ?_
      rintro e w5 ⟨rfl, hov⟩
      have HO := Lib.hid hov; clear hov
      go_wp2_with fail
      go_ret3
      exact ⟨.inl ⟨HV.out, rfl⟩, (TL.out w3 w5 B3.out ⟨w4, B4.out, HO.out⟩).1⟩
    · exact absurd h0 HV.out
  · have HV := Lib.hid hv; have HCD := Lib.hid hcd; clear hv hcd
    unfold ptr at *
    go_wp2_with (go_at_call 9999)
    go_at_call 19
    refine RC.out.mono ?_
    rintro e w3 ⟨he, hb3⟩
    rcases he with ⟨h0, -⟩ | ⟨-, r, rfl, hrc⟩
    · exact absurd HV.out h0
    · have B3 := Lib.hid hb3; have HRC := Lib.hid hrc; clear hb3 hrc
      go_wp2_with (go_at_call 9999)
      go_at_call 20
      refine (LF.out w3 B3.out).mono ?_
      rintro e w4 ⟨rfl, hb4⟩
      have B4 := Lib.hid hb4; clear hb4
      go_wp2_with (go_at_call 9999)
      go_at_call 21
      refine (WI.out w3 w4 B3.out B4.out).mono ?_
      rintro e w5 ⟨rfl, hov⟩
      have HO := Lib.hid hov; clear hov
      go_wp2_with fail
      go_ret3
      obtain ⟨t1, t2, t3⟩ := TL.out w3 w5 B3.out ⟨w4, B4.out, HO.out⟩
      have s1 := B1.out.size; have s2 := B12.out.size; have s3 := B3.out.size
      refine ⟨.inr ⟨HV.out, cc, r, rfl, Cd.keep (Bt.sub s1 (by omega)) (fun q hq _ => ?_) n cc l HCD.out, Rc.keep (Bt.sub (by omega) (by omega)) (fun q hq _ => ?_) HRC.out⟩, t1⟩
      · exact (t2 q hq.1 (by have := hq.2; omega)).trans (B3.out.block q hq.2)
      · exact t2 q (by have := hq.1; omega) hq.2
end Go.Proofs.YtpfckpaokoifhaaGreatDoor.Md
