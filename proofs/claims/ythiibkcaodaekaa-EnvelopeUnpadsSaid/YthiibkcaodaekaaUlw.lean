/- The law EnvelopeUnpads' walk. -/
import Derived.Test.YthiibkcaodaekaaUnr
namespace Go.Proofs.Ythiibkcaodaekaa.Ulw
open Go Go.RowKit Go.Proofs.Ythiibkcaodaekaa.Pa Go.Proofs.Ythiibkcaodaekaa.Pb Go.Proofs.Ythiibkcaodaekaa.Pc Go.Proofs.Ythiibkcaodaekaa.Pf Go.Proofs.Ythiibkcaodaekaa.Ap Go.Proofs.Ythiibkcaodaekaa.Hd Go.Proofs.Ythiibkcaodaekaa.Bk Go.Proofs.Ythiibkcaodaekaa.Br Go.Proofs.Ythiibkcaodaekaa.Bl Go.Proofs.Ythiibkcaodaekaa.Pad Go.Proofs.Ythiibkcaodaekaa.Unp Go.Proofs.Ythiibkcaodaekaa.Unr
set_option linter.unusedVariables false
set_option linter.unusedSimpArgs false

theorem unpad_len (v : Int) (l : List UInt8) : (unpad v l).1.length ≤ l.length := by
  unfold unpad
  split
  · simp
  · split
    · simp; omega
    · simp

set_option maxRecDepth 100000 in
theorem walk (ver : Int) (hver : (Lit.int .i64 ver).wf = true) {v : Value} {l : List UInt8} {W : World} (hv : Rd W v l) (hl : l.length ≤ 140737488351232) :
    Calls Try.prog 5 #[.int .i64 ver, v] W fun e w' => e = .returned (.bool true) ∧ Below W.heap.size W w' := by
  obtain ⟨A, c, rfl, -⟩ := id hv
  have HV := Lib.hid hv; clear hv
  have hul := unpad_len ver l
  go_enter Try.func5, Try.ntmps5
  go_wp2_with (go_at_call 9999)
  go_at_call 6
  refine (hand W HV.out hl).mono ?_
  rintro e w1 ⟨rfl, ha1, b1⟩
  have r1 := ha1.rd 0 l.length (l.length + 80) (by simp) (by omega) (by simp [maxLen]; omega)
  rw [List.drop_zero, List.take_left] at r1
  have HA1 := Lib.hid ha1; have R1 := Lib.hid r1; clear ha1 r1
  go_wp2_with (go_at_call 9999)
  go_at_call 17
  refine (unpad_any ver w1 R1.out hl).mono ?_
  rintro e w2 ⟨va, rfl, oa, b2⟩
  have HOa := Lib.hid oa; clear oa
  have c2 : Below W.heap.size W w2 := b1.trans (b2.mono b1.size)
  go_wp2_with (go_at_call 9999)
  go_at_call 17
  refine (unpad_any ver w2 (R1.out.below b2) hl).mono ?_
  rintro e w3 ⟨vb, rfl, ob, b3⟩
  have HOb := Lib.hid ob; clear ob
  have c3 : Below W.heap.size W w3 := c2.trans (b3.mono c2.size)
  go_wp2_with (go_at_call 9999)
  go_at_call 18
  refine (runpad ver w3 (HV.out.below c3) hl).mono ?_
  rintro e w4 ⟨vx, rfl, ox, b4⟩
  have HOx := Lib.hid ox; clear ox
  have al : ∀ (w : World) (o : Obj), Below w.heap.size w (w.alloc o) := fun w o => (Below.refl _ _).alloc (Nat.le_refl _) _
  have e24 : Below w2.heap.size w2 w4 := b3.trans (b4.mono b3.size)
  have e14 : Below w1.heap.size w1 w4 := b2.trans (e24.mono b2.size)
  have c4 : Below W.heap.size W w4 := b1.trans (e14.mono b1.size)
  have oa4 := HOa.out.below e24
  have ob4 := HOb.out.below b4
  have s12 := b2.size
  have s23 := b3.size
  obtain ⟨hF, hI⟩ := two (B := w1.heap.size) (m1 := w2.heap.size) oa4 (ob4.mono (by omega)) (by omega) (by omega)
    (fun k hk => (HOa.out.lt k hk).2) (fun k hk => (HOb.out.lt k hk).1)
  have HF := Lib.hid hF; have HI := Lib.hid hI; have Ha4 := Lib.hid oa4; have Hb4 := Lib.hid ob4; clear hF hI oa4 ob4
  go_wp2_with (go_at_call 9999)
  go_at_call 9
  refine (same_eq Ha4.out.rd HOx.out.rd).mono ?_
  rintro e w7 ⟨rfl, rfl⟩
  go_wp2_with (go_at_call 9999)
  go_at_call 9
  refine (same_eq Hb4.out.rd HOx.out.rd).mono ?_
  rintro e w7 ⟨rfl, rfl⟩
  obtain ⟨Aa, ca, rfl⟩ := HOa.out.slice
  obtain ⟨Ab, cb', rfl⟩ := HOb.out.slice
  go_wp2_with (go_at_call 9999)
  go_at_call 10
  refine (apart w4.heap.size _ _ w1.heap.size HF.out HI.out (by have := e14.size; simp; omega)).mono ?_
  rintro e w8 ⟨rfl, hch⟩
  have hS : ∀ k, S [.slice Aa (unpad ver l).1.length ca, .slice Ab (unpad ver l).1.length cb'] k → w1.heap.size ≤ k := by
    rintro k ⟨u, hu, hk⟩
    simp only [List.mem_cons, List.not_mem_nil, or_false] at hu
    rcases hu with rfl | rfl
    · exact (Ha4.out.lt k hk).1
    · have := (Hb4.out.lt k hk).1; omega
  have sW := HA1.out.lt
  have c8 : Below W.heap.size W w8 := hch.below (c4.trans ((al w4 _).mono c4.size)) (fun k hk => by have := hS k hk; omega) (by have := c4.size; simp; omega)
  have ha8 : Arr w8 W.heap.size 5 (l ++ marks 80) := ((HA1.out.below e14).alloc _).chg hch (fun hk => by have := hS _ hk; omega)
  have HA8 := Lib.hid ha8; clear ha8
  go_wp2_with (go_at_call 9999)
  go_at_call 11
  refine (left w8 rfl HA8.out (HV.out.below c8) hl).mono ?_
  rintro e w9 ⟨rfl, rfl⟩
  go_wp2_with (go_at_call 9999)
  go_at_call 12
  refine (turned w8 rfl HA8.out rfl (HV.out.below c8) hl).mono ?_
  rintro e w9 ⟨vn, rfl, on, ha9, h9⟩
  have c9 : Below W.heap.size W w9 := h9.below c8 (by intro k e; omega) c8.size
  have r9 := ha9.rd 0 l.length (l.length + 80) (by simp) (by omega) (by simp [maxLen]; omega)
  rw [List.drop_zero, show l.length = l.reverse.length from by simp, List.take_left] at r9
  simp only [List.length_reverse] at r9
  have R9 := Lib.hid r9; have HOn := Lib.hid on; clear r9 on ha9
  go_wp2_with (go_at_call 9999)
  go_at_call 17
  refine (unpad_any ver w9 R9.out (by simpa using hl)).mono ?_
  rintro e w10 ⟨vp, rfl, op, b10⟩
  have HOp := Lib.hid op; clear op
  go_wp2_with (go_at_call 9999)
  go_at_call 18
  refine (runpad ver w10 (HOn.out.below b10).rd (by simpa using hl)).mono ?_
  rintro e w11 ⟨vq, rfl, oq, b11⟩
  have HOq := Lib.hid oq; clear oq
  go_wp2_with (go_at_call 9999)
  go_at_call 9
  refine (same_eq (HOp.out.below b11).rd HOq.out.rd).mono ?_
  rintro e w12 ⟨rfl, rfl⟩
  go_wp2
  go_ret
  exact ⟨rfl, c9.trans ((b10.mono c9.size).trans (b11.mono (by have := b10.size; have := c9.size; omega)))⟩
end Go.Proofs.Ythiibkcaodaekaa.Ulw
