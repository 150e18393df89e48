/- made: both codecs of a schema. -/
import Derived.Test.YtinngljphjdpoaaGreatDoorJCm
import Derived.OwnWalk
import Derived.Test.YtinngljphjdpoaaGreatDoorJRq
import Derived.Test.YtinngljphjdpoaaGreatDoorJRt
import Derived.Test.YtinngljphjdpoaaGreatDoorJKu
import Derived.Test.YtinngljphjdpoaaGreatDoorJUv
namespace Go.Proofs.YtinngljphjdpoaaGreatDoor.Md
open Go Go.RowKit Go.Proofs.YtinngljphjdpoaaGreatDoor.Pa Go.Proofs.YtinngljphjdpoaaGreatDoor.Pb Go.Proofs.YtinngljphjdpoaaGreatDoor.Pf Go.Proofs.YtinngljphjdpoaaGreatDoor.Sc Go.Proofs.YtinngljphjdpoaaGreatDoor.Rs Go.Proofs.YtinngljphjdpoaaGreatDoor.Sl Go.Proofs.YtinngljphjdpoaaGreatDoor.Hs Go.Proofs.YtinngljphjdpoaaGreatDoor.Ht Go.Proofs.YtinngljphjdpoaaGreatDoor.Va Go.Proofs.YtinngljphjdpoaaGreatDoor.Vc Go.Proofs.YtinngljphjdpoaaGreatDoor.Vd Go.Proofs.YtinngljphjdpoaaGreatDoor.Vl Go.Proofs.YtinngljphjdpoaaGreatDoor.Vs Go.Proofs.YtinngljphjdpoaaGreatDoor.Ls Go.Proofs.YtinngljphjdpoaaGreatDoor.Ca Go.Proofs.YtinngljphjdpoaaGreatDoor.Cb Go.Proofs.YtinngljphjdpoaaGreatDoor.Ce Go.Proofs.YtinngljphjdpoaaGreatDoor.Tw Go.Proofs.YtinngljphjdpoaaGreatDoor.Wi Go.Proofs.YtinngljphjdpoaaGreatDoor.Cm
set_option linter.unusedVariables false
set_option linter.unusedSimpArgs false
/-- What made hands back. -/
def MadeSaid (n : Nat) (l : List Slot) (W : World) (e : Ending) (w' : World) : Prop :=
  ((valid n l ≠ 0 ∧ e = .returned (.tuple #[.pointer none, .pointer none, .bool true])) ∨ (valid n l = 0 ∧ ∃ c r, e = .returned (.tuple #[ptr c, ptr r, .bool true]) ∧ Cd w' (Bt W w') n c l ∧ Rc w' (Bt W w') n r l)) ∧ Below W.heap.size W w'
set_option maxHeartbeats 2000000 in
set_option maxRecDepth 100000 in
theorem made {n : Nat} {v : Value} {l : List Slot} (W : World) (h : RdS W n v l) (hf : Few n l) : Calls Tryz.prog 11 #[v] W (MadeSaid n l W) := by
  obtain ⟨A, c, rfl, -⟩ := h.slice
  have hlen : l.length + 3 ≤ maxLen := by
    obtain ⟨m, rfl⟩ := h.pos
    have := hf.1
    simp [maxLen]; omega
  have H := Lib.hid h; have HF := Lib.hid hf; have HL := Lib.hid hlen; clear h hf hlen
  unfold MadeSaid
  go_enter Tryz.func11, Tryz.ntmps11
  go_wp2_with (go_at_call 9999)
  go_at_call 45
  refine (handSlots n _ l W W H.out HF.out (Below.refl _ _)).mono ?_
  rintro e w1 ⟨v', rfl, hd1, hb1⟩
  have hwp := wp_of_hd (S := fun b => W.heap.size ≤ b ∧ b < w1.heap.size) (fun b h1 h2 => ⟨h1, h2⟩) n v' l hd1 HF.out
  obtain ⟨b, rfl, -⟩ := hd1.slice
  have HD1 := Lib.hid hd1; have HWP := Lib.hid hwp; have B1 := Lib.hid hb1; clear hd1 hwp hb1
  go_wp2_with (go_at_call 9999)
  go_at_call 33
  refine (pCompile w1 (HD1.out.rd n _ _ HL.out HF.out)).mono ?_
  rintro e w2 ⟨he, hb2⟩
  have hc2 := B1.out.trans (hb2.mono B1.out.size)
  have B12 := Lib.hid hb2; have B2 := Lib.hid hc2; clear hb2 hc2
  have rc := rCompile w2 (H.out.below B2.out) HF.out
  have RC := Lib.hid rc; clear rc
  -- what comes behind both, given the two answers
  have tail : ∀ (w3 w5 : World), Below w2.heap.size w2 w3 → (∃ w4, Below w3.heap.size w3 w4 ∧ Over (fun b => W.heap.size ≤ b ∧ b < w1.heap.size) w4 w5) → Below W.heap.size W w5 ∧ (∀ k, w1.heap.size ≤ k → k < w3.heap.size → w5.heap[k]? = w3.heap[k]?) ∧ w3.heap.size ≤ w5.heap.size := by
    rintro w3 w5 b3 ⟨w4, b4, ov⟩
    have h1 := B1.out.size; have h2 := B12.out.size; have h3 := b3.size; have h4 := b4.size
    have hW4 : Below W.heap.size W w4 := (B2.out.trans (b3.mono (by omega))).trans (b4.mono (by omega))
    refine ⟨⟨ov.os.trans hW4.os, ov.tape.trans hW4.tape, ov.output.trans hW4.output, by rw [ov.size]; exact hW4.size, fun k hk => (ov.keep k (fun h => by omega)).trans (hW4.block k hk)⟩, fun k hk1 hk2 => (ov.keep k (fun h => by omega)).trans (b4.block k hk2), by rw [ov.size]; exact h4⟩
  have TL := Lib.hid tail; clear tail
  have lf : ∀ w3, Below w2.heap.size w2 w3 → Calls Tryz.prog 47 #[.slice (some ⟨b, 0, none⟩) l.length (l.length + 3), .slice A l.length c] w3 fun e w' => e = .returned (.bool true) ∧ Below w3.heap.size w3 w' := fun w3 b3 =>
    leftSlots n _ _ _ l W w3 H.out ((HD1.out.below B12.out).below b3) HF.out (B2.out.trans (b3.mono B2.out.size))
  have LF := Lib.hid lf; clear lf
  have wi : ∀ w3 w4, Below w2.heap.size w2 w3 → Below w3.heap.size w3 w4 → Calls Tryz.prog 48 #[.slice (some ⟨b, 0, none⟩) l.length (l.length + 3)] w4 fun e w' => e = .returned (.tuple #[]) ∧ Over (fun b => W.heap.size ≤ b ∧ b < w1.heap.size) w4 w' := fun w3 w4 b3 b4 =>
    wipe _ n _ w4 (Wp.below b4 n _ (Wp.below b3 n _ (Wp.below B12.out n _ HWP.out)))
  have WI := Lib.hid wi; clear wi
  rcases he with ⟨hv, rfl⟩ | ⟨hv, cc, rfl, hcd⟩
  · have HV := Lib.hid hv; clear hv
    go_wp2_with (go_at_call 9999)
    go_at_call 46
    refine RC.out.mono ?_
    rintro e w3 ⟨he, hb3⟩
    rcases he with ⟨-, rfl⟩ | ⟨h0, -⟩
    · have B3 := Lib.hid hb3; clear hb3
      go_wp2_with (go_at_call 9999)
      go_at_call 47
      refine (LF.out w3 B3.out).mono ?_
      rintro e w4 ⟨rfl, hb4⟩
      have B4 := Lib.hid hb4; clear hb4
      go_wp2_with (go_at_call 9999)
      go_at_call 48
      refine (WI.out w3 w4 B3.out B4.out).mono ?_
      rintro e w5 ⟨rfl, hov⟩
      have HO := Lib.hid hov; clear hov
      go_wp2_with fail
      go_ret3
      exact ⟨.inl ⟨HV.out, rfl⟩, (TL.out w3 w5 B3.out ⟨w4, B4.out, HO.out⟩).1⟩
    · exact absurd h0 HV.out
  · have HV := Lib.hid hv; have HCD := Lib.hid hcd; clear hv hcd
    unfold ptr at *
    go_wp2_with (go_at_call 9999)
    go_at_call 46
    refine RC.out.mono ?_
    rintro e w3 ⟨he, hb3⟩
    rcases he with ⟨h0, -⟩ | ⟨-, r, rfl, hrc⟩
    · exact absurd HV.out h0
    · have B3 := Lib.hid hb3; have HRC := Lib.hid hrc; clear hb3 hrc
      go_wp2_with (go_at_call 9999)
      go_at_call 47
      refine (LF.out w3 B3.out).mono ?_
      rintro e w4 ⟨rfl, hb4⟩
      have B4 := Lib.hid hb4; clear hb4
      go_wp2_with (go_at_call 9999)
      go_at_call 48
      refine (WI.out w3 w4 B3.out B4.out).mono ?_
      rintro e w5 ⟨rfl, hov⟩
      have HO := Lib.hid hov; clear hov
      go_wp2_with fail
      go_ret3
      obtain ⟨t1, t2, t3⟩ := TL.out w3 w5 B3.out ⟨w4, B4.out, HO.out⟩
      have s1 := B1.out.size; have s2 := B12.out.size; have s3 := B3.out.size
      refine ⟨.inr ⟨HV.out, cc, r, rfl, Cd.keep (Bt.sub s1 (by omega)) (fun q hq _ => ?_) n cc l HCD.out, Rc.keep (Bt.sub (by omega) (by omega)) (fun q hq _ => ?_) HRC.out⟩, t1⟩
      · exact (t2 q hq.1 (by have := hq.2; omega)).trans (B3.out.block q hq.2)
      · exact t2 q (by have := hq.1; omega) hq.2
end Go.Proofs.YtinngljphjdpoaaGreatDoor.Md
/- valueLeft, bigValue. -/
namespace Go.Proofs.YtinngljphjdpoaaGreatDoor.Vk
open Go Go.RowKit Go.Proofs.YtinngljphjdpoaaGreatDoor.Pa Go.Proofs.YtinngljphjdpoaaGreatDoor.Pb Go.Proofs.YtinngljphjdpoaaGreatDoor.Pf Go.Proofs.YtinngljphjdpoaaGreatDoor.Sc Go.Proofs.YtinngljphjdpoaaGreatDoor.Rs Go.Proofs.YtinngljphjdpoaaGreatDoor.Vu Go.Proofs.YtinngljphjdpoaaGreatDoor.Vo
set_option linter.unusedVariables false
set_option linter.unusedSimpArgs false
theorem b1 (w : World) (o : Obj) : Below w.heap.size w (w.alloc o) := (Below.refl _ _).alloc (Nat.le_refl _) _
set_option maxHeartbeats 1000000 in
set_option maxRecDepth 100000 in
theorem valueLeft : ∀ (n : Nat) (nv dv pv : Value) (x : Va) (left : Int) (W w : World), RdV W n nv dv pv x → Below W.heap.size W w → 0 ≤ left → left ≤ 10000 →
    Calls Tryz.prog 56 #[.agg #[nv, dv, pv], .int .i64 left] w fun e w' => e = .returned (.int .i64 (vl (n + 1) x left)) ∧ Below w.heap.size w w' ∧ -288230376151711744 ≤ vl (n + 1) x left := by
  intro n
  induction n with
  | zero => exact fun nv dv pv x left W w h _ _ _ => h.2.2.2.elim
  | succ n ih =>
    intro nv dv pv x left W w h hB h1 h2
    obtain ⟨hnum, rfl, hdv, hpv⟩ := h
    obtain ⟨Ad, cd, rfl, hd1, hd2⟩ : ∃ A c, dv = .slice A x.data.length c ∧ x.data.length ≤ c ∧ c ≤ maxLen := by obtain ⟨A, c, e, h1, h2, -⟩ := hdv; exact ⟨A, c, e, h1, h2⟩
    obtain ⟨Ap, cp, rfl, hp1, hp2⟩ := hpv.slice
    unfold maxLen at hd2 hp2
    have IH := Lib.hid ih; have H := Lib.hid hpv; have HB := Lib.hid hB; clear ih hpv hdv hB
    obtain ⟨w1, hw1⟩ : ∃ y, y = w.alloc (.cells #[.int .u64 x.num, .slice Ad x.data.length cd, .slice Ap x.parts.length cp] 32) := ⟨_, rfl⟩
    have hC : hp w1 w.heap.size = some (.cells #[.int .u64 x.num, .slice Ad x.data.length cd, .slice Ap x.parts.length cp] 32 (0, 0)) := by rw [hw1]; exact hp_alloc_at _ _ rfl
    have hsz : w1.heap.size = w.heap.size + 1 := by rw [hw1]; simp
    have hb1 : Below w.heap.size w w1 := by rw [hw1]; exact b1 _ _
    have hq : ((x.data.length : Int)).tdiv 64 = ((x.data.length / 64 : Nat) : Int) := by rw [Int.tdiv_eq_ediv_of_nonneg (by omega)]; omega
    obtain ⟨T, hT⟩ : ∃ T, T = vl (n + 2) x left := ⟨_, rfl⟩
    rw [← hT]
    have hT2 : vlGo (vl (n + 1)) x.parts (left - 1 - ((x.data.length / 64 : Nat) : Int)) = T := by rw [hT]; rfl
    have HT := Lib.hid hT2; clear hT hT2
    generalize hdl : x.data.length = dl at *
    generalize x.num = num at *
    clear hdl
    obtain ⟨L, hL⟩ : ∃ L, L = left - 1 - ((dl / 64 : Nat) : Int) := ⟨_, rfl⟩
    rw [← hL] at HT
    have HL := Lib.hid hL
    have HC := Lib.hid hC; have HSZ := Lib.hid hsz; have HB1 := Lib.hid hb1; clear hC hsz hb1 hL
    go_enter Tryz.func56, Tryz.ntmps56
    go_wp2_with fail
    rw [← hw1]
    have hLb : -288230376151711744 ≤ L ∧ L ≤ 10000 := by have := HL.out; omega
    have HLB := Lib.hid hLb; clear hLb hq
    go_loopw [1, 5] (fun s t wr => ∃ (i : Nat) (y : Int), i ≤ x.parts.length ∧ -288230376151711744 ≤ y ∧ y ≤ 10000 ∧ s = .int .i64 y ∧ t = .int .i64 i ∧ vlGo (vl (n + 1)) (x.parts.drop i) y = T ∧ Below w1.heap.size w1 wr) (fun _ t _ => x.parts.length - (intOf t).toNat)
    case atStart => exact ⟨0, L, by omega, HLB.out.1, HLB.out.2, by rw [HL.out]; congr 1, rfl, HT.out, Below.refl _ _⟩
    case round =>
      obtain ⟨i, y, hi, hy1, hy2, rfl, rfl, he, hbw⟩ := hrel
      have HE := Lib.hid he; have HBW := Lib.hid hbw; clear he hbw
      have hCr : hp wr w.heap.size = some (.cells #[.int .u64 num, .slice Ad dl cd, .slice Ap x.parts.length cp] 32 (0, 0)) := (HBW.out.hp _ (by have := HSZ.out; omega)).trans HC.out
      have hcr := fun i => hp_cell hCr i
      clear hCr
      by_cases hil : i < x.parts.length
      · by_cases hy0 : 0 ≤ y
        · have hBr : Below W.heap.size W wr := HB.out.trans ((HB1.out.trans (HBW.out.mono HB1.out.size)).mono HB.out.size)
          obtain ⟨ad, rfl, dv', pv', g1, g2, g3, g4⟩ := H.out.at_ i hil
          have hst := vlGo_drop (vl (n + 1)) x.parts i y hil hy0
          have hle := vl_le (n + 1) x.parts[i] y
          have k : ∀ a u, W.cell? a = some u → wr.cell? a = some u := fun a u hu => (World.cell?_of_block (hBr.block _ (World.block_lt_of_cell? W _ hu))).trans hu
          replace g1 := k _ _ g1; replace g2 := k _ _ g2; replace g3 := k _ _ g3
          have hcall := IH.out _ _ _ _ y W wr g4 hBr hy0 hy2
          rw [hst] at HE
          generalize x.parts[i] = z at *
          obtain ⟨pz, hpz⟩ : ∃ pz, ad.add (i * 3) = pz := ⟨_, rfl⟩
          rw [add_lit _ _ _ (by omega)] at g2 g3
          rw [hpz] at g1 g2 g3
          have HCALL := Lib.hid hcall; clear hcall g4 k hst
          obtain ⟨V, hV⟩ : ∃ V, V = vl (n + 1) z y := ⟨_, rfl⟩
          rw [← hV] at HCALL HE hle
          clear hV
          go_wp2_with (go_at_call 9999)
          go_at_call 56
          refine HCALL.out.mono ?_
          rintro _ w2 ⟨rfl, b2, hge⟩
          have HB2 := Lib.hid (HBW.out.trans (b2.mono HBW.out.size)); clear b2 hcr g1 g2 g3
          go_wp2_with fail
          go_roundw
          case rel => exact ⟨i + 1, V, by omega, hge, by omega, rfl, by go_num, HE.out, HB2.out⟩
          case measure => simp [intOf]; omega
        · have hfin : T = y := by rw [← HE.out, vlGo_neg _ _ _ (by omega)]
          subst hfin
          have HB2 := Lib.hid (HB1.out.trans (HBW.out.mono HB1.out.size))
          clear HE
          go_wp2_with fail
          go_ret
          first | exact ⟨rfl, HB2.out, hy1⟩ | exact ⟨rfl, HB2.out⟩
      · obtain rfl : i = x.parts.length := by omega
        have hfin : T = y := by rw [← HE.out, List.drop_length]; rfl
        subst hfin
        have HB2 := Lib.hid (HB1.out.trans (HBW.out.mono HB1.out.size))
        clear HE
        go_wp2_with fail
        go_ret
        first | exact ⟨rfl, HB2.out, hy1⟩ | exact ⟨rfl, HB2.out⟩
theorem big {n : Nat} {nv dv pv : Value} {x : Va} {W : World} (w : World) (h : RdV W n nv dv pv x) (hb : Below W.heap.size W w) :
    Calls Tryz.prog 25 #[.agg #[nv, dv, pv]] w fun e w' => e = .returned (.bool (decide (vl (n + 1) x 10000 < 0))) ∧ Below w.heap.size w w' := by
  have hv := fun w1 (h1 : Below w.heap.size w w1) => valueLeft n nv dv pv x 10000 W w1 h (hb.trans (h1.mono hb.size)) (by omega) (by omega)
  have HV := Lib.hid hv
  obtain ⟨hnum, rfl, hdv, hpv⟩ := h
  obtain ⟨Ad, cd, rfl, -⟩ := hdv
  obtain ⟨Ap, cp, rfl, -⟩ := hpv.slice
  have HB := Lib.hid (b1 w (.cells #[.int .u64 x.num, .slice Ad x.data.length cd, .slice Ap x.parts.length cp] 32))
  clear hv hpv hb
  go_enter Tryz.func25, Tryz.ntmps25
  go_wp2_with (go_at_call 9999)
  go_at_call 56
  refine (HV.out _ HB.out).mono ?_
  rintro _ w1 ⟨rfl, b, -⟩
  have HB2 := Lib.hid (HB.out.trans (b.mono HB.out.size)); clear b
  go_wp2_with fail
  go_ret
  exact ⟨rfl, HB2.out⟩
end Go.Proofs.YtinngljphjdpoaaGreatDoor.Vk
/- The reference's Codec.Check; the law SchemaChecks, walked. -/
namespace Go.Proofs.YtinngljphjdpoaaGreatDoor.Ck
open Go Go.RowKit Go.Proofs.YtinngljphjdpoaaGreatDoor.Pa Go.Proofs.YtinngljphjdpoaaGreatDoor.Pb Go.Proofs.YtinngljphjdpoaaGreatDoor.Pf Go.Proofs.YtinngljphjdpoaaGreatDoor.Pq Go.Proofs.YtinngljphjdpoaaGreatDoor.Sc Go.Proofs.YtinngljphjdpoaaGreatDoor.Rs Go.Proofs.YtinngljphjdpoaaGreatDoor.Sl Go.Proofs.YtinngljphjdpoaaGreatDoor.Hs Go.Proofs.YtinngljphjdpoaaGreatDoor.Va Go.Proofs.YtinngljphjdpoaaGreatDoor.Ca Go.Proofs.YtinngljphjdpoaaGreatDoor.Cb Go.Proofs.YtinngljphjdpoaaGreatDoor.Cm Go.Proofs.YtinngljphjdpoaaGreatDoor.Md Go.Proofs.YtinngljphjdpoaaGreatDoor.Rq Go.Proofs.YtinngljphjdpoaaGreatDoor.Rr Go.Proofs.YtinngljphjdpoaaGreatDoor.Rt Go.Proofs.YtinngljphjdpoaaGreatDoor.Hx Go.Proofs.YtinngljphjdpoaaGreatDoor.Vo Go.Proofs.YtinngljphjdpoaaGreatDoor.Hv Go.Proofs.YtinngljphjdpoaaGreatDoor.Fz
set_option linter.unusedVariables false
set_option linter.unusedSimpArgs false
/-- A schema that can be is read less than k + 1 levels deep. -/
theorem rds_ok {w : World} : ∀ (k n : Nat) (v : Value) (l : List Slot), okL k l → RdS w n v l → RdS w (k + 1) v l
  | 0, _, _, _, h, _ => h.elim
  | k + 1, 0, _, _, _, h => h.elim
  | k + 1, n + 1, v, l, hk, h => by
    obtain ⟨A, c, e, h1, h2, h3⟩ := h
    refine ⟨A, c, e, h1, h2, fun h0 => ?_⟩
    obtain ⟨ad, ha, hc⟩ := h3 h0
    refine ⟨ad, ha, fun i t ht => ?_⟩
    obtain ⟨g0, sv, g1, g2⟩ := hc i t ht
    obtain ⟨-, -, -, i4, i5⟩ := hk.2 t (List.mem_of_getElem? ht)
    refine ⟨g0, sv, g1, ?_⟩
    by_cases hn : nest t = true
    · exact rds_ok k n sv t.sub (i4 hn) g2
    · have he := i5 (by simpa using hn)
      rw [he] at g2 ⊢
      obtain ⟨A', c', e', h1', h2', _⟩ := g2.slice |>.elim fun A h => h.elim fun c h => (⟨A, c, h.1, h.2.1, h.2.2, trivial⟩ : ∃ A c, sv = .slice A ([] : List Slot).length c ∧ ([] : List Slot).length ≤ c ∧ c ≤ maxLen ∧ True)
      exact ⟨A', c', e', h1', h2', fun h => absurd h (by simp)⟩
theorem few_ok : ∀ (k : Nat) (l : List Slot), okL k l → Few (k + 1) l
  | 0, _, h => h.elim
  | k + 1, l, hk => by
    refine ⟨Nat.le_trans hk.1 (by omega), fun t ht => ?_⟩
    obtain ⟨-, -, -, i4, i5⟩ := hk.2 t ht
    by_cases hn : nest t = true
    · exact few_ok k t.sub (i4 hn)
    · rw [i5 (by simpa using hn)]
      exact ⟨by simp, fun u hu => by cases hu⟩
set_option maxRecDepth 100000 in
theorem rCheck {w : World} {S : Pl} {n m g : Nat} {l : List Slot} {nv dv pv : Value} {x : Vu.Va} (h : Rc w S n g l) (hok : okL 6 l) (hn : n ≤ 900000) (hx : Vu.RdV w m nv dv pv x) (hf : FewV (m + 1) x) :
    Calls Tryz.prog 29 #[ptr g, .agg #[nv, dv, pv]] w fun e w' => e = .returned (fl (Vu.chk Vh.pF Lib.validD n l x 1)) ∧ Below w.heap.size w w' := by
  obtain ⟨-, sv, h2, h3⟩ := h
  have hrd := Tw.Tw.rd n sv l h3
  have hcall := fun w3 (hb : Below w.heap.size w w3) => checkAll n 6 m sv nv dv pv l x 1 w w3 hrd hok hx hf hb (by omega) (by omega)
  obtain ⟨C, c, rfl, -⟩ := hrd.slice
  obtain ⟨hnum, rfl, hdv, hpv⟩ := hx
  obtain ⟨Ad, cd, rfl, -⟩ := hdv
  obtain ⟨Ap, cp, rfl, -⟩ := hpv.slice
  obtain ⟨⟨q1, q2, q3⟩, hq⟩ : ∃ F : Vu.Flt, F = Vu.chk Vh.pF Lib.validD n l x 1 := ⟨_, rfl⟩
  rw [← hq] at hcall ⊢
  unfold fl at hcall ⊢
  have hbx := by2_new w x.num Ad x.data.length cd Ap x.parts.length cp
  obtain ⟨w2, hw2⟩ : ∃ y, y = (w.alloc (.cells #[.int .u64 (x.num : Int), .slice Ad x.data.length cd, .slice Ap x.parts.length cp] 32)).alloc (.cells #[.int .i64 0, .int .i64 0, .int .i64 0] 39) := ⟨_, rfl⟩
  rw [← hw2] at hbx
  have hgc := below_hp h2 hbx.1
  have s1 : ∀ (u : Held (Vh.Like w2)) (i : Nat), u.w.cell? ⟨g, i, none⟩ = (#[.slice C l.length c] : Array Value)[i]? := fun u i => by obtain ⟨m, hm⟩ := u.h; rw [hm]; exact hp_cell ((hp_drewN m _).trans hgc) i
  have s2 : ∀ (u : Held (Vh.Like w2)) (i : Nat), u.w.cell? ⟨w.heap.size, i, none⟩ = (#[.int .u64 (x.num : Int), .slice Ad x.data.length cd, .slice Ap x.parts.length cp] : Array Value)[i]? := fun u i => by obtain ⟨m, hm⟩ := u.h; rw [hm]; exact hp_cell ((hp_drewN m _).trans hbx.2.2.1) i
  have HC := Lib.hid hcall; have HBX := Lib.hid hbx
  clear hcall hbx hgc h2 h3 hrd hpv hq
  unfold ptr
  go_enter Tryz.func29, Tryz.ntmps29
  go_upto_region 1 with fail
  rw [← hw2]
  clear hw2
  refine wp_region_calm_tail (S := Vh.Like w2) 5 (by kernel_rfl) (by kernel_rfl) (Vh.Like.refl _) ?_
  intro hN
  simp only [List.take_succ_cons, List.take_zero, List.drop_succ_cons, List.drop_zero]
  repeat (go_big_quiet_step (fail))
  refine wpQuiet_nil ?_
  intro u
  obtain ⟨m1, hm1⟩ := u.h
  rw [hm1]
  have hby : Below w2.heap.size w2 (w2.drewN m1) := Uw.below_drewN _ _
  generalize w2.drewN m1 = w5 at *
  have B5 := HBX.out.below hby
  have HB5 := Lib.hid B5
  clear hN hm1 u s1 s2 hby B5
  go_wp2_with (go_at_call 9999)
  go_at_call 61
  refine (HC.out _ HB5.out.1).mono ?_
  rintro _ w6 ⟨rfl, b6⟩
  have B6 := HB5.out.below b6
  have hzc := fun i => hp_cell B6.2.2.2 i
  have hzf := fun i => hp_frozen B6.2.2.2 i
  have HB6 := Lib.hid B6
  clear b6 B6
  go_wp2_with fail
  exact ret_row Tryz.results29 Tryz.underlying39 rfl (by kernel_rfl) rfl (hp_set3 HB6.out.2.2.2 (q1, q2, q3)) rfl ⟨rfl, below_set3 HB6.out.1 (by omega) (q1, q2, q3)⟩
/-- The error that Check says is like the fault. -/
theorem faulty (f : Vu.Flt) (base : Nat) (v : Value) (w : World) (h : Vj.ErrOf f base v w) (hE : Et w) :
    Calls Tryz.prog 14 #[v, .agg #[.int .i64 f.1, .int .i64 f.2.1, .int .i64 f.2.2]] w fun e w' => e = .returned (.bool true) ∧ Below w.heap.size w w' := by
  rcases h with ⟨h0, rfl⟩ | ⟨h0, b, -, rfl, hb⟩
  · rw [h0]; exact faulty_no f.1 f.2.1 w
  · exact faulty_hit f.1 f.2.1 f.2.2 b w hb h0 hE
theorem errOf_below {f : Vu.Flt} {base : Nat} {v : Value} {w w' : World} (h : Vj.ErrOf f base v w) (hb : Below w.heap.size w w') : Vj.ErrOf f base v w' := by
  rcases h with h | ⟨h0, b, h1, h2, h3⟩
  · exact .inl h
  · exact .inr ⟨h0, b, h1, h2, below_hp h3 hb⟩
theorem vb {w : World} (o : Obj) : Below w.heap.size w (w.alloc o) := (Below.refl _ _).alloc (Nat.le_refl _) _
end Go.Proofs.YtinngljphjdpoaaGreatDoor.Ck
/- Range on both sides. -/
namespace Go.Proofs.YtinngljphjdpoaaGreatDoor.Ra
open Go Go.RowKit Go.Proofs.YtinngljphjdpoaaGreatDoor.Pa Go.Proofs.YtinngljphjdpoaaGreatDoor.Pb Go.Proofs.YtinngljphjdpoaaGreatDoor.Pf Go.Proofs.YtinngljphjdpoaaGreatDoor.Sc Go.Proofs.YtinngljphjdpoaaGreatDoor.Rs Go.Proofs.YtinngljphjdpoaaGreatDoor.Sl Go.Proofs.YtinngljphjdpoaaGreatDoor.Hs Go.Proofs.YtinngljphjdpoaaGreatDoor.Ht Go.Proofs.YtinngljphjdpoaaGreatDoor.Va Go.Proofs.YtinngljphjdpoaaGreatDoor.Vc Go.Proofs.YtinngljphjdpoaaGreatDoor.Vd Go.Proofs.YtinngljphjdpoaaGreatDoor.Vl Go.Proofs.YtinngljphjdpoaaGreatDoor.Vs Go.Proofs.YtinngljphjdpoaaGreatDoor.Ls Go.Proofs.YtinngljphjdpoaaGreatDoor.Ca Go.Proofs.YtinngljphjdpoaaGreatDoor.Cb Go.Proofs.YtinngljphjdpoaaGreatDoor.Ce Go.Proofs.YtinngljphjdpoaaGreatDoor.Tw Go.Proofs.YtinngljphjdpoaaGreatDoor.Wi Go.Proofs.YtinngljphjdpoaaGreatDoor.Cm Go.Proofs.YtinngljphjdpoaaGreatDoor.Md
set_option linter.unusedVariables false
set_option linter.unusedSimpArgs false
set_option maxRecDepth 100000 in
theorem pRange {w : World} {S : Pl} {n g : Nat} {l : List Slot} (h : Cd w S n g l) : Calls Tryz.prog 30 #[ptr g] w fun e w' => e = .returned (.tuple #[.int .i64 (pSpan n l).1, .int .i64 (pSpan n l).2]) ∧ Below w.heap.size w w' := by
  cases n with
  | zero => exact h.elim
  | succ n =>
    obtain ⟨-, A, c, h2, -⟩ := h
    have hC := fun i => hp_cell h2 i
    clear h2
    unfold ptr
    generalize (pSpan (n + 1) l).1 = a at *
    generalize (pSpan (n + 1) l).2 = b at *
    go_enter Tryz.func30, Tryz.ntmps30
    go_wp2_with fail
    go_region
    go_wp2_with fail
    go_ret2
    exact ⟨rfl, (Below.refl _ _).drew⟩
set_option maxRecDepth 100000 in
theorem rRange {w : World} {S : Pl} {n g : Nat} {l : List Slot} (h : Rc w S n g l) (hok : okL 6 l) : Calls Tryz.prog 31 #[ptr g] w fun e w' => e = .returned (.tuple #[.int .i64 (rSpan n l).1, .int .i64 (rSpan n l).2]) ∧ Below w.heap.size w w' := by
  obtain ⟨-, v, h2, h3⟩ := h
  obtain ⟨A, c, rfl, -⟩ := (Tw.rd n v l h3).slice
  have hC := fun i => hp_cell h2 i
  have hsp := rspan n 6 _ l w w (Tw.rd n _ l h3) hok (Below.refl _ _)
  have HSP := Lib.hid hsp
  clear h2 h3 hsp
  unfold ptr
  generalize (rSpan n l).1 = a at *
  generalize (rSpan n l).2 = b at *
  go_enter Tryz.func31, Tryz.ntmps31
  go_wp2_with (go_at_call 9999)
  go_at_call 62
  refine HSP.out.mono ?_
  rintro _ w1 ⟨rfl, b1⟩
  go_wp2_with fail
  go_ret2
  exact ⟨rfl, b1⟩
end Go.Proofs.YtinngljphjdpoaaGreatDoor.Ra
