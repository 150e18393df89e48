/- valueLeft, bigValue. -/
import Derived.Test.YtpfckpaokoifhaaGreatDoorVo
namespace Go.Proofs.YtpfckpaokoifhaaGreatDoor.Vk
open Go Go.RowKit Go.Proofs.YtpfckpaokoifhaaGreatDoor.Pa Go.Proofs.YtpfckpaokoifhaaGreatDoor.Pb Go.Proofs.YtpfckpaokoifhaaGreatDoor.Pf Go.Proofs.YtpfckpaokoifhaaGreatDoor.Sc Go.Proofs.YtpfckpaokoifhaaGreatDoor.Rs Go.Proofs.YtpfckpaokoifhaaGreatDoor.Vu Go.Proofs.YtpfckpaokoifhaaGreatDoor.Vo
set_option linter.unusedVariables false
set_option linter.unusedSimpArgs false
theorem b1 (w : World) (o : Obj) : Below w.heap.size w (w.alloc o) := (Below.refl _ _).alloc (Nat.le_refl _) _
set_option maxHeartbeats 1000000 in
set_option maxRecDepth 100000 in
theorem valueLeft : ∀ (n : Nat) (nv dv pv : Value) (x : Va) (left : Int) (W w : World), RdV W n nv dv pv x → Below W.heap.size W w → 0 ≤ left → left ≤ 10000 →
    Calls Tryz.prog 16 #[.agg #[nv, dv, pv], .int .i64 left] w fun e w' => e = .returned (.int .i64 (vl (n + 1) x left)) ∧ Below w.heap.size w w' ∧ -288230376151711744 ≤ vl (n + 1) x left := by
  intro n
  induction n with
  | zero => exact fun nv dv pv x left W w h _ _ _ => h.2.2.2.elim
  | succ n ih =>
    intro nv dv pv x left W w h hB h1 h2
    obtain ⟨hnum, rfl, hdv, hpv⟩ := h
    obtain ⟨Ad, cd, rfl, hd1, hd2⟩ : ∃ A c, dv = .slice A x.data.length c ∧ x.data.length ≤ c ∧ c ≤ maxLen := by obtain ⟨A, c, e, h1, h2, -⟩ := hdv; exact ⟨A, c, e, h1, h2⟩
    obtain ⟨Ap, cp, rfl, hp1, hp2⟩ := hpv.slice
    unfold maxLen at hd2 hp2
    have IH := Lib.hid ih; have H := Lib.hid hpv; have HB := Lib.hid hB; clear ih hpv hdv hB
    obtain ⟨w1, hw1⟩ : ∃ y, y = w.alloc (.cells #[.int .u64 x.num, .slice Ad x.data.length cd, .slice Ap x.parts.length cp] 27) := ⟨_, rfl⟩
    have hC : hp w1 w.heap.size = some (.cells #[.int .u64 x.num, .slice Ad x.data.length cd, .slice Ap x.parts.length cp] 27 (0, 0)) := by rw [hw1]; exact hp_alloc_at _ _ rfl
    have hsz : w1.heap.size = w.heap.size + 1 := by rw [hw1]; simp
    have hb1 : Below w.heap.size w w1 := by rw [hw1]; exact b1 _ _
    have hq : ((x.data.length : Int)).tdiv 64 = ((x.data.length / 64 : Nat) : Int) := by rw [Int.tdiv_eq_ediv_of_nonneg (by omega)]; omega
    obtain ⟨T, hT⟩ : ∃ T, T = vl (n + 2) x left := ⟨_, rfl⟩
    rw [← hT]
    have hT2 : vlGo (vl (n + 1)) x.parts (left - 1 - ((x.data.length / 64 : Nat) : Int)) = T := by rw [hT]; rfl
    have HT := Lib.hid hT2; clear hT hT2
    generalize hdl : x.data.length = dl at *
    generalize x.num = num at *
    clear hdl
    obtain ⟨L, hL⟩ : ∃ L, L = left - 1 - ((dl / 64 : Nat) : Int) := ⟨_, rfl⟩
    rw [← hL] at HT
    have HL := Lib.hid hL
    have HC := Lib.hid hC; have HSZ := Lib.hid hsz; have HB1 := Lib.hid hb1; clear hC hsz hb1 hL
    go_enter Tryz.func16, Tryz.ntmps16
    go_wp2_with fail
    rw [← hw1]
    have hLb : -288230376151711744 ≤ L ∧ L ≤ 10000 := by have := HL.out; omega
    have HLB := Lib.hid hLb; clear hLb hq
    go_loopw [1, 5] (fun s t wr => ∃ (i : Nat) (y : Int), i ≤ x.parts.length ∧ -288230376151711744 ≤ y ∧ y ≤ 10000 ∧ s = .int .i64 y ∧ t = .int .i64 i ∧ vlGo (vl (n + 1)) (x.parts.drop i) y = T ∧ Below w1.heap.size w1 wr) (fun _ t _ => x.parts.length - (intOf t).toNat)
    case atStart => exact ⟨0, L, by omega, HLB.out.1, HLB.out.2, by rw [HL.out]; congr 1, rfl, HT.out, Below.refl _ _⟩
    case round =>
      obtain ⟨i, y, hi, hy1, hy2, rfl, rfl, he, hbw⟩ := hrel
      have HE := Lib.hid he; have HBW := Lib.hid hbw; clear he hbw
      have hCr : hp wr w.heap.size = some (.cells #[.int .u64 num, .slice Ad dl cd, .slice Ap x.parts.length cp] 27 (0, 0)) := (HBW.out.hp _ (by have := HSZ.out; omega)).trans HC.out
      have hcr := fun i => hp_cell hCr i
      clear hCr
      by_cases hil : i < x.parts.length
      · by_cases hy0 : 0 ≤ y
        · have hBr : Below W.heap.size W wr := HB.out.trans ((HB1.out.trans (HBW.out.mono HB1.out.size)).mono HB.out.size)
          obtain ⟨ad, rfl, dv', pv', g1, g2, g3, g4⟩ := H.out.at_ i hil
          have hst := vlGo_drop (vl (n + 1)) x.parts i y hil hy0
          have hle := vl_le (n + 1) x.parts[i] y
          have k : ∀ a u, W.cell? a = some u → wr.cell? a = some u := fun a u hu => (World.cell?_of_block (hBr.block _ (World.block_lt_of_cell? W _ hu))).trans hu
          replace g1 := k _ _ g1; replace g2 := k _ _ g2; replace g3 := k _ _ g3
          have hcall := IH.out _ _ _ _ y W wr g4 hBr hy0 hy2
          rw [hst] at HE
          generalize x.parts[i] = z at *
          obtain ⟨pz, hpz⟩ : ∃ pz, ad.add (i * 3) = pz := ⟨_, rfl⟩
          rw [add_lit _ _ _ (by omega)] at g2 g3
          rw [hpz] at g1 g2 g3
          have HCALL := Lib.hid hcall; clear hcall g4 k hst
          obtain ⟨V, hV⟩ : ∃ V, V = vl (n + 1) z y := ⟨_, rfl⟩
          rw [← hV] at HCALL HE hle
          clear hV
          go_wp2_with (go_at_call 9999)
          go_at_call 16
          refine HCALL.out.mono ?_
          rintro _ w2 ⟨rfl, b2, hge⟩
          have HB2 := Lib.hid (HBW.out.trans (b2.mono HBW.out.size)); clear b2 hcr g1 g2 g3
          go_wp2_with fail
          go_roundw
          case rel => exact ⟨i + 1, V, by omega, hge, by omega, rfl, by go_num, HE.out, HB2.out⟩
          case measure => simp [intOf]; omega
        · have hfin : T = y := by rw [← HE.out, vlGo_neg _ _ _ (by omega)]
          subst hfin
          have HB2 := Lib.hid (HB1.out.trans (HBW.out.mono HB1.out.size))
          clear HE
          go_wp2_with fail
          go_ret
          first | exact ⟨rfl, HB2.out, hy1⟩ | exact ⟨rfl, HB2.out⟩
      · obtain rfl : i = x.parts.length := by omega
        have hfin : T = y := by rw [← HE.out, List.drop_length]; rfl
        subst hfin
        have HB2 := Lib.hid (HB1.out.trans (HBW.out.mono HB1.out.size))
        clear HE
        go_wp2_with fail
        go_ret
        first | exact ⟨rfl, HB2.out, hy1⟩ | exact ⟨rfl, HB2.out⟩
theorem big {n : Nat} {nv dv pv : Value} {x : Va} {W : World} (w : World) (h : RdV W n nv dv pv x) (hb : Below W.heap.size W w) :
    Calls Tryz.prog 6 #[.agg #[nv, dv, pv]] w fun e w' => e = .returned (.bool (decide (vl (n + 1) x 10000 < 0))) ∧ Below w.heap.size w w' := by
  have hv := fun w1 (h1 : Below w.heap.size w w1) => valueLeft n nv dv pv x 10000 W w1 h (hb.trans (h1.mono hb.size)) (by omega) (by omega)
  have HV := Lib.hid hv
  obtain ⟨hnum, rfl, hdv, hpv⟩ := h
  obtain ⟨Ad, cd, rfl, -⟩ := hdv
  obtain ⟨Ap, cp, rfl, -⟩ := hpv.slice
  have HB := Lib.hid (b1 w (.cells #[.int .u64 x.num, .slice Ad x.data.length cd, .slice Ap x.parts.length cp] 27))
  clear hv hpv hb
  go_enter Tryz.func6, Tryz.ntmps6
  go_wp2_with (go_at_call 9999)
  go_at_call 16
  refine (HV.out _ HB.out).mono ?_
  rintro _ w1 ⟨rfl, b, -⟩
  have HB2 := Lib.hid (HB.out.trans (b.mono HB.out.size)); clear b
  go_wp2_with fail
  go_ret
  exact ⟨rfl, HB2.out⟩
end Go.Proofs.YtpfckpaokoifhaaGreatDoor.Vk
