/- The program's wireOf, framed, valueSpan, span. -/
import Derived.Test.YtinngljphjdpoaaGreatDoorJHt
import Derived.Test.YtinngljphjdpoaaGreatDoorJEp
namespace Go.Proofs.YtinngljphjdpoaaGreatDoor.Vc
open Go Go.RowKit Go.Proofs.YtinngljphjdpoaaGreatDoor.Pa Go.Proofs.YtinngljphjdpoaaGreatDoor.Pb Go.Proofs.YtinngljphjdpoaaGreatDoor.Pf Go.Proofs.YtinngljphjdpoaaGreatDoor.Nz Go.Proofs.YtinngljphjdpoaaGreatDoor.Nm Go.Proofs.YtinngljphjdpoaaGreatDoor.Sc Go.Proofs.YtinngljphjdpoaaGreatDoor.Rs Go.Proofs.YtinngljphjdpoaaGreatDoor.Va
set_option linter.unusedVariables false
set_option linter.unusedSimpArgs false

theorem wireOf (k : Int) (w : World) : Calls Tryz.prog 113 #[.int .i64 k] w fun e w' => e = .returned (.int .i64 (wt k : Nat)) ∧ w = w' := by
  obtain ⟨r, hr⟩ : ∃ r, r = ((wt k : Nat) : Int) := ⟨_, rfl⟩
  rw [← hr]
  by_cases k1 : k = 1
  · subst k1
    have hr' : r = 0 := hr
    subst hr'
    clear hr
    go_enter Tryz.func113, Tryz.ntmps113
    go_wp2
    go_ret
    exact ⟨rfl, rfl⟩
  by_cases k4 : k = 4
  · subst k4
    have hr' : r = 0 := hr
    subst hr'
    clear hr
    go_enter Tryz.func113, Tryz.ntmps113
    go_wp2
    go_ret
    exact ⟨rfl, rfl⟩
  by_cases k3 : k = 3
  · subst k3
    have hr' : r = 1 := hr
    subst hr'
    clear hr
    go_enter Tryz.func113, Tryz.ntmps113
    go_wp2
    go_ret
    exact ⟨rfl, rfl⟩
  by_cases k7 : k = 7
  · subst k7
    have hr' : r = 1 := hr
    subst hr'
    clear hr
    go_enter Tryz.func113, Tryz.ntmps113
    go_wp2
    go_ret
    exact ⟨rfl, rfl⟩
  by_cases k2 : k = 2
  · subst k2
    have hr' : r = 5 := hr
    subst hr'
    clear hr
    go_enter Tryz.func113, Tryz.ntmps113
    go_wp2
    go_ret
    exact ⟨rfl, rfl⟩
  have hr' : r = 2 := by rw [hr]; unfold wt; rw [if_neg (by omega), if_neg (by omega), if_neg (by omega)]; rfl
  subst hr'
  clear hr
  have e1 : (k == 1) = false := by simpa using k1
  have e2 : (k == 2) = false := by simpa using k2
  have e3 : (k == 3) = false := by simpa using k3
  have e4 : (k == 4) = false := by simpa using k4
  have e7 : (k == 7) = false := by simpa using k7
  go_enter Tryz.func113, Tryz.ntmps113
  go_wp2
  go_ret
  exact ⟨rfl, rfl⟩

theorem framed (x : Int) (h0 : 0 ≤ x) (h1 : x ≤ 4611686018427387904) (w : World) : Calls Tryz.prog 141 #[.int .i64 x] w fun e w' => e = .returned (.int .i64 (fr x.toNat : Nat)) ∧ w = w' := by
  obtain ⟨n, rfl⟩ := Int.eq_ofNat_of_zero_le h0
  have hs := sz_u64 n (by omega)
  have hq : IntKind.u64.wrap (n : Int) = (n : Int) := wu64 (by omega) (by omega)
  go_enter Tryz.func141, Tryz.ntmps141
  go_wp2_with (go_at_call 112; refine (size n (by omega) _).mono ?_; rintro e w1 ⟨rfl, rfl⟩)
  go_ret
  exact ⟨ret_int (by simp [fr]), rfl⟩

/-- A box of this call's own, kept. -/
def Kept (w : World) (C : Array Value) (W : World) : Prop := Below w.heap.size w W ∧ hp W w.heap.size = some (.cells C 117 (0, 0))
theorem Kept.on {w W W' : World} {C : Array Value} (h : Kept w C W) (hb : Below W.heap.size W W') : Kept w C W' := by
  have hlt : w.heap.size < W.heap.size := by
    rcases Nat.lt_or_ge w.heap.size W.heap.size with h1 | h1
    · exact h1
    · have := h.2; unfold hp at this; rw [Array.getElem?_eq_none h1] at this; cases this
  exact ⟨h.1.trans (hb.mono h.1.size), (hb.hp _ hlt).trans h.2⟩
theorem Kept.same {w W W' : World} {C : Array Value} (h : Kept w C W) (hb : W = W') : Kept w C W' := hb ▸ h

/-- What span answers. -/
def SpanSaid (m : Nat) : Prop := ∀ (k : Nat) (v : Value) (l : List Slot) (W w : World), RdS W m v l → okL k l → Below W.heap.size W w →
  Calls Tryz.prog 92 #[v] w fun e w' => e = .returned (.tuple #[.int .i64 (pSpan m l).1, .int .i64 (pSpan m l).2]) ∧ Below w.heap.size w w'

theorem fr_congr {a b : Nat} (h : a = b) : fr a = fr b := by rw [h]
theorem ret2 {a b c d : Nat} (h1 : a = c) (h2 : b = d) : Ending.returned (.tuple #[.int .i64 (a : Int), .int .i64 (b : Int)]) = .returned (.tuple #[.int .i64 (c : Int), .int .i64 (d : Int)]) := by rw [h1, h2]
set_option maxRecDepth 100000 in
theorem valueSpan (m k : Nat) (IH : SpanSaid m) (no kind : Int) (least most : Nat) (sub : List Slot) (sv : Value) (W w : World) (h1 : sv.oneCell' = true) (hb : bnd (.mk no kind least most sub) = true) (hl : least < 18446744073709551616) (hm : most < 18446744073709551616)
    (hn : nest (.mk no kind least most sub) = true → RdS W m sv sub ∧ okL k sub) (hB : Below W.heap.size W w) :
    Calls Tryz.prog 114 #[.agg #[.int .i64 no, .int .i64 kind, .int .u64 least, .int .u64 most, sv]] w fun e w' =>
      e = .returned (.tuple #[.int .i64 (pVal (pSpan m) (.mk no kind least most sub)).1, .int .i64 (pVal (pSpan m) (.mk no kind least most sub)).2]) ∧ Below w.heap.size w w' := by
  obtain ⟨r, hr⟩ : ∃ r, r = pVal (pSpan m) (.mk no kind least most sub) := ⟨_, rfl⟩
  rw [← hr]
  have HB := Lib.hid hB
  have bx : Below w.heap.size w (w.alloc (.cells #[.int .i64 no, .int .i64 kind, .int .u64 least, .int .u64 most, sv] 117)) := (Below.refl _ _).alloc (Nat.le_refl _) _
  clear hB
  have hbb := bnd_at no kind least most sub
  rw [hb] at hbb
  rcases bnd_kind hb with e | e | e | e | e | e | e | e | e
  · simp only [Slot.kind] at e
    subst e
    have hr' : r = (sz least, sz most) := hr
    subst hr'
    clear hr hbb hb hn
    go_enter Tryz.func114, Tryz.ntmps114
    go_wp2_with fail
    refine wp_region_calm (S := Kept w #[.int .i64 no, .int .i64 1, .int .u64 least, .int .u64 most, sv]) (by kernel_rfl) (by kernel_rfl) ⟨bx.drew, by simp [go_sem]⟩ ?_
    intro hN
    have hC : ∀ (u : Held (Kept w #[.int .i64 no, .int .i64 1, .int .u64 least, .int .u64 most, sv])) (i : Nat), u.w.cell? ⟨w.heap.size, i, none⟩ = (#[.int .i64 no, .int .i64 1, .int .u64 least, .int .u64 most, sv] : Array Value)[i]? := fun u i => hp_cell u.h.2 i
    repeat (go_big_quiet_step (first | (go_at_call 112; exact calm_call (size _ (by assumption) _) (fun w' hs hr => hs.same hr))))
    refine wpQuiet_nil ?_
    intro u
    have hb := u.h.1
    go_wp2
    go_ret2
    exact ⟨rfl, hb⟩
  · simp only [Slot.kind] at e
    subst e
    have hr' : r = (4, 4) := hr
    subst hr'
    clear hr hbb hb hn
    go_enter Tryz.func114, Tryz.ntmps114
    go_wp2_with fail
    go_ret2
    exact ⟨rfl, bx⟩
  · simp only [Slot.kind] at e
    subst e
    have hr' : r = (8, 8) := hr
    subst hr'
    clear hr hbb hb hn
    go_enter Tryz.func114, Tryz.ntmps114
    go_wp2_with fail
    go_ret2
    exact ⟨rfl, bx⟩
  · simp only [Slot.kind] at e
    subst e
    have hr' : r = (1, 1) := hr
    subst hr'
    clear hr hbb hb hn
    go_enter Tryz.func114, Tryz.ntmps114
    go_wp2_with fail
    go_ret2
    exact ⟨rfl, bx⟩
  · simp only [Slot.kind] at e
    subst e
    have hr' : r = (fr least, fr most) := hr
    subst hr'
    have h2 : least ≤ most ∧ most ≤ 4194304 := by simpa using hbb.symm
    clear hr hbb hb hn
    have hq1 : wrap64 (least : Int) = (least : Int) := w64 (by omega) (by omega)
    have hq2 : wrap64 (most : Int) = (most : Int) := w64 (by omega) (by omega)
    go_enter Tryz.func114, Tryz.ntmps114
    go_wp2_with fail
    refine wp_region_calm (S := Kept w #[.int .i64 no, .int .i64 5, .int .u64 least, .int .u64 most, sv]) (by kernel_rfl) (by kernel_rfl) ⟨bx.drew, by simp [go_sem]⟩ ?_
    intro hN
    have hC : ∀ (u : Held (Kept w #[.int .i64 no, .int .i64 5, .int .u64 least, .int .u64 most, sv])) (i : Nat), u.w.cell? ⟨w.heap.size, i, none⟩ = (#[.int .i64 no, .int .i64 5, .int .u64 least, .int .u64 most, sv] : Array Value)[i]? := fun u i => hp_cell u.h.2 i
    repeat (go_big_quiet_step (first | (go_at_call 141; exact calm_call (framed _ (by omega) (by omega) _) (fun w' hs hr => hs.same hr))))
    refine wpQuiet_nil ?_
    intro u
    have hb := u.h.1
    go_wp2
    go_ret2
    exact ⟨by simp, hb⟩
  · simp only [Slot.kind] at e
    subst e
    have hr' : r = (fr least, fr most) := hr
    subst hr'
    have h2 : least ≤ most ∧ most ≤ 4194304 := by simpa using hbb.symm
    clear hr hbb hb hn
    have hq1 : wrap64 (least : Int) = (least : Int) := w64 (by omega) (by omega)
    have hq2 : wrap64 (most : Int) = (most : Int) := w64 (by omega) (by omega)
    go_enter Tryz.func114, Tryz.ntmps114
    go_wp2_with fail
    refine wp_region_calm (S := Kept w #[.int .i64 no, .int .i64 6, .int .u64 least, .int .u64 most, sv]) (by kernel_rfl) (by kernel_rfl) ⟨bx.drew, by simp [go_sem]⟩ ?_
    intro hN
    have hC : ∀ (u : Held (Kept w #[.int .i64 no, .int .i64 6, .int .u64 least, .int .u64 most, sv])) (i : Nat), u.w.cell? ⟨w.heap.size, i, none⟩ = (#[.int .i64 no, .int .i64 6, .int .u64 least, .int .u64 most, sv] : Array Value)[i]? := fun u i => hp_cell u.h.2 i
    repeat (go_big_quiet_step (first | (go_at_call 141; exact calm_call (framed _ (by omega) (by omega) _) (fun w' hs hr => hs.same hr))))
    refine wpQuiet_nil ?_
    intro u
    have hb := u.h.1
    go_wp2
    go_ret2
    exact ⟨by simp, hb⟩
  · simp only [Slot.kind] at e
    subst e
    have hr' : r = (8, 8) := hr
    subst hr'
    clear hr hbb hb hn
    go_enter Tryz.func114, Tryz.ntmps114
    go_wp2_with fail
    go_ret2
    exact ⟨rfl, bx⟩
  · simp only [Slot.kind] at e
    subst e
    have hr' : r = (fr (pSpan m sub).1, fr (pSpan m sub).2) := hr
    subst hr'
    obtain ⟨hrd, hok⟩ := hn rfl
    have hsp := pSpan_le m sub
    unfold huge at hsp
    clear hr hbb hb hn
    obtain ⟨p, hp⟩ : ∃ p, p = pSpan m sub := ⟨_, rfl⟩
    rw [← hp] at hsp ⊢
    obtain ⟨x, y⟩ := p
    simp only at hsp ⊢
    have HP := Lib.hid hp; clear hp
    have HR := Lib.hid hrd; have HK := Lib.hid hok; have IHH := Lib.hid IH; clear hrd hok IH
    go_enter Tryz.func114, Tryz.ntmps114
    go_wp2_with (go_at_call 9999)
    go_at_call 92
    refine (IHH.out k sv sub W _ HR.out HK.out (HB.out.trans (bx.mono HB.out.size))).mono ?_
    rintro e w1 ⟨rfl, hb1⟩
    rw [← HP.out]
    simp only
    have hbw : Below w.heap.size w w1 := bx.trans (hb1.mono (by simp))
    have hcc : ∀ i, w1.cell? ⟨w.heap.size, i, none⟩ = (#[.int .i64 no, .int .i64 8, .int .u64 least, .int .u64 most, sv] : Array Value)[i]? := fun i => hp_cell ((hb1.hp w.heap.size (by simp)).trans (hp_alloc_at _ _ rfl)) i
    go_wp2_with (go_at_call 9999)
    go_at_call 141
    refine (framed x (by omega) (by omega) _).mono ?_
    rintro e w2 ⟨rfl, rfl⟩
    go_wp2_with (go_at_call 9999)
    go_at_call 141
    refine (framed y (by omega) (by omega) _).mono ?_
    rintro e w2 ⟨rfl, rfl⟩
    go_wp2_with fail
    go_ret2
    exact ⟨by simp, hbw⟩
  · simp only [Slot.kind] at e
    subst e
    have hr' : r = (fr (min (least * fr (pSpan m sub).1) huge), fr (min (most * fr (pSpan m sub).2) huge)) := hr
    subst hr'
    obtain ⟨hrd, hok⟩ := hn rfl
    have hsp := pSpan_le m sub
    unfold huge at hsp ⊢
    have h2 : least ≤ most ∧ most ≤ 4096 := by simpa using hbb.symm
    clear hr hbb hb hn
    obtain ⟨p, hp⟩ : ∃ p, p = pSpan m sub := ⟨_, rfl⟩
    rw [← hp] at hsp ⊢
    obtain ⟨x, y⟩ := p
    simp only at hsp ⊢
    have HP := Lib.hid hp; clear hp
    have hx := sz_u64 x (by omega)
    have hy := sz_u64 y (by omega)
    have hfx : fr x ≤ 1073741834 := by unfold fr; omega
    have hfy : fr y ≤ 1073741834 := by unfold fr; omega
    have hm1 : least * fr x ≤ 4096 * 1073741834 := Nat.mul_le_mul (by omega) hfx
    have hm2 : most * fr y ≤ 4096 * 1073741834 := Nat.mul_le_mul (by omega) hfy
    have hw1 : wrap64 ((least : Int) * (fr x : Int)) = ((least * fr x : Nat) : Int) := by rw [← Int.natCast_mul]; exact w64 (by omega) (by omega)
    have hw2 : wrap64 ((most : Int) * (fr y : Int)) = ((most * fr y : Nat) : Int) := by rw [← Int.natCast_mul]; exact w64 (by omega) (by omega)
    clear hm1 hm2 hfx hfy hx hy
    generalize hA : least * fr x = A at hw1
    generalize hB : most * fr y = B at hw2
    have HA := Lib.hid hA; have HB' := Lib.hid hB; clear hA hB
    have HR := Lib.hid hrd; have HK := Lib.hid hok; have IHH := Lib.hid IH; clear hrd hok IH
    go_enter Tryz.func114, Tryz.ntmps114
    go_wp2_with (go_at_call 9999)
    go_at_call 92
    refine (IHH.out k sv sub W _ HR.out HK.out (HB.out.trans (bx.mono HB.out.size))).mono ?_
    rintro e w1 ⟨rfl, hb1⟩
    rw [← HP.out]
    simp only
    have hbw : Below w.heap.size w w1 := bx.trans (hb1.mono (by simp))
    have hcc : ∀ i, w1.cell? ⟨w.heap.size, i, none⟩ = (#[.int .i64 no, .int .i64 9, .int .u64 least, .int .u64 most, sv] : Array Value)[i]? := fun i => hp_cell ((hb1.hp w.heap.size (by simp)).trans (hp_alloc_at _ _ rfl)) i
    have hq1 : wrap64 (least : Int) = (least : Int) := w64 (by omega) (by omega)
    have hq2 : wrap64 (most : Int) = (most : Int) := w64 (by omega) (by omega)
    by_cases ha : (1073741824 : Int) < (A : Int) <;> by_cases hb' : (1073741824 : Int) < (B : Int)
    all_goals
      go_wp2_with fail
      have hS : Kept w #[.int .i64 no, .int .i64 9, .int .u64 least, .int .u64 most, sv] w1 := ⟨hbw, (hb1.hp w.heap.size (by simp)).trans (hp_alloc_at _ _ rfl)⟩
      clear hcc
      refine wp_region_calm (S := Kept w #[.int .i64 no, .int .i64 9, .int .u64 least, .int .u64 most, sv]) (by kernel_rfl) (by kernel_rfl) ⟨hS.1.drew, hS.2⟩ ?_
      intro hN
      have hC : ∀ (u : Held (Kept w #[.int .i64 no, .int .i64 9, .int .u64 least, .int .u64 most, sv])) (i : Nat), u.w.cell? ⟨w.heap.size, i, none⟩ = (#[.int .i64 no, .int .i64 9, .int .u64 least, .int .u64 most, sv] : Array Value)[i]? := fun u i => hp_cell u.h.2 i
      repeat (go_big_quiet_step (first | (go_at_call 141; exact calm_call (framed _ (by omega) (by omega) _) (fun w' hs hr => hs.same hr))))
      refine wpQuiet_nil ?_
      intro u
      have hb := u.h.1
      go_wp2_with (go_at_call 9999)
      go_at_call 141
      refine (framed _ (by omega) (by omega) _).mono ?_
      rintro e w2 ⟨rfl, rfl⟩
      go_wp2_with (go_at_call 9999)
      go_at_call 141
      refine (framed _ (by omega) (by omega) _).mono ?_
      rintro e w2 ⟨rfl, rfl⟩
      go_wp2_with fail
      go_ret2
      refine ⟨?_, hb⟩
      show Ending.returned (.tuple #[.int .i64 ((fr _ : Nat) : Int), .int .i64 ((fr _ : Nat) : Int)]) = _
      exact ret2 (fr_congr (by omega)) (fr_congr (by omega))
end Go.Proofs.YtinngljphjdpoaaGreatDoor.Vc
