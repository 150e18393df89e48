/- The reference's TypeOf, capped, framed, span, Valid. -/
import Derived.Test.YtinngljphjdpoaaGreatDoorJVl
namespace Go.Proofs.YtinngljphjdpoaaGreatDoor.Vs
open Go Go.RowKit Go.Proofs.YtinngljphjdpoaaGreatDoor.Pa Go.Proofs.YtinngljphjdpoaaGreatDoor.Pb Go.Proofs.YtinngljphjdpoaaGreatDoor.Pf Go.Proofs.YtinngljphjdpoaaGreatDoor.Nz Go.Proofs.YtinngljphjdpoaaGreatDoor.Nm Go.Proofs.YtinngljphjdpoaaGreatDoor.Sc Go.Proofs.YtinngljphjdpoaaGreatDoor.Rs Go.Proofs.YtinngljphjdpoaaGreatDoor.Va Go.Proofs.YtinngljphjdpoaaGreatDoor.Vb Go.Proofs.YtinngljphjdpoaaGreatDoor.Vc Go.Proofs.YtinngljphjdpoaaGreatDoor.Vd Go.Proofs.YtinngljphjdpoaaGreatDoor.Vr Go.Proofs.YtinngljphjdpoaaGreatDoor.Vl
set_option linter.unusedVariables false
set_option linter.unusedSimpArgs false

theorem rtype (k : Int) (w : World) : Calls Tryz.prog 78 #[.int .i64 k] w fun e w' => e = .returned (.int .i64 (wt k : Nat)) ∧ w = w' := by
  obtain ⟨r, hr⟩ : ∃ r, r = ((wt k : Nat) : Int) := ⟨_, rfl⟩
  rw [← hr]
  by_cases k2 : k = 2
  · subst k2
    have hr' : r = 5 := hr
    subst hr'
    clear hr
    go_enter Tryz.func78, Tryz.ntmps78
    go_wp2
    go_ret
    exact ⟨rfl, rfl⟩
  by_cases k3 : k = 3
  · subst k3
    have hr' : r = 1 := hr
    subst hr'
    clear hr
    go_enter Tryz.func78, Tryz.ntmps78
    go_wp2
    go_ret
    exact ⟨rfl, rfl⟩
  by_cases k7 : k = 7
  · subst k7
    have hr' : r = 1 := hr
    subst hr'
    clear hr
    go_enter Tryz.func78, Tryz.ntmps78
    go_wp2
    go_ret
    exact ⟨rfl, rfl⟩
  by_cases k1 : k = 1
  · subst k1
    have hr' : r = 0 := hr
    subst hr'
    clear hr
    go_enter Tryz.func78, Tryz.ntmps78
    go_wp2
    go_ret
    exact ⟨rfl, rfl⟩
  by_cases k4 : k = 4
  · subst k4
    have hr' : r = 0 := hr
    subst hr'
    clear hr
    go_enter Tryz.func78, Tryz.ntmps78
    go_wp2
    go_ret
    exact ⟨rfl, rfl⟩
  have hr' : r = 2 := by rw [hr]; unfold wt; rw [if_neg (by omega), if_neg (by omega), if_neg (by omega)]; rfl
  subst hr'
  clear hr
  have e1 : (k == 1) = false := by simpa using k1
  have e2 : (k == 2) = false := by simpa using k2
  have e3 : (k == 3) = false := by simpa using k3
  have e4 : (k == 4) = false := by simpa using k4
  have e7 : (k == 7) = false := by simpa using k7
  go_enter Tryz.func78, Tryz.ntmps78
  go_wp2
  go_ret
  exact ⟨rfl, rfl⟩
theorem rcapped (x : Int) (h0 : 0 ≤ x) (w : World) : Calls Tryz.prog 90 #[.int .i64 x] w fun e w' => e = .returned (.int .i64 (cap x.toNat : Nat)) ∧ w = w' := by
  by_cases h : 4194305 < x
  · have hr : ((cap x.toNat : Nat) : Int) = 4194305 := by unfold cap much; omega
    rw [hr]
    clear hr
    go_enter Tryz.func90, Tryz.ntmps90
    go_wp2
    go_ret
    exact ⟨rfl, rfl⟩
  · have hr : ((cap x.toNat : Nat) : Int) = x := by unfold cap much; omega
    rw [hr]
    clear hr
    go_enter Tryz.func90, Tryz.ntmps90
    go_wp2
    go_ret
    exact ⟨rfl, rfl⟩
theorem rsizeI (x : Int) (h0 : 0 ≤ x) (h1 : x < 18446744073709551616) (w : World) : Calls Tryz.prog 88 #[.int .u64 x] w fun e w' => e = .returned (.int .i64 (sz x.toNat : Nat)) ∧ Below w.heap.size w w' := by
  obtain ⟨n, rfl⟩ := Int.eq_ofNat_of_zero_le h0
  exact rsize n (by omega) w
theorem rframed (x : Int) (h0 : 0 ≤ x) (h1 : x ≤ 4611686018427387904) (w : World) : Calls Tryz.prog 89 #[.int .i64 x] w fun e w' => e = .returned (.int .i64 (cap (fr x.toNat) : Nat)) ∧ Below w.heap.size w w' := by
  obtain ⟨n, rfl⟩ := Int.eq_ofNat_of_zero_le h0
  have hs := sz_u64 n (by omega)
  have hq : IntKind.u64.wrap (n : Int) = (n : Int) := wu64 (by omega) (by omega)
  have hf : ((n : Int) + (sz n : Int)).toNat = fr n := by unfold fr; omega
  have HF := Lib.hid hf; clear hf
  go_enter Tryz.func89, Tryz.ntmps89
  go_wp2_with (go_at_call 9999)
  go_at_call 88
  refine (rsizeI (n : Int) (by omega) (by omega) _).mono ?_
  rintro e w1 ⟨rfl, hb⟩
  rw [Int.toNat_natCast]
  go_wp2_with (go_at_call 9999)
  go_at_call 90
  refine (rcapped _ (by omega) _).mono ?_
  rintro e w2 ⟨rfl, rfl⟩
  rw [HF.out]
  go_wp2_with fail
  go_ret
  exact ⟨by simp, hb⟩
theorem rcappedN (n : Nat) (w : World) : Calls Tryz.prog 90 #[.int .i64 (n : Int)] w fun e w' => e = .returned (.int .i64 (cap n : Nat)) ∧ w = w' := rcapped (n : Int) (by omega) w
theorem rframedN (n : Nat) (h1 : n ≤ 4611686018427387904) (w : World) : Calls Tryz.prog 89 #[.int .i64 (n : Int)] w fun e w' => e = .returned (.int .i64 (cap (fr n) : Nat)) ∧ Below w.heap.size w w' := rframed (n : Int) (by omega) (by omega) w
theorem w64n {n : Nat} (h : n ≤ 4194304) : wrap64 (n : Int) = (n : Int) := w64 (by omega) (by omega)
theorem mul64 {a b : Nat} (h1 : a ≤ 4194305) (h2 : b ≤ 4096) : wrap64 ((a : Int) * (b : Int)) = ((a * b : Nat) : Int) := by
  have hm : a * b ≤ 4194305 * 4096 := Nat.mul_le_mul h1 h2
  rw [← Int.natCast_mul]; exact w64 (by omega) (by omega)
theorem capN (n : Nat) : cap n ≤ 4611686018427387904 := Nat.le_trans (cap_le n) (by omega)
theorem _root_.Go.Proofs.YtinngljphjdpoaaGreatDoor.Vd.KeptG.lt {W0 W : World} {g : Nat} {C : Array Value} (h : KeptG W0 g C W) : g + 1 ≤ W.heap.size := by
  rcases Nat.lt_or_ge g W.heap.size with h1 | h1
  · exact h1
  · have := h.2; unfold hp at this; rw [Array.getElem?_eq_none h1] at this; cases this
/-- What the reference's span answers. -/
def RSpanSaid (m : Nat) : Prop := ∀ (k : Nat) (v : Value) (l : List Slot) (W w : World), RdS W m v l → okL k l → Below W.heap.size W w →
  Calls Tryz.prog 62 #[v] w fun e w' => e = .returned (.tuple #[.int .i64 (rSpan m l).1, .int .i64 (rSpan m l).2]) ∧ Below w.heap.size w w'
theorem vcap {a b : Nat} (h : a = b) : Value.int .i64 ((cap a : Nat) : Int) = .int .i64 ((cap b : Nat) : Int) := by rw [h]
theorem rGo_le (f : List Slot → Nat × Nat) (s : List Slot) : (rGo f s).1 ≤ 4194305 ∧ (rGo f s).2 ≤ 4194305 := by
  unfold rGo
  suffices hh : ∀ (s : List Slot) (p : Nat × Nat), p.1 ≤ 4194305 ∧ p.2 ≤ 4194305 → (s.foldl (rStep f) p).1 ≤ 4194305 ∧ (s.foldl (rStep f) p).2 ≤ 4194305 from hh s _ (by simp)
  intro s
  induction s with
  | nil => intro p hp; exact hp
  | cons t r ih => intro p hp; exact ih _ ⟨cap_le _, cap_le _⟩

set_option maxHeartbeats 4000000 in
set_option maxRecDepth 100000 in
theorem rspan : ∀ (m : Nat), RSpanSaid m := by
  intro m
  induction m with
  | zero => exact fun k v l W w h _ _ => h.elim
  | succ m ih =>
    intro k v l W w h hok hb
    obtain ⟨A, c, rfl, hlc, hcm⟩ := h.slice
    cases k with
    | zero => exact hok.elim
    | succ k =>
    obtain ⟨h16, hall⟩ := hok
    clear hlc hcm
    have IH := Lib.hid ih; clear ih
    have H := Lib.hid h; have HA := Lib.hid hall; clear h hall
    obtain ⟨R, hR⟩ : ∃ R, R = rSpan (m + 1) l := ⟨_, rfl⟩
    rw [← hR]
    have HR := Lib.hid hR; clear hR
    go_enter Tryz.func62, Tryz.ntmps62
    go_wp2_with fail
    go_loopw [4, 5, 6] (fun s t u wr => ∃ (i : Nat), i ≤ l.length ∧ u = .int .i64 i ∧ s = .int .i64 (rGo (rSpan m) (l.take i)).1 ∧ t = .int .i64 (rGo (rSpan m) (l.take i)).2 ∧ Below w.heap.size w wr) (fun _ _ u _ => l.length - (intOf u).toNat)
    case atStart => exact ⟨0, by omega, rfl, rfl, rfl, Below.refl _ _⟩
    case round =>
      obtain ⟨i, hi, rfl, rfl, rfl, hbw⟩ := hrel
      have hbr : Below W.heap.size W wr := hb.trans (hbw.mono hb.size)
      by_cases hil : i < l.length
      · obtain ⟨ad, rfl, hwf, sv, hsl, hrd⟩ := H.out.at_ i hil
        replace hsl := hsl.keep (hbr.block _ hsl.lt)
        obtain ⟨p, hpa⟩ : ∃ p, ad.add (i * 5) = p := ⟨_, rfl⟩
        rw [hpa] at hsl
        have hit := HA.out l[i] (List.getElem_mem hil)
        have hnx := rGo_take (rSpan m) l i hil
        obtain ⟨hg1, hg2⟩ := rGo_le (rSpan m) (l.take i)
        generalize rGo (rSpan m) (l.take i) = q at *
        obtain ⟨x, y⟩ := q
        simp only at hg1 hg2 ⊢
        generalize l[i] = t at hwf hsl hrd hit hnx
        obtain ⟨no, kind, least, most, sub⟩ := t
        obtain ⟨c0, c1, c2, c3, c4⟩ := hsl
        obtain ⟨i1, i2, i3, i4, i5⟩ := hit
        have hl0 := hwf.least
        have hm0 := hwf.most
        simp only [Slot.no, Slot.kind, Slot.least, Slot.most, Slot.sub] at c0 c1 c2 c3 c4 hrd i1 i2 i4 i5 hl0 hm0
        obtain ⟨N, rfl⟩ := Int.eq_ofNat_of_zero_le (show 0 ≤ no by omega)
        obtain ⟨A2, cc2, rfl, hlc2, hcm2⟩ := hrd.slice
        clear hlc2 hcm2
        have HN := Lib.hid (fun hn : nest (.mk (N : Int) kind least most sub) = true => (⟨hrd, i4 hn⟩ : RdS W m (.slice A2 sub.length cc2) sub ∧ okL k sub))
        have hnx' : rGo (rSpan m) (l.take (i + 1)) = (cap (x + hd (.mk (N : Int) kind least most sub) + (rVal (rSpan m) (.mk (N : Int) kind least most sub)).1), cap (y + hd (.mk (N : Int) kind least most sub) + (rVal (rSpan m) (.mk (N : Int) kind least most sub)).2)) := hnx
        have I3 := Lib.hid i3; have HNX0 := Lib.hid hnx'; have HL0 := Lib.hid hl0; have HM0 := Lib.hid hm0; clear hrd i3 i4 i5 hwf hnx hnx' hl0 hm0
        have hwt := wt_le kind
        have hs0 := sz_u64 (8 * N + wt kind) (by omega)
        have hq4 : IntKind.u64.wrap (8 * (N : Int) + (wt kind : Int)) = 8 * (N : Int) + (wt kind : Int) := wu64 (by omega) (by omega)
        have bx : Below wr.heap.size wr (wr.alloc (.cells #[.int .i64 N, .int .i64 kind, .int .u64 least, .int .u64 most, .slice A2 sub.length cc2] 117)) := (Below.refl _ _).alloc (Nat.le_refl _) _
        go_wp2_with fail
        refine wp_region_calm (S := KeptG wr wr.heap.size #[.int .i64 N, .int .i64 kind, .int .u64 least, .int .u64 most, .slice A2 sub.length cc2]) (by kernel_rfl) (by kernel_rfl) ⟨bx.drew, (hp_alloc_at _ _ rfl : hp (wr.alloc (.cells #[.int .i64 N, .int .i64 kind, .int .u64 least, .int .u64 most, .slice A2 sub.length cc2] 117)) wr.heap.size = _)⟩ ?_
        intro hN
        have hC : ∀ (u : Held (KeptG wr wr.heap.size #[.int .i64 N, .int .i64 kind, .int .u64 least, .int .u64 most, .slice A2 sub.length cc2])) (i : Nat), u.w.cell? ⟨wr.heap.size, i, none⟩ = (#[.int .i64 N, .int .i64 kind, .int .u64 least, .int .u64 most, .slice A2 sub.length cc2] : Array Value)[i]? := fun u i => hp_cell u.h.2 i
        repeat (go_big_quiet_step (first | (go_at_call 78; exact calm_call (rtype _ _) (fun w' hs hr => hs.same hr)) | (go_at_call 88; exact calm_call (rsizeI _ (by omega) (by omega) _) (fun w' hs hr => hs.on hr))))
        refine wpQuiet_nil ?_
        intro u
        have hub : Below w.heap.size w u.w := hbw.trans (u.h.1.mono hbw.size)
        have hkq : KeptG w wr.heap.size #[.int .i64 N, .int .i64 kind, .int .u64 least, .int .u64 most, .slice A2 sub.length cc2] u.w := ⟨hub, u.h.2⟩
        have hcc : ∀ i, u.w.cell? ⟨wr.heap.size, i, none⟩ = (#[.int .i64 N, .int .i64 kind, .int .u64 least, .int .u64 most, .slice A2 sub.length cc2] : Array Value)[i]? := fun i => hC u i
        have husz : wr.heap.size + 1 ≤ u.w.heap.size := hkq.lt
        clear hC hN
        have he : (8 * (N : Int) + (wt kind : Int)).toNat = 8 * N + wt kind := by omega
        rw [he]
        clear he hq4
        have hhd : hd (.mk (N : Int) kind least most sub) = sz (8 * N + wt kind) := rfl
        rw [← hhd] at hs0 ⊢
        generalize hd (.mk (N : Int) kind least most sub) = h0 at *
        clear hhd
        have hnx := HNX0.out
        clear HNX0 c0 c1 c2 c3 c4
        rcases bnd_kind I3.out with e | e | e | e | e | e | e | e | e
        all_goals (simp only [Slot.kind] at e; subst e)
        · have hrv : rVal (rSpan m) (.mk (N : Int) 1 least most sub) = (sz least, sz most) := rfl
          rw [hrv] at hnx
          simp only at hnx
          have HNX := Lib.hid hnx; clear hnx hrv
          have s1 := sz_u64 least HL0.out
          have s2 := sz_u64 most HM0.out
          have hl0 := HL0.out
          have hm0 := HM0.out
          go_wp2_with fail
          refine wp_region_calm (S := KeptG w wr.heap.size #[.int .i64 N, .int .i64 1, .int .u64 least, .int .u64 most, .slice A2 sub.length cc2]) (by kernel_rfl) (by kernel_rfl) ⟨hkq.1.drew, hkq.2⟩ ?_
          intro hN2
          have hC2 : ∀ (u : Held (KeptG w wr.heap.size #[.int .i64 N, .int .i64 1, .int .u64 least, .int .u64 most, .slice A2 sub.length cc2])) (i : Nat), u.w.cell? ⟨wr.heap.size, i, none⟩ = (#[.int .i64 N, .int .i64 1, .int .u64 least, .int .u64 most, .slice A2 sub.length cc2] : Array Value)[i]? := fun u i => hp_cell u.h.2 i
          repeat (go_big_quiet_step (first | (go_at_call 88; exact calm_call (rsizeI _ (by omega) (by omega) _) (fun w' hs hr => hs.on hr))))
          refine wpQuiet_nil ?_
          intro u2
          have hub2 := u2.h.1
          have hsz2 := hub2.size
          clear hC2 hN2
          simp only [Int.toNat_natCast]
          go_wp2_with (first | (go_at_call 90; refine (rcapped _ (by omega) _).mono ?_; rintro e w' ⟨rfl, rfl⟩))
          go_roundw
          case rel => exact ⟨i + 1, by omega, by go_num, by rw [HNX.out]; exact vcap (by omega), by rw [HNX.out]; exact vcap (by omega), hub2⟩
          case measure => simp [intOf]; omega
        · have hrv : rVal (rSpan m) (.mk (N : Int) 2 least most sub) = (4, 4) := rfl
          rw [hrv] at hnx
          simp only at hnx
          have HNX := Lib.hid hnx; clear hnx hrv
          go_wp2_with (first | (go_at_call 90; refine (rcapped _ (by omega) _).mono ?_; rintro e w' ⟨rfl, rfl⟩))
          go_roundw
          case rel => exact ⟨i + 1, by omega, by go_num, by rw [HNX.out]; exact vcap (by omega), by rw [HNX.out]; exact vcap (by omega), hub⟩
          case measure => simp [intOf]; omega
        · have hrv : rVal (rSpan m) (.mk (N : Int) 3 least most sub) = (8, 8) := rfl
          rw [hrv] at hnx
          simp only at hnx
          have HNX := Lib.hid hnx; clear hnx hrv
          go_wp2_with (first | (go_at_call 90; refine (rcapped _ (by omega) _).mono ?_; rintro e w' ⟨rfl, rfl⟩))
          go_roundw
          case rel => exact ⟨i + 1, by omega, by go_num, by rw [HNX.out]; exact vcap (by omega), by rw [HNX.out]; exact vcap (by omega), hub⟩
          case measure => simp [intOf]; omega
        · have hrv : rVal (rSpan m) (.mk (N : Int) 4 least most sub) = (1, 1) := rfl
          rw [hrv] at hnx
          simp only at hnx
          have HNX := Lib.hid hnx; clear hnx hrv
          go_wp2_with (first | (go_at_call 90; refine (rcapped _ (by omega) _).mono ?_; rintro e w' ⟨rfl, rfl⟩))
          go_roundw
          case rel => exact ⟨i + 1, by omega, by go_num, by rw [HNX.out]; exact vcap (by omega), by rw [HNX.out]; exact vcap (by omega), hub⟩
          case measure => simp [intOf]; omega
        · have hrv : rVal (rSpan m) (.mk (N : Int) 5 least most sub) = (cap (fr least), cap (fr most)) := rfl
          rw [hrv] at hnx
          simp only at hnx
          have HNX := Lib.hid hnx; clear hnx hrv
          have hbb := bnd_at (N : Int) 5 least most sub
          rw [I3.out] at hbb
          have h2 : least ≤ most ∧ most ≤ 4194304 := by simpa using hbb.symm
          clear hbb
          have HA1 := Lib.hid (show least ≤ 4611686018427387904 by omega)
          have HA2 := Lib.hid (show most ≤ 4611686018427387904 by omega)
          have hq1 : wrap64 (least : Int) = (least : Int) := w64 (by omega) (by omega)
          have hq2 : wrap64 (most : Int) = (most : Int) := w64 (by omega) (by omega)
          have H2 := Lib.hid h2; clear h2
          go_wp2_with fail
          refine wp_region_calm (S := KeptG w wr.heap.size #[.int .i64 N, .int .i64 5, .int .u64 least, .int .u64 most, .slice A2 sub.length cc2]) (by kernel_rfl) (by kernel_rfl) ⟨hkq.1.drew, hkq.2⟩ ?_
          intro hN2
          have hC2 : ∀ (u : Held (KeptG w wr.heap.size #[.int .i64 N, .int .i64 5, .int .u64 least, .int .u64 most, .slice A2 sub.length cc2])) (i : Nat), u.w.cell? ⟨wr.heap.size, i, none⟩ = (#[.int .i64 N, .int .i64 5, .int .u64 least, .int .u64 most, .slice A2 sub.length cc2] : Array Value)[i]? := fun u i => hp_cell u.h.2 i
          repeat (go_big_quiet_step (first | (go_at_call 89; exact calm_call (rframedN _ (by first | exact HA1.out | exact HA2.out) _) (fun w' hs hr => hs.on hr))))
          refine wpQuiet_nil ?_
          intro u2
          have hub2 := u2.h.1
          have hsz2 := hub2.size
          clear hC2 hN2
          have c1 := cap_le (fr least)
          have c2 := cap_le (fr most)
          generalize cap (fr least) = a at *
          generalize cap (fr most) = b at *
          clear hq1 hq2
          go_wp2_with (first | (go_at_call 90; refine (rcapped _ (by omega) _).mono ?_; rintro e w' ⟨rfl, rfl⟩))
          go_roundw
          case rel => exact ⟨i + 1, by omega, by go_num, by rw [HNX.out]; exact vcap (by omega), by rw [HNX.out]; exact vcap (by omega), hub2⟩
          case measure => simp [intOf]; omega
        · have hrv : rVal (rSpan m) (.mk (N : Int) 6 least most sub) = (cap (fr least), cap (fr most)) := rfl
          rw [hrv] at hnx
          simp only at hnx
          have HNX := Lib.hid hnx; clear hnx hrv
          have hbb := bnd_at (N : Int) 6 least most sub
          rw [I3.out] at hbb
          have h2 : least ≤ most ∧ most ≤ 4194304 := by simpa using hbb.symm
          clear hbb
          have HA1 := Lib.hid (show least ≤ 4611686018427387904 by omega)
          have HA2 := Lib.hid (show most ≤ 4611686018427387904 by omega)
          have hq1 : wrap64 (least : Int) = (least : Int) := w64 (by omega) (by omega)
          have hq2 : wrap64 (most : Int) = (most : Int) := w64 (by omega) (by omega)
          have H2 := Lib.hid h2; clear h2
          go_wp2_with fail
          refine wp_region_calm (S := KeptG w wr.heap.size #[.int .i64 N, .int .i64 6, .int .u64 least, .int .u64 most, .slice A2 sub.length cc2]) (by kernel_rfl) (by kernel_rfl) ⟨hkq.1.drew, hkq.2⟩ ?_
          intro hN2
          have hC2 : ∀ (u : Held (KeptG w wr.heap.size #[.int .i64 N, .int .i64 6, .int .u64 least, .int .u64 most, .slice A2 sub.length cc2])) (i : Nat), u.w.cell? ⟨wr.heap.size, i, none⟩ = (#[.int .i64 N, .int .i64 6, .int .u64 least, .int .u64 most, .slice A2 sub.length cc2] : Array Value)[i]? := fun u i => hp_cell u.h.2 i
          repeat (go_big_quiet_step (first | (go_at_call 89; exact calm_call (rframedN _ (by first | exact HA1.out | exact HA2.out) _) (fun w' hs hr => hs.on hr))))
          refine wpQuiet_nil ?_
          intro u2
          have hub2 := u2.h.1
          have hsz2 := hub2.size
          clear hC2 hN2
          have c1 := cap_le (fr least)
          have c2 := cap_le (fr most)
          generalize cap (fr least) = a at *
          generalize cap (fr most) = b at *
          clear hq1 hq2
          go_wp2_with (first | (go_at_call 90; refine (rcapped _ (by omega) _).mono ?_; rintro e w' ⟨rfl, rfl⟩))
          go_roundw
          case rel => exact ⟨i + 1, by omega, by go_num, by rw [HNX.out]; exact vcap (by omega), by rw [HNX.out]; exact vcap (by omega), hub2⟩
          case measure => simp [intOf]; omega
        · have hrv : rVal (rSpan m) (.mk (N : Int) 7 least most sub) = (8, 8) := rfl
          rw [hrv] at hnx
          simp only at hnx
          have HNX := Lib.hid hnx; clear hnx hrv
          go_wp2_with (first | (go_at_call 90; refine (rcapped _ (by omega) _).mono ?_; rintro e w' ⟨rfl, rfl⟩))
          go_roundw
          case rel => exact ⟨i + 1, by omega, by go_num, by rw [HNX.out]; exact vcap (by omega), by rw [HNX.out]; exact vcap (by omega), hub⟩
          case measure => simp [intOf]; omega
        · have hrv : rVal (rSpan m) (.mk (N : Int) 8 least most sub) = (cap (fr (rSpan m sub).1), cap (fr (rSpan m sub).2)) := rfl
          rw [hrv] at hnx
          simp only at hnx
          have HNX := Lib.hid hnx; clear hnx hrv
          have hsp := rSpan_le m sub
          obtain ⟨hrd, hok⟩ := HN.out rfl
          obtain ⟨p, hp'⟩ : ∃ p, p = rSpan m sub := ⟨_, rfl⟩
          have hnx := HNX.out
          rw [← hp'] at hsp hnx
          obtain ⟨x2, y2⟩ := p
          simp only at hsp hnx
          have HP := Lib.hid hp'; have HNX := Lib.hid hnx; have HR := Lib.hid hrd; have HOK := Lib.hid hok; clear hp' hnx hrd hok
          go_wp2_with (go_at_call 9999)
          go_at_call 62
          refine (IH.out k _ sub W _ HR.out HOK.out (hb.trans (hub.mono hb.size))).mono ?_
          rw [← HP.out]
          rintro e w1 ⟨rfl, hb1⟩
          have hk1 := hkq.on hb1
          have hbu1 := hub.trans (hb1.mono hub.size)
          have hcc1 : ∀ i, w1.cell? ⟨wr.heap.size, i, none⟩ = (#[.int .i64 N, .int .i64 8, .int .u64 least, .int .u64 most, .slice A2 sub.length cc2] : Array Value)[i]? := fun i => hp_cell hk1.2 i
          simp only
          go_wp2_with (go_at_call 9999)
          go_at_call 89
          refine (rframed _ (by omega) (by omega) _).mono ?_
          rintro e w2 ⟨rfl, hb2⟩
          have hk2 := hk1.on hb2
          have hbu2 := hbu1.trans (hb2.mono hbu1.size)
          go_wp2_with (go_at_call 9999)
          go_at_call 89
          refine (rframed _ (by omega) (by omega) _).mono ?_
          rintro e w3 ⟨rfl, hb3⟩
          have hk3 := hk2.on hb3
          have hbu3 := hbu2.trans (hb3.mono hbu2.size)
          clear hcc1
          simp only [Int.toNat_natCast]
          have c1 := cap_le (fr x2)
          have c2 := cap_le (fr y2)
          generalize cap (fr x2) = a at *
          generalize cap (fr y2) = b at *
          go_wp2_with (first | (go_at_call 90; refine (rcapped _ (by omega) _).mono ?_; rintro e w' ⟨rfl, rfl⟩))
          go_roundw
          case rel => exact ⟨i + 1, by omega, by go_num, by rw [HNX.out]; exact vcap (by omega), by rw [HNX.out]; exact vcap (by omega), hbu3⟩
          case measure => simp [intOf]; omega
        · have hrv : rVal (rSpan m) (.mk (N : Int) 9 least most sub) = (cap (fr (cap (cap (fr (rSpan m sub).1) * least))), cap (fr (cap (cap (fr (rSpan m sub).2) * most)))) := rfl
          rw [hrv] at hnx
          simp only at hnx
          have HNX := Lib.hid hnx; clear hnx hrv
          have hbb := bnd_at (N : Int) 9 least most sub
          rw [I3.out] at hbb
          have h2 : least ≤ most ∧ most ≤ 4096 := by simpa using hbb.symm
          clear hbb
          have hsp := rSpan_le m sub
          obtain ⟨hrd, hok⟩ := HN.out rfl
          obtain ⟨p, hp'⟩ : ∃ p, p = rSpan m sub := ⟨_, rfl⟩
          have hnx := HNX.out
          rw [← hp'] at hsp hnx
          obtain ⟨x2, y2⟩ := p
          simp only at hsp hnx
          have HP := Lib.hid hp'; have HNX := Lib.hid hnx; have HR := Lib.hid hrd; have HOK := Lib.hid hok; clear hp' hnx hrd hok
          go_wp2_with (go_at_call 9999)
          go_at_call 62
          refine (IH.out k _ sub W _ HR.out HOK.out (hb.trans (hub.mono hb.size))).mono ?_
          rw [← HP.out]
          rintro e w1 ⟨rfl, hb1⟩
          have hk1 := hkq.on hb1
          have hbu1 := hub.trans (hb1.mono hub.size)
          have hcc1 : ∀ i, w1.cell? ⟨wr.heap.size, i, none⟩ = (#[.int .i64 N, .int .i64 9, .int .u64 least, .int .u64 most, .slice A2 sub.length cc2] : Array Value)[i]? := fun i => hp_cell hk1.2 i
          simp only
          go_wp2_with (go_at_call 9999)
          go_at_call 89
          refine (rframed _ (by omega) (by omega) _).mono ?_
          rintro e w2 ⟨rfl, hb2⟩
          have hk2 := hk1.on hb2
          have hbu2 := hbu1.trans (hb2.mono hbu1.size)
          go_wp2_with (go_at_call 9999)
          go_at_call 89
          refine (rframed _ (by omega) (by omega) _).mono ?_
          rintro e w3 ⟨rfl, hb3⟩
          have hk3 := hk2.on hb3
          have hbu3 := hbu2.trans (hb3.mono hbu2.size)
          clear hcc1
          simp only [Int.toNat_natCast]
          have c1 := cap_le (fr x2)
          have c2 := cap_le (fr y2)
          generalize cap (fr x2) = a at *
          generalize cap (fr y2) = b at *
          go_wp2_with fail
          have hq1 : wrap64 (least : Int) = (least : Int) := w64n (Nat.le_trans (Nat.le_trans h2.1 h2.2) (by decide))
          have hw1 : wrap64 ((a : Int) * (least : Int)) = ((a * least : Nat) : Int) := mul64 c1 (Nat.le_trans h2.1 h2.2)
          have hq2 : wrap64 (most : Int) = (most : Int) := w64n (Nat.le_trans h2.2 (by decide))
          have hw2 : wrap64 ((b : Int) * (most : Int)) = ((b * most : Nat) : Int) := mul64 c2 h2.2
          have H2 := Lib.hid h2; clear h2 hsp c1 c2
          generalize a * least = a2 at *
          generalize b * most = b2 at *
          have hkq := hk3
          refine wp_region_calm (S := KeptG w wr.heap.size #[.int .i64 N, .int .i64 9, .int .u64 least, .int .u64 most, .slice A2 sub.length cc2]) (by kernel_rfl) (by kernel_rfl) ⟨hkq.1.drew, hkq.2⟩ ?_
          intro hN2
          have hC2 : ∀ (u : Held (KeptG w wr.heap.size #[.int .i64 N, .int .i64 9, .int .u64 least, .int .u64 most, .slice A2 sub.length cc2])) (i : Nat), u.w.cell? ⟨wr.heap.size, i, none⟩ = (#[.int .i64 N, .int .i64 9, .int .u64 least, .int .u64 most, .slice A2 sub.length cc2] : Array Value)[i]? := fun u i => hp_cell u.h.2 i
          repeat (go_big_quiet_step (first | (go_at_call 89; exact calm_call (rframedN _ (capN _) _) (fun w' hs hr => hs.on hr)) | (go_at_call 90; exact calm_call (rcappedN _ _) (fun w' hs hr => hs.same hr))))
          refine wpQuiet_nil ?_
          intro u2
          have hub2 := u2.h.1
          have hsz2 := hub2.size
          clear hC2 hN2
          have c5 := cap_le (fr (cap a2))
          have c6 := cap_le (fr (cap b2))
          generalize cap (fr (cap a2)) = a3 at *
          generalize cap (fr (cap b2)) = b3 at *
          clear hw1 hw2 hq1 hq2
          go_wp2_with (first | (go_at_call 90; refine (rcapped _ (by omega) _).mono ?_; rintro e w' ⟨rfl, rfl⟩))
          go_roundw
          case rel => exact ⟨i + 1, by omega, by go_num, by rw [HNX.out]; exact vcap (by omega), by rw [HNX.out]; exact vcap (by omega), hub2⟩
          case measure => simp [intOf]; omega
      · obtain rfl : i = l.length := by omega
        rw [List.take_length] at *
        go_wp2_with fail
        go_ret2
        rw [HR.out]
        exact ⟨rfl, hbw⟩

/-- The reference's Valid. -/
theorem rvalid {n : Nat} {v : Value} {l : List Slot} (w : World) (h : RdS w n v l) : Calls Tryz.prog 73 #[v] w fun e w' => e = .returned (.int .i64 (valid n l)) ∧ Below w.heap.size w w' := by
  obtain ⟨A, c, rfl, -⟩ := h.slice
  have H := Lib.hid h; clear h
  have hlc := left_can 6 l 256
  cases hc : canL 6 l 256 with
  | none =>
    rw [hc] at hlc
    have hv : valid n l = 80 := by unfold valid; rw [if_pos hc]
    have HV := Lib.hid hv; have HC := Lib.hid hlc; clear hv hlc hc
    go_enter Tryz.func73, Tryz.ntmps73
    go_wp2_with (go_at_call 9999)
    go_at_call 97
    refine (left 6 n _ l 1 256 w _ H.out (Below.refl _ _) (by omega) (by omega) (by omega)).mono ?_
    rw [HC.out]
    rintro e w1 ⟨rfl, hb1⟩
    simp only [back]
    go_wp2_with fail
    go_ret
    exact ⟨ret_int HV.out.symm, hb1⟩
  | some r =>
    rw [hc] at hlc
    have hok := canL_ok 6 l 256 r hc
    have hal := rSpan_al n 6 l hok
    have hle := rSpan_le n l
    have HOK := Lib.hid hok; clear hok
    have hv : valid n l = if 4194304 < (exSpan n l).2 then 2 else 0 := by unfold valid; rw [if_neg (by rw [hc]; exact fun h => by cases h)]
    have hgt := al_gt hal.2 (Al.refl _)
    simp only [← hgt] at hv
    have HV := Lib.hid hv; have HC := Lib.hid hlc; clear hv hgt hal hlc hc
    go_enter Tryz.func73, Tryz.ntmps73
    go_wp2_with (go_at_call 9999)
    go_at_call 97
    refine (left 6 n _ l 1 256 w _ H.out (Below.refl _ _) (by omega) (by omega) (by omega)).mono ?_
    rw [HC.out]
    rintro e w1 ⟨rfl, hb1⟩
    simp only [back]
    have hr0 : ¬ (r : Int) < 0 := by omega
    go_wp2_with (go_at_call 9999)
    go_at_call 62
    refine (rspan n 6 _ l w w1 H.out HOK.out hb1).mono ?_
    rintro e w2 ⟨rfl, hb2⟩
    have hbw2 : Below w.heap.size w w2 := hb1.trans (hb2.mono hb1.size)
    generalize rSpan n l = q at *
    obtain ⟨x, y⟩ := q
    by_cases hy : (4194304 : Int) < (y : Int)
    · go_wp2_with fail
      go_ret
      rw [HV.out]
      exact ⟨ret_int (by rw [if_pos (by omega)]), hbw2⟩
    · go_wp2_with fail
      go_ret
      rw [HV.out]
      exact ⟨ret_int (by rw [if_neg (by omega)]), hbw2⟩
end Go.Proofs.YtinngljphjdpoaaGreatDoor.Vs
