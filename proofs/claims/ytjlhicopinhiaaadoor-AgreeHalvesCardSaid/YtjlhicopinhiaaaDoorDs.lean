/- Both Safeties. -/
import Derived.Test.YtjlhicopinhiaaaDoorDr
import Derived.Lib.Strings
import Derived.Lib.Slices
import Derived.Lib.Walk
import Derived.Lib.Bytealg
namespace Go.Proofs.YtjlhicopinhiaaaDoor.Ds
open Go Go.RowKit Go.Proofs.YtjlhicopinhiaaaDoor.Pa Go.Proofs.YtjlhicopinhiaaaDoor.Pb Go.Proofs.YtjlhicopinhiaaaDoor.Pc Go.Proofs.YtjlhicopinhiaaaDoor.Pf Go.Proofs.YtjlhicopinhiaaaDoor.Pq Go.Proofs.YtjlhicopinhiaaaDoor.Pr Go.Proofs.YtjlhicopinhiaaaDoor.Sv Go.Proofs.YtjlhicopinhiaaaDoor.Sk Go.Proofs.YtjlhicopinhiaaaDoor.Sd Go.Proofs.YtjlhicopinhiaaaDoor.Se Go.Proofs.YtjlhicopinhiaaaDoor.Sf Go.Proofs.YtjlhicopinhiaaaDoor.Su Go.Proofs.YtjlhicopinhiaaaDoor.Sy Go.Proofs.YtjlhicopinhiaaaDoor.Dg Go.Proofs.YtjlhicopinhiaaaDoor.Dp Go.Proofs.YtjlhicopinhiaaaDoor.Dr
set_option linter.unusedVariables false
set_option linter.unusedSimpArgs false
theorem run_loadB {P : Program} (w : World) : ∀ (l : List UInt8) (a : Addr) (acc : ByteArray), (∀ j x, l[j]? = some x → w.cell? (a.add j) = some (.int .u8 (x.toNat : Int))) →
    (Extern.Bytes.loadBytes a l.length acc).run P w = .ok ⟨acc.data ++ l.toArray⟩ w
  | [], a, acc, _ => by simp [Extern.Bytes.loadBytes]
  | x :: l, a, acc, h => by
    have h0 : w.cell? a = some (.int .u8 (x.toNat : Int)) := by
      have := h 0 x rfl
      simpa [Addr.add] using this
    have ih := run_loadB (P := P) w l (a.add 1) (acc.push x) (fun j y hy => by
      have := h (j + 1) y (by simpa using hy)
      have e : (a.add 1).add j = a.add (j + 1) := by
        unfold Addr.add
        by_cases hj : j = 0
        · subst hj; simp
        · simp [hj]; omega
      rw [e]; exact this)
    have hx : ((x.toNat : Int).toNat).toUInt8 = x := by simp
    simp only [List.length_cons, Extern.Bytes.loadBytes, Sem.run_bind, run_load, h0, Result.andThen, hx]
    rw [ih]
    congr 1
    apply ByteArray.ext
    simp [ByteArray.push]
theorem run_bytesOfRd {P : Program} {w : World} {v : Value} {l : List UInt8} (h : Rd w v l) : (Extern.Bytes.bytesOf v).run P w = .ok ⟨l.toArray⟩ w := by
  obtain ⟨A, c, rfl, h1, h2, h3⟩ := id h
  cases A with
  | none =>
    rcases Nat.eq_zero_or_pos l.length with h0 | h0
    · obtain rfl : l = [] := List.eq_nil_of_length_eq_zero h0
      rfl
    · obtain ⟨ad, e, -⟩ := h3 h0
      cases e
  | some ad =>
    show (Extern.Bytes.loadBytes ad l.length .empty).run P w = _
    rw [run_loadB w l ad .empty (fun j x hj => ?_)]
    · congr 1
      exact ByteArray.ext (by show #[] ++ l.toArray = _; simp)
    · have hjl := (List.getElem?_eq_some_iff.1 hj).1
      obtain ⟨ad', e, hc⟩ := h.at_ j hjl
      injection e with e
      subst e
      rw [hc]
      rw [(List.getElem?_eq_some_iff.1 hj).2]
theorem run_cmp {P : Program} {w : World} {u v : Value} {l m : List UInt8} (hu : Rd w u l) (hv : Rd w v m) :
    (Extern.BytealgCompare.compare #[u, v]).run P w = .ok (.int .i64 (Lib.compareBytes l m)) w := by
  change Sem.run P (do pure (goInt (Extern.BytealgCompare.cmp (← Extern.Bytes.bytesOf u) (← Extern.Bytes.bytesOf v)))) w = _
  simp only [Sem.run_bind, run_bytesOfRd hu, run_bytesOfRd hv, Result.andThen, Sem.run_pure, Lib.cmp_eq]
  rfl
theorem cmp_less : ∀ (l m : List UInt8), 0 < Lib.compareBytes l m ↔ Op.bytesLess m l = true
  | [], [] => by simp [Lib.compareBytes, Op.bytesLess]
  | [], _ :: _ => by simp [Lib.compareBytes, Op.bytesLess]
  | _ :: _, [] => by simp [Lib.compareBytes, Op.bytesLess]
  | a :: l, b :: m => by
    have ih := cmp_less l m
    simp only [Lib.compareBytes, Op.bytesLess]
    by_cases h1 : a < b
    · have h2 : ¬ b < a := fun h => absurd (UInt8.lt_trans h1 h) (UInt8.lt_irrefl _)
      have h3 : ¬ b = a := fun e => by subst e; exact UInt8.lt_irrefl _ h1
      simp [h1, h2, h3]
    · by_cases h2 : b < a
      · simp [h1, h2]
      · have h3 : a = b := UInt8.le_antisymm (UInt8.not_lt.1 h2) (UInt8.not_lt.1 h1)
        subst h3
        simp [h1, ih]
set_option maxHeartbeats 1000000 in
set_option maxRecDepth 100000 in
theorem pcompare {w : World} {u v : Value} {l m : List UInt8} (hu : Rd w u l) (hv : Rd w v m) :
    Calls Tryd.prog 12 #[u, v] w fun e w' => e = .returned (.int .i64 (Lib.compareBytes l m)) ∧ w' = w := by
  go_enter Tryd.func12, Tryd.ntmps12
  go_wp2
  rw [run_callFunc_extern Tryd.func19 (by kernel_rfl) (by kernel_rfl) (by kernel_rfl) (e := Extern.BytealgCompare.compare) (by kernel_rfl), run_cmp hu hv]
  simp only [Result.andThen]
  rw [Oper.upon_value]
  go_wp2
  go_ret
  exact ⟨rfl, rfl⟩
set_option maxHeartbeats 1000000 in
theorem ptrim (s p : ByteArray) (w : World) :
    Calls Tryd.prog 13 #[.string s, .string p] w fun e w' => e = .returned (.string ⟨(Lib.trimPrefix s.data.toList p.data.toList).toArray⟩) ∧ w' = w := by
  go_enter Tryd.func13, Tryd.ntmps13
  go_wp2
  · have h1 : p.size ≤ s.size := by assumption
    have h2 : ((s.extract 0 p.size).toList == p.toList) = true := by assumption
    go_ret
    refine ⟨?_, rfl⟩
    rw [Lib.trimPrefix_hit s p h1 h2]
    rfl
  · have h2 : ((s.extract 0 p.size).toList == p.toList) = false := by assumption
    go_ret
    refine ⟨?_, rfl⟩
    rw [Lib.trimPrefix_miss s p (by rw [h2]; simp)]
    rfl
  · have h1 : ¬ p.size ≤ s.size := by assumption
    go_ret
    refine ⟨?_, rfl⟩
    rw [Lib.trimPrefix_miss s p (by simp [h1])]
    rfl
/-- The number of two keys. -/
def safe (a b : Vector UInt8 32) (r : Nat) : List UInt8 :=
  (if Op.bytesLess b.toList a.toList = true then digits b r ++ digits a r else digits a r ++ digits b r).drop 1
theorem digits_head (k : Vector UInt8 32) (r : Nat) : ∃ t, digits k r = 32 :: t ∧ t.length = 35 := by
  refine ⟨(digits k r).drop 1, ?_, by simp [digits_length]⟩
  unfold digits
  simp [groups, group]
theorem trim_digits (k : Vector UInt8 32) (r : Nat) (m : List UInt8) : Lib.trimPrefix (digits k r ++ m) [32] = (digits k r ++ m).drop 1 := by
  obtain ⟨t, h, -⟩ := digits_head k r
  rw [h]
  simp [Lib.trimPrefix, Lib.hasPrefix]
set_option maxHeartbeats 1000000 in
set_option maxRecDepth 100000 in
theorem psafety (a b : Vector UInt8 32) (r : Int) (w : World) (hT : Tab w) :
    Calls Tryd.prog 6 #[.agg (bv a), .agg (bv b), .int .i64 r] w fun e w' => (e = .returned (.tuple #[.string ⟨(if 1 ≤ r ∧ r ≤ 6000 then safe a b r.toNat else []).toArray⟩, .int .i64 (if 1 ≤ r ∧ r ≤ 6000 then 0 else 1)])) ∧ Below w.heap.size w w' := by
  have al : ∀ (w : World) (o : Obj), Below w.heap.size w (w.alloc o) := fun w o => (Below.refl _ _).alloc (Nat.le_refl _) _
  have HT := Lib.hid hT; clear hT
  go_enter Tryd.func6, Tryd.ntmps6
  by_cases h1 : r < 1
  · go_wp2_with fail
    go_ret2
    refine ⟨?_, ((al w _).trans ((al _ _).mono (by simp)))⟩
    rfl
  · by_cases h2 : 6000 < r
    · go_wp2_with fail
      go_ret2
      refine ⟨?_, ((al w _).trans ((al _ _).mono (by simp)))⟩
      rfl
    · obtain ⟨n, rfl⟩ : ∃ n : Nat, r = (n : Int) := ⟨r.toNat, by omega⟩
      have h1n : 1 ≤ n := by omega
      have h2n : n ≤ 6000 := by omega
      have b0 : Below w.heap.size w ((w.alloc (.cells (bv a) 23)).alloc (.cells (bv b) 23)) := (al w _).trans ((al _ _).mono (by simp))
      have ka : By ((w.alloc (.cells (bv a) 23)).alloc (.cells (bv b) 23)) w.heap.size 23 a := by unfold By; simp [go_sem]
      have kb : By ((w.alloc (.cells (bv a) 23)).alloc (.cells (bv b) 23)) (w.heap.size + 1) 23 b := by unfold By; exact hp_alloc_at _ _ (by simp)
      have KA := Lib.hid ka; have KB := Lib.hid kb; have B0 := Lib.hid b0; clear ka kb b0
      go_wp2_with fail
      generalize hw1 : (w.alloc (.cells (bv a) 23)).alloc (.cells (bv b) 23) = w1 at *
      have HRA := Lib.hid (fun u : Held (Like w1) => By.rd (w := u.w) (g := w.heap.size) (T := 23) (k := a) (by obtain ⟨m, hm⟩ := u.h; rw [hm]; exact (hp_drewN m _).trans KA.out) (by simp [maxLen]))
      have HRB := Lib.hid (fun u : Held (Like w1) => By.rd (w := u.w) (g := w.heap.size + 1) (T := 23) (k := b) (by obtain ⟨m, hm⟩ := u.h; rw [hm]; exact (hp_drewN m _).trans KB.out) (by simp [maxLen]))
      refine wp_region_calm (S := Like w1) (by kernel_rfl) (by kernel_rfl) (Like.refl _) ?_
      intro hN
      repeat (go_big_quiet_step (first | (go_at_call 12; exact calm_call (pcompare (HRA.out _) (HRB.out _)) (fun w' hs hr => hr ▸ hs))))
      refine wpQuiet_nil ?_
      intro u
      obtain ⟨m, hm⟩ := u.h
      rw [hm]
      clear hN HRA HRB hm u
      have ka : hp (w1.drewN m) w.heap.size = some (.cells (bv a) 23 (0, 0)) := (hp_drewN m _).trans KA.out
      have kb : hp (w1.drewN m) (w.heap.size + 1) = some (.cells (bv b) 23 (0, 0)) := (hp_drewN m _).trans KB.out
      have b1 : Below w.heap.size w (w1.drewN m) := ⟨B0.out.os, B0.out.tape, B0.out.output, B0.out.size, B0.out.block⟩
      have B1 := Lib.hid b1
      generalize w1.drewN m = w2 at *
      clear KA KB B0 b1 hw1 w1
      by_cases hc : 0 < Lib.compareBytes a.toList b.toList
      · have hl := (cmp_less _ _).1 hc
        have HL := Lib.hid hl; clear hl
        have KA := Lib.hid ka; have KB := Lib.hid kb
        go_wp2_with fail
        obtain ⟨X, HXe⟩ : ∃ X, X = b := ⟨_, rfl⟩
        obtain ⟨Y, HYe⟩ : ∃ Y, Y = a := ⟨_, rfl⟩
        obtain ⟨wq, hwq⟩ : ∃ x, x = (w2.setRow w.heap.size (bv b)).setRow (w.heap.size + 1) (bv a) := ⟨_, rfl⟩
        have HX := Lib.hid (show hp wq w.heap.size = some (.cells (bv X) 23 (0, 0)) by rw [hwq, HXe]; exact (hp_setRow_other _ _ _ (by omega)).trans (hp_setRow_same _ _ _ _ _ KA.out))
        have HY := Lib.hid (show hp wq (w.heap.size + 1) = some (.cells (bv Y) 23 (0, 0)) by rw [hwq, HYe]; exact hp_setRow_same _ _ _ _ _ ((hp_setRow_other _ _ _ (by omega)).trans KB.out))
        have BQ := Lib.hid (show Below w.heap.size w wq by rw [hwq]; exact Below.setRow (Below.setRow B1.out (by omega) _) (by omega) _)
        rw [← hwq]
        have HXE := Lib.hid HXe; have HYE := Lib.hid HYe
        clear hwq ka kb KA KB B1 w2 HXe HYe
        have hcx : ∀ u : Held (fun W => Below wq.heap.size wq W), hp u.w w.heap.size = some (.cells (bv X) 23 (0, 0)) := fun u => By.below (T := 23) (k := X) HX.out u.h
        have hcy : ∀ u : Held (fun W => Below wq.heap.size wq W), hp u.w (w.heap.size + 1) = some (.cells (bv Y) 23 (0, 0)) := fun u => By.below (T := 23) (k := Y) HY.out u.h
        have HTU := Lib.hid (fun u : Held (fun W => Below wq.heap.size wq W) => (HT.out.below BQ.out).below u.h)
        have hcat : ¬ 9223372036854775807 < (digits X n).length + (digits Y n).length := by rw [digits_length, digits_length]; decide
        refine wp_region_calm (S := fun W => Below wq.heap.size wq W) (by kernel_rfl) (by kernel_rfl) ((Below.refl _ _).drew) ?_
        intro hN
        repeat (go_big_quiet_step (first | (go_at_call 14; exact calm_call (pdigits _ n h1n h2n _ (HTU.out _)) (fun w' hs hr => hs.trans (hr.mono hs.size))) | (go_at_call 13; exact calm_call (ptrim _ _ _) (fun w' hs hr => hr ▸ hs))))
        refine wpQuiet_nil ?_
        intro u
        have bu := BQ.out.trans (u.h.mono BQ.out.size)
        clear hcx hcy HTU
        go_wp2_with fail
        go_ret2
        refine ⟨?_, bu⟩
        have e : Lib.trimPrefix (digits X n ++ digits Y n) [32] = safe a b n := by
          rw [trim_digits, safe, HXE.out, HYE.out]
          rw [if_pos HL.out]
        show Ending.returned (.tuple #[.string ⟨(Lib.trimPrefix (digits X n ++ digits Y n) [32]).toArray⟩, .int .i64 0]) = _
        rw [e]
      · have hl : ¬ Op.bytesLess b.toList a.toList = true := fun h => hc ((cmp_less _ _).2 h)
        have HL := Lib.hid hl; clear hl
        have KA := Lib.hid ka; have KB := Lib.hid kb
        go_wp2_with fail
        obtain ⟨X, HXe⟩ : ∃ X, X = a := ⟨_, rfl⟩
        obtain ⟨Y, HYe⟩ : ∃ Y, Y = b := ⟨_, rfl⟩
        obtain ⟨wq, hwq⟩ : ∃ x, x = w2 := ⟨_, rfl⟩
        have HX := Lib.hid (show hp wq w.heap.size = some (.cells (bv X) 23 (0, 0)) by rw [hwq, HXe]; exact KA.out)
        have HY := Lib.hid (show hp wq (w.heap.size + 1) = some (.cells (bv Y) 23 (0, 0)) by rw [hwq, HYe]; exact KB.out)
        have BQ := Lib.hid (show Below w.heap.size w wq by rw [hwq]; exact B1.out)
        rw [← hwq]
        have HXE := Lib.hid HXe; have HYE := Lib.hid HYe
        clear hwq ka kb KA KB B1 w2 HXe HYe
        have hcx : ∀ u : Held (fun W => Below wq.heap.size wq W), hp u.w w.heap.size = some (.cells (bv X) 23 (0, 0)) := fun u => By.below (T := 23) (k := X) HX.out u.h
        have hcy : ∀ u : Held (fun W => Below wq.heap.size wq W), hp u.w (w.heap.size + 1) = some (.cells (bv Y) 23 (0, 0)) := fun u => By.below (T := 23) (k := Y) HY.out u.h
        have HTU := Lib.hid (fun u : Held (fun W => Below wq.heap.size wq W) => (HT.out.below BQ.out).below u.h)
        have hcat : ¬ 9223372036854775807 < (digits X n).length + (digits Y n).length := by rw [digits_length, digits_length]; decide
        refine wp_region_calm (S := fun W => Below wq.heap.size wq W) (by kernel_rfl) (by kernel_rfl) ((Below.refl _ _).drew) ?_
        intro hN
        repeat (go_big_quiet_step (first | (go_at_call 14; exact calm_call (pdigits _ n h1n h2n _ (HTU.out _)) (fun w' hs hr => hs.trans (hr.mono hs.size))) | (go_at_call 13; exact calm_call (ptrim _ _ _) (fun w' hs hr => hr ▸ hs))))
        refine wpQuiet_nil ?_
        intro u
        have bu := BQ.out.trans (u.h.mono BQ.out.size)
        clear hcx hcy HTU
        go_wp2_with fail
        go_ret2
        refine ⟨?_, bu⟩
        have e : Lib.trimPrefix (digits X n ++ digits Y n) [32] = safe a b n := by
          rw [trim_digits, safe, HXE.out, HYE.out]
          rw [if_neg HL.out]
        show Ending.returned (.tuple #[.string ⟨(Lib.trimPrefix (digits X n ++ digits Y n) [32]).toArray⟩, .int .i64 0]) = _
        rw [e]
end Go.Proofs.YtjlhicopinhiaaaDoor.Ds
