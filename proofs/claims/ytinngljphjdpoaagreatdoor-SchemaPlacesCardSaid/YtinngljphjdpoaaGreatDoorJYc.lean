/- A schema's messages are read back as they were written: plain. -/
import Derived.Test.YtinngljphjdpoaaGreatDoorJYa
import Derived.Test.YtinngljphjdpoaaGreatDoorJRw
import Derived.Test.YtinngljphjdpoaaGreatDoorJEs
import Derived.Test.YtinngljphjdpoaaGreatDoorJCm
import Derived.Test.YtinngljphjdpoaaGreatDoorJRk
namespace Go.Proofs.YtinngljphjdpoaaGreatDoor.Yb
open Go.Proofs.YtinngljphjdpoaaGreatDoor Go.Proofs.YtinngljphjdpoaaGreatDoor.Nz Go.Proofs.YtinngljphjdpoaaGreatDoor.Sc Go.Proofs.YtinngljphjdpoaaGreatDoor.Ep Go.Proofs.YtinngljphjdpoaaGreatDoor.Gp Go.Proofs.YtinngljphjdpoaaGreatDoor.Hq Go.Proofs.YtinngljphjdpoaaGreatDoor.Gq Go.Proofs.YtinngljphjdpoaaGreatDoor.Ya Go.Proofs.YtinngljphjdpoaaGreatDoor.Gw Go.Proofs.YtinngljphjdpoaaGreatDoor.Gi Go.Proofs.YtinngljphjdpoaaGreatDoor.Es Go.Proofs.YtinngljphjdpoaaGreatDoor.Cm
set_option linter.unusedVariables false
set_option linter.unusedSimpArgs false
/-- The slots' numbers rise. -/
def AscGo : Int → List Slot → Prop
  | _, [] => True
  | last, t :: r => last < t.no ∧ AscGo t.no r
/-- A schema that can be, less than n levels deep. -/
def Sch : Nat → List Slot → Prop
  | 0, _ => False
  | n + 1, s => s.length ≤ 16 ∧ AscGo 0 s ∧ ∀ t ∈ s, 1 ≤ t.no ∧ t.no ≤ 536870911 ∧ bnd t = true ∧ t.most < 18446744073709551616 ∧ (nest t = true → Sch n t.sub)
/-- All numbers within are such. -/
def NumV : Nat → Vu.Va → Prop
  | 0, _ => False
  | n + 1, x => x.num < 18446744073709551616 ∧ ∀ y ∈ x.parts, NumV n y
theorem NumV.num {m : Nat} {x : Vu.Va} (h : NumV m x) : x.num < 18446744073709551616 := by
  cases m with
  | zero => exact h.elim
  | succ m => exact h.1
theorem NumV.part {m : Nat} {x y : Vu.Va} (h : NumV m x) (hy : y ∈ x.parts) : ∃ k, NumV k y := by
  cases m with
  | zero => exact h.elim
  | succ m => exact ⟨m, h.2 y hy⟩
theorem ex_fold (f : List Slot → Nat × Nat) : ∀ (s : List Slot) (p : Nat × Nat), s.foldl (fun p t => (p.1 + hd t + (exVal f t).1, p.2 + hd t + (exVal f t).2)) p = (p.1 + (exGo f s).1, p.2 + (exGo f s).2)
  | [], p => by simp [exGo]
  | t :: s, p => by
    simp only [List.foldl_cons, exGo]
    rw [ex_fold f s, ex_fold f s]
    simp only [Prod.mk.injEq]
    omega
theorem exGo_cons (f : List Slot → Nat × Nat) (t : Slot) (s : List Slot) : exGo f (t :: s) = (hd t + (exVal f t).1 + (exGo f s).1, hd t + (exVal f t).2 + (exGo f s).2) := by
  rw [exGo, List.foldl_cons, ex_fold]
  simp
/-- What is wrong with a slot's value. -/
def slotC (F : Nat → Nat → Int) (U : List UInt8 → Bool) (n : Nat) (deep : Int) (t : Slot) (x : Vu.Va) : Vu.Flt :=
  if t.kind = 8 then Vu.chk F U n t.sub x (deep + 1)
  else if Vu.isOf t x = false then (deep, t.no, 84)
  else if Vu.badOf F U t x x.parts.length ≠ 0 then (deep, t.no, Vu.badOf F U t x x.parts.length)
  else if t.kind = 9 then Vu.itemsGo (fun y => Vu.chk F U n t.sub y (deep + 1)) x.parts
  else (0, 0, 0)
theorem chk_succ (F : Nat → Nat → Int) (U : List UInt8 → Bool) (n : Nat) (s : List Slot) (v : Vu.Va) (deep : Int) : Vu.chk F U (n + 1) s v deep = if v.num ≠ 0 ∨ v.data.length ≠ 0 then (deep, 0, 84)
    else if v.parts.length ≠ s.length then (deep, 0, 81) else Vu.chkGo (slotC F U n deep) s v.parts := rfl
theorem slotC_ok {F : Nat → Nat → Int} {U : List UInt8 → Bool} {n : Nat} {deep : Int} {t : Slot} {x : Vu.Va} (h8 : t.kind ≠ 8) : (slotC F U n deep t x).2.2 = 0 ↔ (Vu.isOf t x = true ∧ Vu.badOf F U t x x.parts.length = 0 ∧ (t.kind = 9 → (Vu.itemsGo (fun y => Vu.chk F U n t.sub y (deep + 1)) x.parts).2.2 = 0)) := by
  unfold slotC
  rw [if_neg h8]
  cases hi : Vu.isOf t x with
  | false => simp
  | true =>
    rw [if_neg (by decide)]
    by_cases hb : Vu.badOf F U t x x.parts.length = 0
    · rw [if_neg (by simp [hb])]
      by_cases h9 : t.kind = 9
      · simp [h9, hb]
      · simp [h9, hb]
    · rw [if_pos hb]
      simp [hb]
theorem within0 {n a b : Nat} : Vu.within n a b = 0 ↔ a ≤ n ∧ n ≤ b := by unfold Vu.within; split <;> constructor <;> intro h <;> first | omega | rfl
theorem one_len (no ty : Int) (num : Nat) (data : List UInt8) : (Ep.one ⟨no, ty, num, data⟩).length = sz (8 * no.toNat + ty.toNat) + (if ty = 0 then sz num else if ty = 1 then 8 else if ty = 5 then 4 else fr data.length) := by
  unfold Ep.one
  simp only [List.length_append]
  split
  · rfl
  · split
    · simp [sz, low_length]
    · split
      · simp [sz, low_length]
      · simp [sz, fr]
theorem va_eta (x : Vu.Va) : x = .mk x.num x.data x.parts := by cases x; rfl
/-- What is said of a level. -/
def BackSaid (U : List UInt8 → Bool) (n : Nat) : Prop := ∀ (s : List Slot) (x : Vu.Va) (deep : Int) (m : Nat), Sch n s → (exSpan n s).2 ≤ 4194304 → (Vu.chk Vh.pF U n s x deep).2.2 = 0 → NumV m x →
  (exSpan n s).1 ≤ (encW n s x).length ∧ (encW n s x).length ≤ (exSpan n s).2 ∧ ∀ p, Rv.rdv U n s (encW n s x) p = ((0, 0, 0), x)
theorem items_ok {f : Vu.Va → Vu.Flt} : ∀ {l : List Vu.Va}, (Vu.itemsGo f l).2.2 = 0 ↔ ∀ y ∈ l, (f y).2.2 = 0
  | [] => by simp [Vu.itemsGo]
  | z :: r => by
    simp only [Vu.itemsGo]
    by_cases h1 : (f z).2.2 = 0
    · rw [if_neg (by simp [h1]), items_ok]
      simp [h1]
    · rw [if_pos h1]
      simp [h1]
/-- Items there and back. -/
theorem items_back (U : List UInt8 → Bool) (n : Nat) (sub : List Slot) : ∀ (l : List Vu.Va) (a b : Nat), (∀ y ∈ l, a ≤ (encW n sub y).length ∧ (encW n sub y).length ≤ b ∧ ∀ p, Rv.rdv U n sub (encW n sub y) p = ((0, 0, 0), y)) →
    l.length * fr a ≤ jsum (l.map (encW n sub)) ∧ jsum (l.map (encW n sub)) ≤ l.length * fr b ∧ ∀ p, Rv.iGo (Rv.rdv U n sub) (l.map (encW n sub)) p = ((0, 0, 0), l)
  | [], a, b, _ => by simp [jsum, Rv.iGo]
  | y :: l, a, b, h => by
    obtain ⟨h1, h2, h3⟩ := items_back U n sub l a b (fun z hz => h z (by simp [hz]))
    obtain ⟨g1, g2, g3⟩ := h y (by simp)
    have f1 := fr_mono g1
    have f2 := fr_mono g2
    unfold fr at f1 f2 h1 h2 ⊢
    simp only [List.map_cons, jsum, List.length_cons, Nat.add_mul]
    refine ⟨by omega, by omega, fun p => ?_⟩
    simp only [Rv.iGo]
    rw [g3, if_neg (by simp), h3]
theorem slot_back (U : List UInt8 → Bool) (n : Nat) (IH : BackSaid U n) (deep : Int) (t : Slot) (y : Vu.Va) (m : Nat) (last : Int) (h1 : 1 ≤ t.no) (h2 : t.no ≤ 536870911) (hb : bnd t = true) (hm : t.most < 18446744073709551616) (hs : nest t = true → Sch n t.sub)
    (hla : last < t.no) (hc : (slotC Vh.pF U n deep t y).2.2 = 0) (hN : NumV m y) (hx : (exVal (exSpan n) t).2 ≤ 4194304) :
    Ep.wrong (fdW (encW n) t y) last = 0 ∧ (fdW (encW n) t y).num < 18446744073709551616 ∧ (fdW (encW n) t y).data.length ≤ 4194304 ∧ ((fdW (encW n) t y).ty = 2 ∨ (fdW (encW n) t y).data = []) ∧
    hd t + (exVal (exSpan n) t).1 ≤ (Ep.one (fdW (encW n) t y)).length ∧ (Ep.one (fdW (encW n) t y)).length ≤ hd t + (exVal (exSpan n) t).2 ∧ ∀ p, Rv.rSlot U (Rv.rdv U n) t (fdW (encW n) t y) p = ((0, 0, 0), y) := by
  have hnum := hN.num
  have hkind := bnd_kind hb
  by_cases h8 : t.kind = 8
  · have hc' : (Vu.chk Vh.pF U n t.sub y (deep + 1)).2.2 = 0 := by unfold slotC at hc; rwa [if_pos h8] at hc
    have hw : wt t.kind = 2 := by rw [h8]; rfl
    have hv : exVal (exSpan n) t = (fr (exSpan n t.sub).1, fr (exSpan n t.sub).2) := by
      unfold exVal; simp [h8]
    rw [hv] at hx ⊢
    have hle : (exSpan n t.sub).2 ≤ fr (exSpan n t.sub).2 := by unfold fr; omega
    obtain ⟨g1, g2, g3⟩ := IH t.sub y (deep + 1) m (hs (by unfold nest; simp [h8])) (by simp only at hx; omega) hc' hN
    have hf : fdW (encW n) t y = ⟨t.no, 2, 0, encW n t.sub y⟩ := by
      unfold fdW numW datW; simp [h8, hw]
      rfl
    rw [hf]
    have hlen := encW_len n t.sub y
    refine ⟨?_, by simp, hlen, .inl rfl, ?_, ?_, fun p => ?_⟩
    · unfold Ep.wrong; simp only; rw [if_neg (by omega)]; rfl
    · rw [one_len]; unfold hd; rw [hw]
      have := fr_mono g1
      simp only [Int.reduceToNat]
      simp only [show ¬ (2 : Int) = 0 by decide, show ¬ (2 : Int) = 1 by decide, show ¬ (2 : Int) = 5 by decide, if_false]
      omega
    · rw [one_len]; unfold hd; rw [hw]
      have := fr_mono g2
      simp only [Int.reduceToNat]
      simp only [show ¬ (2 : Int) = 0 by decide, show ¬ (2 : Int) = 1 by decide, show ¬ (2 : Int) = 5 by decide, if_false]
      omega
    · unfold Rv.rSlot; rw [if_pos h8]; exact g3 _
  · obtain ⟨hi, hbad, h9c⟩ := (slotC_ok h8).1 hc
    by_cases h9 : t.kind = 9
    · have hw : wt t.kind = 2 := by rw [h9]; rfl
      have hv : exVal (exSpan n) t = (fr (t.least * fr (exSpan n t.sub).1), fr (t.most * fr (exSpan n t.sub).2)) := by
        unfold exVal; simp [h9]
      rw [hv] at hx ⊢
      simp only at hx
      have hit := items_ok.1 (h9c h9)
      unfold Vu.isOf at hi
      simp [h9] at hi
      unfold Vu.badOf at hbad
      simp [h9] at hbad
      obtain ⟨w1, w2⟩ := within0.1 hbad
      have hmm : t.most ≤ 4096 := by unfold bnd at hb; simp [h9] at hb; omega
      have hle : t.most * fr (exSpan n t.sub).2 ≤ fr (t.most * fr (exSpan n t.sub).2) := by unfold fr; omega
      have hlow : t.least * fr (exSpan n t.sub).1 ≤ y.parts.length * fr (exSpan n t.sub).1 := Nat.mul_le_mul_right _ w1
      have hupp : y.parts.length * fr (exSpan n t.sub).2 ≤ t.most * fr (exSpan n t.sub).2 := Nat.mul_le_mul_right _ w2
      obtain ⟨g1, g2, g3⟩ := items_back U n t.sub y.parts (exSpan n t.sub).1 (exSpan n t.sub).2 (fun z hz => by
        obtain ⟨k, hk⟩ := hN.part hz
        have hpos : 0 < y.parts.length := List.length_pos_of_mem hz
        have : 1 * fr (exSpan n t.sub).2 ≤ t.most * fr (exSpan n t.sub).2 := Nat.mul_le_mul_right _ (by omega)
        have h5 : (exSpan n t.sub).2 ≤ fr (exSpan n t.sub).2 := by unfold fr; omega
        exact IH t.sub z (deep + 1) k (hs (by unfold nest; simp [h9])) (by omega) (hit z hz) hk)
      have hjl := jbytes_len (y.parts.map (encW n t.sub))
      have hj : Ep.join (y.parts.map (encW n t.sub)) = jbytes (y.parts.map (encW n t.sub)) := by
        unfold Ep.join
        rw [if_pos]
        unfold joinE
        rw [if_neg (by simp; omega), if_neg (by omega)]
      have hf : fdW (encW n) t y = ⟨t.no, 2, 0, jbytes (y.parts.map (encW n t.sub))⟩ := by
        unfold fdW numW datW; simp [h9, hj]; rfl
      rw [hf]
      have hsp : Sp (jbytes (y.parts.map (encW n t.sub))) 0 = (y.parts.map (encW n t.sub), 0) := Sp_of _ 0 (by simp; omega) (fun z hz => by
        obtain ⟨q, -, rfl⟩ := List.mem_map.1 hz
        have := encW_len n t.sub q
        omega)
      refine ⟨?_, by simp, by simp only; omega, .inl rfl, ?_, ?_, fun p => ?_⟩
      · unfold Ep.wrong; simp only; rw [if_neg (by omega)]; rfl
      · rw [one_len]; unfold hd; rw [hw]
        have := fr_mono (show t.least * fr (exSpan n t.sub).1 ≤ (jbytes (y.parts.map (encW n t.sub))).length by omega)
        simp only [Int.reduceToNat]
        simp only [show ¬ (2 : Int) = 0 by decide, show ¬ (2 : Int) = 1 by decide, show ¬ (2 : Int) = 5 by decide, if_false]
        omega
      · rw [one_len]; unfold hd; rw [hw]
        have := fr_mono (show (jbytes (y.parts.map (encW n t.sub))).length ≤ t.most * fr (exSpan n t.sub).2 by omega)
        simp only [Int.reduceToNat]
        simp only [show ¬ (2 : Int) = 0 by decide, show ¬ (2 : Int) = 1 by decide, show ¬ (2 : Int) = 5 by decide, if_false]
        omega
      · have hse : sErr (jbytes (y.parts.map (encW n t.sub))) = 0 := by unfold sErr; rw [if_neg (by omega), hsp]
        unfold Rv.rSlot
        rw [if_neg h8, if_pos h9]
        simp only
        rw [if_neg (by rw [hse]; simp), hsp, if_neg (by simp only [List.length_map]; rw [hbad]; simp), g3]
        have := va_eta y
        rw [hi.1, hi.2] at this
        rw [← this]
    · by_cases h56 : t.kind = 5 ∨ t.kind = 6
      · have hw : wt t.kind = 2 := by rcases h56 with e | e <;> rw [e] <;> rfl
        have hv : exVal (exSpan n) t = (fr t.least, fr t.most) := by
          unfold exVal; rcases h56 with e | e <;> simp [e]
        rw [hv]
        have hi' := hi
        unfold Vu.isOf at hi'
        rw [if_pos h56] at hi'
        simp at hi'
        have hpl : y.parts.length = 0 := by simp [hi'.2]
        have hbad' := hbad
        unfold Vu.badOf at hbad'
        rw [if_neg (by omega), if_neg (by omega), if_pos h56] at hbad'
        split at hbad'
        · exact absurd hbad' (by decide)
        rename_i hwi
        simp only [ne_eq, Decidable.not_not] at hwi
        obtain ⟨w1, w2⟩ := within0.1 hwi
        have hmm : t.most ≤ 4194304 := by unfold bnd at hb; rcases h56 with e | e <;> simp [e] at hb <;> omega
        have hf : fdW (encW n) t y = ⟨t.no, 2, 0, y.data⟩ := by
          unfold fdW numW datW; rcases h56 with e | e <;> simp [e, wt]
        have hy : y = .mk 0 y.data [] := by
          have := va_eta y
          rw [hi'.1, hi'.2] at this
          exact this
        rw [hf]
        refine ⟨?_, by simp, by simp only; omega, .inl rfl, ?_, ?_, fun p => ?_⟩
        · unfold Ep.wrong; simp only; rw [if_neg (by omega)]; rfl
        · rw [one_len]; unfold hd; rw [hw]
          have := fr_mono w1
          simp only [Int.reduceToNat]
          simp only [show ¬ (2 : Int) = 0 by decide, show ¬ (2 : Int) = 1 by decide, show ¬ (2 : Int) = 5 by decide, if_false]
          omega
        · rw [one_len]; unfold hd; rw [hw]
          have := fr_mono w2
          simp only [Int.reduceToNat]
          simp only [show ¬ (2 : Int) = 0 by decide, show ¬ (2 : Int) = 1 by decide, show ¬ (2 : Int) = 5 by decide, if_false]
          omega
        · unfold Rv.rSlot
          rw [if_neg h8, if_neg h9]
          simp only
          rw [← hy]
          rw [hpl] at hbad
          rw [if_neg (by rw [hbad]; simp)]
      · have hi' := hi
        unfold Vu.isOf at hi'
        rw [if_neg h56, if_neg (by omega)] at hi'
        simp at hi'
        have hpl : y.parts.length = 0 := by simp [hi'.2]
        have hy : y = .mk y.num [] [] := by
          have := va_eta y
          rw [hi'.1, hi'.2] at this
          exact this
        have hf : fdW (encW n) t y = ⟨t.no, (wt t.kind : Nat), y.num, []⟩ := by
          unfold fdW numW datW
          rw [if_neg (by omega), if_neg (by omega), if_neg h8, if_neg h9]
        rw [hf]
        have hbad' := hbad
        rw [hpl] at hbad'
        unfold Vu.badOf at hbad
        have hval : (wt t.kind = 0 ∧ (exVal (exSpan n) t).1 ≤ sz y.num ∧ sz y.num ≤ (exVal (exSpan n) t).2) ∨ (wt t.kind = 1 ∧ exVal (exSpan n) t = (8, 8)) ∨ (wt t.kind = 5 ∧ exVal (exSpan n) t = (4, 4) ∧ y.num < 4294967296) := by
          rcases hkind with e | e | e | e | e | e | e | e | e
          · left
            simp [e] at hbad
            obtain ⟨w1, w2⟩ := within0.1 hbad
            refine ⟨by simp [e, wt], ?_, ?_⟩
            · simp [exVal, e]; exact sz_mono _ _ w1
            · simp [exVal, e]; exact sz_mono _ _ w2
          · right; right
            simp [e] at hbad
            obtain ⟨w1, w2⟩ := within0.1 hbad
            have : t.most ≤ 4294967295 := by unfold bnd at hb; simp [e] at hb; omega
            exact ⟨by simp [e, wt], by simp [exVal, e], by omega⟩
          · right; left
            exact ⟨by simp [e, wt], by simp [exVal, e]⟩
          · left
            simp [e] at hbad
            obtain ⟨w1, w2⟩ := within0.1 hbad
            have : sz y.num = 1 := sz_end (by omega)
            refine ⟨by simp [e, wt], ?_, ?_⟩
            · simp [exVal, e, this]
            · simp [exVal, e, this]
          · exact absurd (.inl e) h56
          · exact absurd (.inr e) h56
          · right; left
            exact ⟨by simp [e, wt], by simp [exVal, e]⟩
          · exact absurd e h8
          · exact absurd e h9
        refine ⟨?_, hnum, by simp, .inr rfl, ?_, ?_, fun p => ?_⟩
        · unfold Ep.wrong; simp only; rw [if_neg (by omega)]
          rcases hval with ⟨e, -⟩ | ⟨e, -⟩ | ⟨e, -, e2⟩
          · rw [e]; rfl
          · rw [e]; rfl
          · rw [e, if_neg (by decide), if_pos (by decide), if_neg]
            simp only [List.length_nil, ne_eq, not_true_eq_false, false_or, not_and]
            omega
        · rw [one_len]; unfold hd
          rcases hval with ⟨e, e2, e3⟩ | ⟨e, e2⟩ | ⟨e, e2, -⟩
          · rw [e]; simp; omega
          · rw [e, e2]; simp
          · rw [e, e2]; simp
        · rw [one_len]; unfold hd
          rcases hval with ⟨e, e2, e3⟩ | ⟨e, e2⟩ | ⟨e, e2, -⟩
          · rw [e]; simp; omega
          · rw [e, e2]; simp
          · rw [e, e2]; simp
        · unfold Rv.rSlot
          rw [if_neg h8, if_neg h9]
          simp only
          rw [← hy, if_neg (by rw [hbad']; simp)]
end Go.Proofs.YtinngljphjdpoaaGreatDoor.Yb
/- A schema's messages are read back as they were written, and what is read is written so: plain. -/
namespace Go.Proofs.YtinngljphjdpoaaGreatDoor.Yc
open Go.Proofs.YtinngljphjdpoaaGreatDoor Go.Proofs.YtinngljphjdpoaaGreatDoor.Nz Go.Proofs.YtinngljphjdpoaaGreatDoor.Sc Go.Proofs.YtinngljphjdpoaaGreatDoor.Ep Go.Proofs.YtinngljphjdpoaaGreatDoor.Gp Go.Proofs.YtinngljphjdpoaaGreatDoor.Hq Go.Proofs.YtinngljphjdpoaaGreatDoor.Gq Go.Proofs.YtinngljphjdpoaaGreatDoor.Ya Go.Proofs.YtinngljphjdpoaaGreatDoor.Yb Go.Proofs.YtinngljphjdpoaaGreatDoor.Gw Go.Proofs.YtinngljphjdpoaaGreatDoor.Gi Go.Proofs.YtinngljphjdpoaaGreatDoor.Es Go.Proofs.YtinngljphjdpoaaGreatDoor.Cm
set_option linter.unusedVariables false
set_option linter.unusedSimpArgs false
theorem rows_back (U : List UInt8 → Bool) (n : Nat) (IH : BackSaid U n) (deep : Int) : ∀ (s : List Slot) (parts : List Vu.Va) (last : Int), parts.length = s.length → AscGo last s → 0 ≤ last →
    (∀ t ∈ s, 1 ≤ t.no ∧ t.no ≤ 536870911 ∧ bnd t = true ∧ t.most < 18446744073709551616 ∧ (nest t = true → Sch n t.sub)) → (∀ y ∈ parts, ∃ k, NumV k y) → (Vu.chkGo (slotC Vh.pF U n deep) s parts).2.2 = 0 → (exGo (exSpan n) s).2 ≤ 4194304 →
    Ep.errGo last (List.zipWith (fdW (encW n)) s parts) = 0 ∧ (exGo (exSpan n) s).1 ≤ (Ep.bytes (List.zipWith (fdW (encW n)) s parts)).length ∧ (Ep.bytes (List.zipWith (fdW (encW n)) s parts)).length ≤ (exGo (exSpan n) s).2 ∧
    (∀ f ∈ List.zipWith (fdW (encW n)) s parts, f.num < 18446744073709551616 ∧ f.data.length ≤ 4194304 ∧ (f.ty = 2 ∨ f.data = [])) ∧ ∀ p, Rv.rGo (Rv.rSlot U (Rv.rdv U n)) s (List.zipWith (fdW (encW n)) s parts) p = ((0, 0, 0), parts)
  | [], [], last, _, _, _, _, _, _, _ => by simp [Ep.errGo, exGo, Ep.bytes, Rv.rGo]
  | [], y :: r, _, h, _, _, _, _, _, _ => by simp at h
  | t :: s, [], _, h, _, _, _, _, _, _ => by simp at h
  | t :: s, y :: parts, last, hl, ha, h0, ht, hN, hc, hx => by
    obtain ⟨t1, t2, t3, t4, t5⟩ := ht t (by simp)
    obtain ⟨k, hk⟩ := hN y (by simp)
    simp only [Vu.chkGo] at hc
    by_cases hz : (slotC Vh.pF U n deep t y).2.2 = 0
    · rw [if_neg (by simp [hz])] at hc
      rw [exGo_cons] at hx ⊢
      simp only at hx ⊢
      obtain ⟨g1, g2, g3, g4, g5, g6, g7⟩ := slot_back U n IH deep t y k last t1 t2 t3 t4 t5 ha.1 hz hk (by omega)
      obtain ⟨r1, r2, r3, r4, r5⟩ := rows_back U n IH deep s parts t.no (by simpa using hl) ha.2 (by omega) (fun u hu => ht u (by simp [hu])) (fun z hz => hN z (by simp [hz])) hc (by omega)
      have hno : (fdW (encW n) t y).no = t.no := rfl
      have hty : (fdW (encW n) t y).ty = (wt t.kind : Int) := rfl
      simp only [List.zipWith_cons_cons, Ep.errGo, Ep.bytes, List.length_append, hno]
      refine ⟨by rw [if_neg (by simp [g1]), r1], by omega, by omega, ?_, fun p => ?_⟩
      · intro f hf
        rcases List.mem_cons.1 hf with rfl | hf
        · exact ⟨g2, g3, g4⟩
        · exact r4 f hf
      · simp only [Rv.rGo]
        rw [if_neg (by simp [hno]), if_neg (by simp [hty]), g7, if_neg (by simp), r5]
    · rw [if_pos hz] at hc
      exact absurd hc hz
theorem len_zip (e : List Slot → Vu.Va → List UInt8) (s : List Slot) (p : List Vu.Va) (h : p.length = s.length) : (List.zipWith (fdW e) s p).length = s.length := by simp; omega
/-- There and back. -/
theorem back (U : List UInt8 → Bool) : ∀ n, BackSaid U n := by
  intro n
  induction n with
  | zero => exact fun s x deep m h => h.elim
  | succ n ih =>
    intro s x deep m hs hx hc hN
    obtain ⟨s1, s2, s3⟩ := hs
    rw [chk_succ] at hc
    split at hc
    · exact absurd hc (by simp)
    rename_i h1
    split at hc
    · exact absurd hc (by simp)
    rename_i h2
    simp only [ne_eq, Decidable.not_not] at h2
    have hx' : (exGo (exSpan n) s).2 ≤ 4194304 := hx
    obtain ⟨r1, r2, r3, r4, r5⟩ := rows_back U n ih deep s x.parts 0 h2 s2 (by omega) s3 (fun y hy => hN.part hy) hc hx'
    have hsl := sumL_le _ (fun f hf => (r4 f hf).2.2)
    have hlen := len_zip (encW n) s x.parts h2
    have henc : encW (n + 1) s x = Ep.bytes (List.zipWith (fdW (encW n)) s x.parts) := by
      unfold encW Ep.enc
      rw [if_pos]
      unfold Ep.encE
      rw [if_neg (by omega), if_neg (by simp [r1]), if_neg (by omega), if_neg (by omega)]
    rw [henc]
    refine ⟨r2, r3, fun p => ?_⟩
    have hD := D_of _ 0 0 r1 (by omega) (by rw [hlen]; omega) (fun f hf => ⟨(r4 f hf).1, by have := (r4 f hf).2.1; omega⟩) (by omega)
    have hw : wErr (Ep.bytes (List.zipWith (fdW (encW n)) s x.parts)) = 0 := by unfold wErr; rw [if_neg (by omega), hD]
    rw [Rv.rdv_succ, if_neg (by rw [hw]; simp), hD]
    simp only
    rw [r5]
    have := va_eta x
    simp only [not_or, ne_eq, Decidable.not_not] at h1
    rw [h1.1, List.eq_nil_of_length_eq_zero h1.2] at this
    rw [← this]
/-! ### What is read is written so -/
def OnlySaid (U : List UInt8 → Bool) (n : Nat) : Prop := ∀ (s : List Slot) (b : List UInt8) (p : Int) (deep : Int), Sch n s → (Rv.rdv U n s b p).1.2.2 = 0 →
  (Vu.chk Vh.pF U n s (Rv.rdv U n s b p).2 deep).2.2 = 0 ∧ encW n s (Rv.rdv U n s b p).2 = b ∧ wErr b = 0 ∧ (D b 0 0).fs.length = s.length ∧ (Rv.rdv U n s b p).1 = (0, 0, 0)
theorem items_only (U : List UInt8 → Bool) (n : Nat) (IH : OnlySaid U n) (deep : Int) (sub : List Slot) (hs : Sch n sub) : ∀ (l : List (List UInt8)) (p : Int), (Rv.iGo (Rv.rdv U n sub) l p).1.2.2 = 0 →
    (Rv.iGo (Rv.rdv U n sub) l p).2.map (encW n sub) = l ∧ (∀ y ∈ (Rv.iGo (Rv.rdv U n sub) l p).2, (Vu.chk Vh.pF U n sub y deep).2.2 = 0) ∧ (Rv.iGo (Rv.rdv U n sub) l p).1 = (0, 0, 0)
  | [], p, _ => by simp [Rv.iGo]
  | x :: l, p, h => by
    simp only [Rv.iGo] at h ⊢
    by_cases hz : (Rv.rdv U n sub x (p + sz x.length)).1.2.2 = 0
    · rw [if_neg (by simp [hz])] at h ⊢
      obtain ⟨g1, g2, g3, g4, g5⟩ := IH sub x (p + sz x.length) deep hs hz
      obtain ⟨i1, i2, i3⟩ := items_only U n IH deep sub hs l _ h
      refine ⟨by simp only [List.map_cons, g2, i1], fun y hy => ?_, i3⟩
      rcases List.mem_cons.1 hy with rfl | hy
      · exact g1
      · exact i2 y hy
    · rw [if_pos hz] at h
      exact absurd h hz
theorem wt_ne {t : Slot} (hb : bnd t = true) (h56 : ¬ (t.kind = 5 ∨ t.kind = 6)) (h8 : t.kind ≠ 8) (h9 : t.kind ≠ 9) : wt t.kind ≠ 2 := by
  have hk := bnd_kind hb
  intro hh
  unfold wt at hh
  repeat' split at hh
  all_goals omega
theorem slot_only (U : List UInt8 → Bool) (n : Nat) (IH : OnlySaid U n) (deep : Int) (t : Slot) (g : Ep.Fd) (p : Int) (hb : bnd t = true) (hs : nest t = true → Sch n t.sub) (hno : g.no = t.no) (hty : g.ty = (wt t.kind : Int)) (hg2 : g.ty = 2 → g.num = 0) (hg3 : g.ty ≠ 2 → g.data = [])
    (hr : (Rv.rSlot U (Rv.rdv U n) t g p).1.2.2 = 0) :
    fdW (encW n) t (Rv.rSlot U (Rv.rdv U n) t g p).2 = g ∧ (slotC Vh.pF U n deep t (Rv.rSlot U (Rv.rdv U n) t g p).2).2.2 = 0 ∧ (Rv.rSlot U (Rv.rdv U n) t g p).1 = (0, 0, 0) := by
  obtain ⟨no, ty, num, data⟩ := g
  simp only at hno hty hg2 hg3
  subst hno hty
  by_cases h8 : t.kind = 8
  · have hw : wt t.kind = 2 := by rw [h8]; rfl
    unfold Rv.rSlot at hr ⊢
    rw [if_pos h8] at hr ⊢
    simp only at hr ⊢
    obtain ⟨g1, g2, g3, g4, g5⟩ := IH t.sub data _ (deep + 1) (hs (by unfold nest; simp [h8])) hr
    refine ⟨?_, ?_, g5⟩
    · unfold fdW numW datW
      rw [if_pos (by simp [h8]), if_neg (by omega), if_pos h8, g2, hg2 (by rw [hw]; rfl)]
    · unfold slotC; rw [if_pos h8]; exact g1
  · by_cases h9 : t.kind = 9
    · have hw : wt t.kind = 2 := by rw [h9]; rfl
      unfold Rv.rSlot at hr ⊢
      rw [if_neg h8, if_pos h9] at hr ⊢
      simp only at hr ⊢
      by_cases he : sErr data = 0
      · rw [if_neg (by simp [he])] at hr ⊢
        by_cases hwi : Vu.within (Sp data 0).1.length t.least t.most = 0
        · rw [if_neg (by simp [hwi])] at hr ⊢
          simp only at hr ⊢
          obtain ⟨i1, i2, i3⟩ := items_only U n IH (deep + 1) t.sub (hs (by unfold nest; simp [h9])) _ _ hr
          generalize hI : Rv.iGo (Rv.rdv U n t.sub) (Sp data 0).1 _ = I at *
          have hdl : ¬ 4194304 < data.length := by
            intro hh
            unfold sErr at he
            rw [if_pos hh] at he
            exact absurd he (by decide)
          have hse : (Sp data 0).2 = 0 := by unfold sErr at he; rwa [if_neg hdl] at he
          have hall := Sp_all _ data 0 rfl hse
          have hcnt := Lr.S_len _ data 0 rfl (by omega)
          have hj : Ep.join (Sp data 0).1 = data := by
            have hjl := jbytes_len (Sp data 0).1
            rw [← hall] at hjl
            unfold Ep.join
            rw [if_pos, ← hall]
            unfold joinE
            rw [if_neg (by omega), if_neg (by omega)]
          refine ⟨?_, ?_, i3⟩
          · unfold fdW numW datW
            rw [if_pos (by simp [h9]), if_neg (by omega), if_neg h8, if_pos h9]
            simp only [Vu.Va.parts]
            rw [i1, hj, hg2 (by rw [hw]; rfl)]
          · refine (slotC_ok h8).2 ⟨?_, ?_, fun _ => ?_⟩
            · unfold Vu.isOf; simp [h9, Vu.Va.num, Vu.Va.data]
            · have hl : I.2.length = (Sp data 0).1.length := by rw [← i1]; simp
              unfold Vu.badOf; simp [h9, Vu.Va.parts, hl, hwi]
            · exact items_ok.2 i2
        · rw [if_pos hwi] at hr
          exact absurd hr (by simp)
      · rw [if_pos he] at hr
        exact absurd hr he
    · unfold Rv.rSlot at hr ⊢
      rw [if_neg h8, if_neg h9] at hr ⊢
      simp only at hr ⊢
      by_cases hbad : Vu.badOf Vh.pF U t (.mk num data []) 0 = 0
      · rw [if_neg (by simp [hbad])]
        refine ⟨?_, (slotC_ok h8).2 ⟨?_, hbad, fun h => absurd h h9⟩, rfl⟩
        · unfold fdW numW datW
          by_cases h56 : t.kind = 5 ∨ t.kind = 6
          · have hw : wt t.kind = 2 := by rcases h56 with e | e <;> rw [e] <;> rfl
            rw [if_pos (by omega), if_pos h56, hg2 (by rw [hw]; rfl)]
            rfl
          · rw [if_neg (by omega), if_neg h56, if_neg h8, if_neg h9]
            have hw := wt_ne hb h56 h8 h9
            rw [hg3 (by omega)]
            rfl
        · unfold Vu.isOf
          by_cases h56 : t.kind = 5 ∨ t.kind = 6
          · have hw : wt t.kind = 2 := by rcases h56 with e | e <;> rw [e] <;> rfl
            rw [if_pos h56]
            simp [Vu.Va.num, Vu.Va.parts, hg2 (by rw [hw]; rfl)]
          · rw [if_neg h56, if_neg (by omega)]
            have hw := wt_ne hb h56 h8 h9
            simp [Vu.Va.data, Vu.Va.parts, hg3 (by omega)]
      · rw [if_pos hbad] at hr
        exact absurd hr hbad
theorem rows_only (U : List UInt8 → Bool) (n : Nat) (IH : OnlySaid U n) (deep : Int) : ∀ (s : List Slot) (fs : List Ep.Fd) (p : Int), (∀ t ∈ s, bnd t = true ∧ (nest t = true → Sch n t.sub)) → (∀ f ∈ fs, (f.ty = 2 → f.num = 0) ∧ (f.ty ≠ 2 → f.data = [])) →
    (Rv.rGo (Rv.rSlot U (Rv.rdv U n)) s fs p).1.2.2 = 0 →
    List.zipWith (fdW (encW n)) s (Rv.rGo (Rv.rSlot U (Rv.rdv U n)) s fs p).2 = fs ∧ (Rv.rGo (Rv.rSlot U (Rv.rdv U n)) s fs p).2.length = s.length ∧ fs.length = s.length ∧ (Vu.chkGo (slotC Vh.pF U n deep) s (Rv.rGo (Rv.rSlot U (Rv.rdv U n)) s fs p).2).2.2 = 0 ∧ (Rv.rGo (Rv.rSlot U (Rv.rdv U n)) s fs p).1 = (0, 0, 0)
  | [], [], p, _, _, _ => by simp [Rv.rGo, Vu.chkGo]
  | [], f :: r, p, _, _, h => by simp [Rv.rGo] at h
  | t :: s, [], p, _, _, h => by simp [Rv.rGo] at h
  | t :: s, g :: fs, p, ht, hf, h => by
    simp only [Rv.rGo] at h ⊢
    by_cases h1 : g.no = t.no
    · rw [if_neg (by simp [h1])] at h ⊢
      by_cases h2 : g.ty = (wt t.kind : Int)
      · rw [if_neg (by simp [h2])] at h ⊢
        by_cases h3 : (Rv.rSlot U (Rv.rdv U n) t g p).1.2.2 = 0
        · rw [if_neg (by simp [h3])] at h ⊢
          obtain ⟨q1, q2, q3⟩ := slot_only U n IH deep t g p (ht t (by simp)).1 (ht t (by simp)).2 h1 h2 (hf g (by simp)).1 (hf g (by simp)).2 h3
          obtain ⟨r1, r2, r3, r4, r5⟩ := rows_only U n IH deep s fs _ (fun u hu => ht u (by simp [hu])) (fun u hu => hf u (by simp [hu])) h
          refine ⟨by simp only [List.zipWith_cons_cons, q1, r1], by simp [r2], by simp [r3], ?_, r5⟩
          simp only [Vu.chkGo]
          rw [if_neg (by simp [q2])]
          exact r4
        · rw [if_pos h3] at h
          exact absurd h h3
      · rw [if_pos h2] at h
        exact absurd h (by simp)
    · rw [if_pos h1] at h
      exact absurd h (by simp)
theorem only (U : List UInt8 → Bool) : ∀ n, OnlySaid U n := by
  intro n
  induction n with
  | zero => exact fun s b p deep h => h.elim
  | succ n ih =>
    intro s b p deep hs hr
    obtain ⟨s1, s2, s3⟩ := hs
    rw [Rv.rdv_succ] at hr ⊢
    by_cases he : wErr b = 0
    · rw [if_neg (by simp [he])] at hr ⊢
      simp only at hr ⊢
      have hbl : ¬ 4194304 < b.length := by
        intro hh
        unfold wErr at he
        rw [if_pos hh] at he
        exact absurd he (by decide)
      have hde : (D b 0 0).err = 0 := by unfold wErr at he; rwa [if_neg hbl] at he
      have hall := Rv.D_all _ b 0 0 rfl (by omega) hde
      have hfld := Rv.D_fld _ b 0 0 rfl (by omega)
      have hgood := D_good _ b 0 0 rfl (by omega) (by omega) hde
      obtain ⟨r1, r2, r3, r4, r5⟩ := rows_only U n ih deep s (D b 0 0).fs p (fun t ht => ⟨(s3 t ht).2.2.1, (s3 t ht).2.2.2.2⟩) (fun f hf => ⟨(hfld f hf).2.2.2.2.2.1, (hfld f hf).2.2.2.2.2.2⟩) hr
      refine ⟨?_, ?_, he, r3, r5⟩
      · rw [chk_succ, if_neg (by simp [Vu.Va.num, Vu.Va.data]), if_neg (by simp [Vu.Va.parts, r2])]
        exact r4
      · unfold encW
        simp only [Vu.Va.parts]
        rw [r1]
        have hsl := sumL_le (D b 0 0).fs (fun f hf => by
          by_cases h : f.ty = 2
          · exact .inl h
          · exact .inr ((hfld f hf).2.2.2.2.2.2 h))
        rw [← hall] at hsl
        unfold Ep.enc
        rw [if_pos, ← hall]
        unfold Ep.encE
        rw [if_neg (by omega), if_neg (by simp [hgood.1]), if_neg (by omega), ← hall, if_neg (by omega)]
    · rw [if_pos he] at hr
      exact absurd hr he
/-- Bytes that read, with anything behind them, do not read. -/
theorem no_more (U : List UInt8 → Bool) (n : Nat) (s : List Slot) (a c : List UInt8) (p q : Int) (hs : Sch n s) (hc : 0 < c.length) (ha : (Rv.rdv U n s a p).1.2.2 = 0) (hac : (Rv.rdv U n s (a ++ c) q).1.2.2 = 0) : False := by
  obtain ⟨-, -, a3, a4, -⟩ := only U n s a p 1 hs ha
  obtain ⟨-, -, b3, b4, -⟩ := only U n s (a ++ c) q 1 hs hac
  have hl : (a ++ c).length ≤ 100000000 := by
    unfold wErr at b3
    split at b3
    · exact absurd b3 (by decide)
    · omega
  have hla : ¬ 4194304 < a.length := by
    intro h; unfold wErr at a3; rw [if_pos h] at a3; exact absurd a3 (by decide)
  have hlc : ¬ 4194304 < (a ++ c).length := by
    intro h; unfold wErr at b3; rw [if_pos h] at b3; exact absurd b3 (by decide)
  have ea : (D a 0 0).err = 0 := by unfold wErr at a3; rwa [if_neg hla] at a3
  have eb : (D (a ++ c) 0 0).err = 0 := by unfold wErr at b3; rwa [if_neg hlc] at b3
  obtain ⟨la, h⟩ := D_app _ a c 0 0 rfl hl ea
  rw [h] at b4 eb
  simp only [List.length_append] at b4 eb
  have hz : (D c (0 + (D a 0 0).fs.length) la).fs.length = 0 := by omega
  have hcb := Rv.D_all _ c _ la rfl (by simp at hl; omega) eb
  rw [List.eq_nil_of_length_eq_zero hz] at hcb
  rw [hcb] at hc
  simp [Ep.bytes] at hc
end Go.Proofs.YtinngljphjdpoaaGreatDoor.Yc
