/- The place of the first fault of a message's form lies within its bytes: plain. -/
import Derived.Test.YtinngljphjdpoaaGreatDoorJYa
import Derived.Test.YtinngljphjdpoaaGreatDoorJGd
import Derived.Test.YtinngljphjdpoaaGreatDoorJYc
namespace Go.Proofs.YtinngljphjdpoaaGreatDoor.Yd
open Go.Proofs.YtinngljphjdpoaaGreatDoor Go.Proofs.YtinngljphjdpoaaGreatDoor.Nz Go.Proofs.YtinngljphjdpoaaGreatDoor.Ep Go.Proofs.YtinngljphjdpoaaGreatDoor.Gp Go.Proofs.YtinngljphjdpoaaGreatDoor.Hp Go.Proofs.YtinngljphjdpoaaGreatDoor.Hq Go.Proofs.YtinngljphjdpoaaGreatDoor.Ya Go.Proofs.YtinngljphjdpoaaGreatDoor.Gw
set_option linter.unusedVariables false
set_option linter.unusedSimpArgs false
theorem D_off : ∀ (n : Nat) (l : List UInt8) (count : Nat) (last : Int), l.length = n → l.length ≤ 100000000 → (Ep.bytes (D l count last).fs).length + (D l count last).off ≤ l.length := by
  intro n
  induction n using Nat.strongRecOn with
  | _ n ih =>
    intro l count last hn hl
    by_cases h0 : 0 < l.length
    · obtain ⟨e, o, f, k, h⟩ : ∃ e o f k, fld l count last = (e, o, f, k) := ⟨_, _, _, _, rfl⟩
      by_cases hz : e = 0
      · subst hz
        have hk := fld_ok (o := 0) h hl
        rw [D_step h0 h hl]
        have := ih (l.drop k).length (by simp; omega) (l.drop k) (count + 1) f.no rfl (by simp; omega)
        have hkl := congrArg List.length hk.2.2.2.1
        simp only [List.length_take, List.length_drop] at hkl this
        simp only [Ep.bytes, List.length_append]
        omega
      · rw [D_bad h0 h hz]
        simp only [Ep.bytes, List.length_nil, Nat.zero_add]
        obtain ⟨e1, no, ty, k1, hh⟩ : ∃ e1 no ty k1, Gp.head l count last = (e1, no, ty, k1) := ⟨_, _, _, _, rfl⟩
        simp only [Gp.fld, hh] at h
        by_cases he : e1 = 0
        · subst he
          have hk := (head_ok hh).2.2.2.2.2.2.1
          simp only [ne_eq, not_true_eq_false, if_false] at h
          split at h
          · simp only [Prod.mk.injEq] at h; omega
          · simp only [Prod.mk.injEq] at h; omega
        · rw [if_pos he] at h
          simp only [Prod.mk.injEq] at h; omega
    · have : l = [] := List.eq_nil_of_length_eq_zero (by omega)
      subst this
      simp [D_nil, Ep.bytes]
theorem wAt_le (b : List UInt8) : 0 ≤ wAt b ∧ wAt b ≤ b.length := by
  unfold wAt
  split
  · omega
  · split
    · omega
    · have := D_off _ b 0 0 rfl (by omega)
      omega
end Go.Proofs.YtinngljphjdpoaaGreatDoor.Yd
/- Where the faults of reading and of checking are: plain. -/
namespace Go.Proofs.YtinngljphjdpoaaGreatDoor.Ye
open Go.Proofs.YtinngljphjdpoaaGreatDoor Go.Proofs.YtinngljphjdpoaaGreatDoor.Nz Go.Proofs.YtinngljphjdpoaaGreatDoor.Sc Go.Proofs.YtinngljphjdpoaaGreatDoor.Ep Go.Proofs.YtinngljphjdpoaaGreatDoor.Gp Go.Proofs.YtinngljphjdpoaaGreatDoor.Hp Go.Proofs.YtinngljphjdpoaaGreatDoor.Hq Go.Proofs.YtinngljphjdpoaaGreatDoor.Gq Go.Proofs.YtinngljphjdpoaaGreatDoor.Ya Go.Proofs.YtinngljphjdpoaaGreatDoor.Yb Go.Proofs.YtinngljphjdpoaaGreatDoor.Yc Go.Proofs.YtinngljphjdpoaaGreatDoor.Yd Go.Proofs.YtinngljphjdpoaaGreatDoor.Gw Go.Proofs.YtinngljphjdpoaaGreatDoor.Gi Go.Proofs.YtinngljphjdpoaaGreatDoor.Es Go.Proofs.YtinngljphjdpoaaGreatDoor.Cm
set_option linter.unusedVariables false
set_option linter.unusedSimpArgs false
/-- A fault of reading lies within the bytes. -/
def In (f : Vu.Flt) (p : Int) (len : Nat) : Prop := f.2.2 ≠ 0 → f.1 = 0 ∧ p ≤ f.2.1 ∧ f.2.1 ≤ p + len
def InSaid (U : List UInt8 → Bool) (n : Nat) : Prop := ∀ (s : List Slot) (b : List UInt8) (p : Int), In (Rv.rdv U n s b p).1 p b.length
theorem in_items {f : List UInt8 → Int → Vu.Flt × Vu.Va} (h : ∀ x p, In (f x p).1 p x.length) : ∀ (l : List (List UInt8)) (p : Int), In (Rv.iGo f l p).1 p (jbytes l).length
  | [], p => by intro h0; exact absurd rfl h0
  | x :: l, p => by
    intro h0
    simp only [Rv.iGo] at h0 ⊢
    simp only [jbytes, List.length_append]
    by_cases hz : (f x (p + sz x.length)).1.2.2 = 0
    · rw [if_neg (by simp [hz])] at h0 ⊢
      have := in_items h l _ h0
      unfold sz at *
      exact ⟨this.1, by simp only; omega, by simp only; omega⟩
    · rw [if_pos hz]
      have := h x (p + sz x.length) hz
      unfold sz at *
      exact ⟨this.1, by simp only; omega, by simp only; omega⟩
theorem sAt_le (b : List UInt8) : 0 ≤ sAt b ∧ sAt b ≤ b.length := Lr.sAt_le b
theorem S_bytes (l : List UInt8) : (jbytes (Sp l 0).1).length ≤ l.length := by
  obtain ⟨r, hr⟩ := Lr.S_bytes _ l 0 rfl
  have := congrArg List.length hr
  simp at this
  omega
theorem in_slot (U : List UInt8 → Bool) (n : Nat) (IH : InSaid U n) (t : Slot) (g : Ep.Fd) (p : Int) (hty : g.ty = (wt t.kind : Int)) : In (Rv.rSlot U (Rv.rdv U n) t g p).1 p (Ep.one g).length := by
  intro h0
  have hone := one_len g.no g.ty g.num g.data
  rw [← fd_eta] at hone
  unfold Rv.rSlot at h0 ⊢
  by_cases h8 : t.kind = 8
  · have hw : wt t.kind = 2 := by rw [h8]; rfl
    rw [if_pos h8] at h0 ⊢
    rw [hw] at hty
    rw [hty] at hone
    simp only [Int.reduceToNat, show ¬ ((2 : Nat) : Int) = 0 by decide, show ¬ ((2 : Nat) : Int) = 1 by decide, show ¬ ((2 : Nat) : Int) = 5 by decide, if_false] at hone
    have := IH t.sub g.data _ h0
    unfold Rv.inPl at this ⊢
    rw [hty] at this ⊢
    unfold fr at hone
    refine ⟨this.1, by have := this.2.1; omega, ?_⟩
    have h2 := this.2.2
    have e : (((2 : Nat) : Int)).toNat = 2 := rfl
    rw [e] at h2 hone ⊢
    omega
  · rw [if_neg h8] at h0 ⊢
    by_cases h9 : t.kind = 9
    · have hw : wt t.kind = 2 := by rw [h9]; rfl
      rw [if_pos h9] at h0 ⊢
      rw [hw] at hty
      rw [hty] at hone
      simp only [show ¬ ((2 : Nat) : Int) = 0 by decide, show ¬ ((2 : Nat) : Int) = 1 by decide, show ¬ ((2 : Nat) : Int) = 5 by decide, if_false] at hone
      have e : (((2 : Nat) : Int)).toNat = 2 := rfl
      have hin : Rv.inPl g p = p + sz (8 * g.no.toNat + 2) + sz g.data.length := by unfold Rv.inPl; rw [hty]; rfl
      rw [hin] at h0 ⊢
      rw [e] at hone
      unfold fr at hone
      by_cases he : sErr g.data = 0
      · rw [if_neg (by simp [he])] at h0 ⊢
        by_cases hwi : Vu.within (Sp g.data 0).1.length t.least t.most = 0
        · rw [if_neg (by simp [hwi])] at h0 ⊢
          have := in_items (fun x p => IH t.sub x p) (Sp g.data 0).1 _ h0
          have h3 := S_bytes g.data
          simp only at this ⊢
          exact ⟨this.1, by have := this.2.1; omega, by have := this.2.2; omega⟩
        · rw [if_pos hwi]
          exact ⟨rfl, by simp only; omega, by simp only; omega⟩
      · rw [if_pos he]
        have := sAt_le g.data
        exact ⟨rfl, by simp only; omega, by simp only; omega⟩
    · rw [if_neg h9] at h0 ⊢
      by_cases hb : Vu.badOf Vh.pF U t (.mk g.num g.data []) 0 = 0
      · rw [if_neg (by simp [hb])] at h0
        exact absurd rfl h0
      · rw [if_pos hb]
        exact ⟨rfl, by simp only; omega, by simp only; omega⟩
theorem in_rows (U : List UInt8 → Bool) (n : Nat) (IH : InSaid U n) : ∀ (s : List Slot) (fs : List Ep.Fd) (p : Int), In (Rv.rGo (Rv.rSlot U (Rv.rdv U n)) s fs p).1 p (Ep.bytes fs).length
  | [], [], p => by intro h0; exact absurd rfl h0
  | [], f :: r, p => by intro _; exact ⟨rfl, by simp only [Rv.rGo]; omega, by simp only [Rv.rGo]; omega⟩
  | t :: s, [], p => by intro _; exact ⟨rfl, by simp only [Rv.rGo]; omega, by simp only [Rv.rGo]; omega⟩
  | t :: s, g :: fs, p => by
    intro h0
    simp only [Rv.rGo] at h0 ⊢
    simp only [Ep.bytes, List.length_append]
    by_cases h1 : g.no = t.no
    · rw [if_neg (by simp [h1])] at h0 ⊢
      by_cases h2 : g.ty = (wt t.kind : Int)
      · rw [if_neg (by simp [h2])] at h0 ⊢
        by_cases h3 : (Rv.rSlot U (Rv.rdv U n) t g p).1.2.2 = 0
        · rw [if_neg (by simp [h3])] at h0 ⊢
          have := in_rows U n IH s fs _ h0
          exact ⟨this.1, by have := this.2.1; simp only; omega, by have := this.2.2; simp only; omega⟩
        · rw [if_pos h3]
          have := in_slot U n IH t g p h2 h3
          exact ⟨this.1, this.2.1, by have := this.2.2; simp only; omega⟩
      · rw [if_pos h2]
        exact ⟨rfl, by simp only; omega, by simp only; omega⟩
    · rw [if_pos h1]
      exact ⟨rfl, by simp only; omega, by simp only; omega⟩
theorem inside (U : List UInt8 → Bool) : ∀ n, InSaid U n := by
  intro n
  induction n with
  | zero => intro s b p h; exact absurd rfl h
  | succ n ih =>
    intro s b p h0
    rw [Rv.rdv_succ] at h0 ⊢
    by_cases he : wErr b = 0
    · rw [if_neg (by simp [he])] at h0 ⊢
      have hbl : ¬ 4194304 < b.length := by
        intro hh
        unfold wErr at he
        rw [if_pos hh] at he
        exact absurd he (by decide)
      have hde : (D b 0 0).err = 0 := by unfold wErr at he; rwa [if_neg hbl] at he
      have hall := Rv.D_all _ b 0 0 rfl (by omega) hde
      have := in_rows U n ih s (D b 0 0).fs p h0
      rw [← hall] at this
      exact this
    · rw [if_pos he]
      have := wAt_le b
      exact ⟨rfl, by simp only; omega, by simp only; omega⟩
/-! ### Checking -/
/-- A fault of checking: at a line, of a slot, by one of three reasons. -/
def CIn (f : Vu.Flt) (a b : Int) : Prop := f.2.2 ≠ 0 → a ≤ f.1 ∧ f.1 ≤ b ∧ 0 ≤ f.2.1 ∧ f.2.1 ≤ 536870911 ∧ (f.2.2 = 81 ∨ f.2.2 = 83 ∨ f.2.2 = 84)
theorem within_c (n a b : Nat) : Vu.within n a b = 0 ∨ Vu.within n a b = 83 := by unfold Vu.within; split <;> simp
theorem c_items {f : Vu.Va → Vu.Flt} {a b : Int} (h : ∀ y, CIn (f y) a b) : ∀ (l : List Vu.Va), CIn (Vu.itemsGo f l) a b
  | [] => by intro h0; exact absurd rfl h0
  | y :: l => by
    simp only [Vu.itemsGo]
    by_cases hz : (f y).2.2 = 0
    · rw [if_neg (by simp [hz])]; exact c_items h l
    · rw [if_pos hz]; exact h y
theorem c_rows {f : Slot → Vu.Va → Vu.Flt} {a b : Int} : ∀ (s : List Slot) (l : List Vu.Va), (∀ t ∈ s, ∀ y, CIn (f t y) a b) → CIn (Vu.chkGo f s l) a b
  | [], _, _ => by intro h0; exact absurd rfl h0
  | _ :: _, [], _ => by intro h0; exact absurd rfl h0
  | t :: s, y :: l, h => by
    simp only [Vu.chkGo]
    by_cases hz : (f t y).2.2 = 0
    · rw [if_neg (by simp [hz])]; exact c_rows s l (fun u hu => h u (by simp [hu]))
    · rw [if_pos hz]; exact h t (by simp) y
theorem c_chk (F : Nat → Nat → Int) (hF : ∀ a b, F a b = 0 ∨ F a b = 83 ∨ F a b = 84) (U : List UInt8 → Bool) : ∀ (k n : Nat) (s : List Slot) (v : Vu.Va) (deep : Int), okL k s → CIn (Vu.chk F U n s v deep) deep (deep + (k : Int) - 1)
  | 0, _, _, _, _, h => h.elim
  | k + 1, 0, _, _, _, _ => by intro h0; exact absurd rfl h0
  | k + 1, n + 1, s, v, deep, hok => by
    rw [chk_succ]
    split
    · intro _; exact ⟨by simp only; omega, by simp only; omega, by simp only; omega, by simp only; omega, .inr (.inr rfl)⟩
    · split
      · intro _; exact ⟨by simp only; omega, by simp only; omega, by simp only; omega, by simp only; omega, .inl rfl⟩
      · refine c_rows s v.parts (fun t ht y => ?_)
        obtain ⟨t1, t2, t3, t4, t5⟩ := hok.2 t ht
        have hrec : nest t = true → ∀ z, CIn (Vu.chk F U n t.sub z (deep + 1)) deep (deep + ((k + 1 : Nat) : Int) - 1) := fun hn z h0 => by
          have := c_chk F hF U k n t.sub z (deep + 1) (t4 hn) h0
          exact ⟨by omega, by omega, this.2.2⟩
        unfold slotC
        split
        · rename_i h8; exact hrec (by unfold nest; simp [h8]) y
        · split
          · intro _; exact ⟨by simp only; omega, by simp only; omega, by simp only; omega, by simp only; omega, .inr (.inr rfl)⟩
          · split
            · rename_i hb
              intro _
              refine ⟨by simp only; omega, by simp only; omega, by simp only; omega, by simp only; omega, ?_⟩
              simp only
              unfold Vu.badOf at hb ⊢
              have w1 := within_c y.num 0 1
              have w2 := hF y.num t.most
              have w3 := within_c y.parts.length t.least t.most
              have w4 := within_c y.num t.least t.most
              repeat' split
              all_goals first | omega | simp_all
            · split
              · rename_i h9; exact c_items (fun z => hrec (by unfold nest; simp [h9]) z) _
              · intro h0; exact absurd rfl h0
end Go.Proofs.YtinngljphjdpoaaGreatDoor.Ye
/- The document's example: a schema, a message of it, its bytes: plain. -/
namespace Go.Proofs.YtinngljphjdpoaaGreatDoor.Yl
open Go.Proofs.YtinngljphjdpoaaGreatDoor Go.Proofs.YtinngljphjdpoaaGreatDoor.Nz Go.Proofs.YtinngljphjdpoaaGreatDoor.Sc Go.Proofs.YtinngljphjdpoaaGreatDoor.Ep Go.Proofs.YtinngljphjdpoaaGreatDoor.Hq Go.Proofs.YtinngljphjdpoaaGreatDoor.Ya Go.Proofs.YtinngljphjdpoaaGreatDoor.Yb Go.Proofs.YtinngljphjdpoaaGreatDoor.Yc Go.Proofs.YtinngljphjdpoaaGreatDoor.Gw Go.Proofs.YtinngljphjdpoaaGreatDoor.Es Go.Proofs.YtinngljphjdpoaaGreatDoor.Cm
set_option linter.unusedVariables false
set_option linter.unusedSimpArgs false
def S0 : List Slot := [.mk 1 1 1 300 [], .mk 2 6 0 10 [], .mk 5 9 0 2 [.mk 1 4 0 0 []]]
def V0 : Vu.Va := .mk 0 [] [.mk 300 [] [], .mk 0 [97, 98] [], .mk 0 [] [.mk 0 [] [.mk 1 [] []]]]
def B0 : List UInt8 := [8, 172, 2, 18, 2, 97, 98, 42, 3, 2, 8, 1]
/-- A number's bytes by so many steps. -/
def numF : Nat → Nat → List UInt8
  | 0, n => [UInt8.ofNat n]
  | k + 1, n => if 128 ≤ n then UInt8.ofNat (n % 128 + 128) :: numF k (n / 128) else [UInt8.ofNat n]
theorem num_eq : ∀ (k n : Nat), n < 128 ^ (k + 1) → num n = numF k n
  | 0, n, h => by rw [num_end (by omega)]; rfl
  | k + 1, n, h => by
    unfold numF
    by_cases hn : 128 ≤ n
    · rw [num_step hn, if_pos hn, num_eq k (n / 128) (by rw [Nat.div_lt_iff_lt_mul (by omega), ← Nat.pow_succ]; exact h)]
    · rw [num_end hn, if_neg hn]
theorem num_2 {n : Nat} (h : n < 16384) : num n = numF 1 n := num_eq 1 n h
theorem sz_2 {n : Nat} (h : n < 16384) : sz n = (numF 1 n).length := by unfold sz; rw [num_2 h]
theorem span0 : exSpan 3 S0 = (6, 23) := by
  have e1 : sz 8 = 1 := by rw [sz_2 (by decide)]; rfl
  have e2 : sz 300 = 2 := by rw [sz_2 (by decide)]; rfl
  have e3 : sz 1 = 1 := by rw [sz_2 (by decide)]; rfl
  have e4 : sz 18 = 1 := by rw [sz_2 (by decide)]; rfl
  have e5 : sz 10 = 1 := by rw [sz_2 (by decide)]; rfl
  have e6 : sz 0 = 1 := by rw [sz_2 (by decide)]; rfl
  have e7 : sz 42 = 1 := by rw [sz_2 (by decide)]; rfl
  have e8 : sz 2 = 1 := by rw [sz_2 (by decide)]; rfl
  have e9 : sz 6 = 1 := by rw [sz_2 (by decide)]; rfl
  simp [S0, exSpan, exGo, hd, exVal, fr, Slot.kind, Slot.no, Slot.least, Slot.most, Slot.sub, wt, e1, e2, e3, e4, e5, e6, e7, e8, e9]
theorem valid0 : valid 3 S0 = 0 := by
  unfold valid
  rw [if_neg (by decide), span0, if_neg (by decide)]
theorem span0p : pSpan 3 S0 = (6, 23) := by
  have := (spans_eq valid0).2.2.2.2
  rw [this, span0]
theorem chk0 (U : List UInt8 → Bool) (hU : U [97, 98] = true) : Vu.chk Vh.pF U 3 S0 V0 1 = (0, 0, 0) := by
  simp [S0, V0, Vu.chk, Vu.chkGo, Vu.itemsGo, Vu.isOf, Vu.badOf, Vu.within, Slot.kind, Slot.no, Slot.least, Slot.most, Slot.sub, Vu.Va.num, Vu.Va.data, Vu.Va.parts, hU]
theorem enc0 : encW 3 S0 V0 = B0 := by
  have e1 : num 8 = [8] := by rw [num_2 (by decide)]; rfl
  have e2 : num 300 = [172, 2] := by rw [num_2 (by decide)]; rfl
  have e3 : num 18 = [18] := by rw [num_2 (by decide)]; rfl
  have e4 : num 2 = [2] := by rw [num_2 (by decide)]; rfl
  have e5 : num 42 = [42] := by rw [num_2 (by decide)]; rfl
  have e6 : num 3 = [3] := by rw [num_2 (by decide)]; rfl
  have e7 : num 1 = [1] := by rw [num_2 (by decide)]; rfl
  simp [S0, V0, B0, encW, fdW, numW, datW, wt, Slot.kind, Slot.no, Slot.least, Slot.most, Slot.sub, Vu.Va.num, Vu.Va.data, Vu.Va.parts, Ep.enc, Ep.encE, Ep.errGo, Ep.wrong, Ep.sumL, Ep.bytes, Ep.one, Ep.join, Ep.joinE, Ep.jsum, Ep.jbytes, sz, e1, e2, e3, e4, e5, e6, e7]
theorem sch0 : Sch 3 S0 := by
  refine ⟨by decide, by simp [S0, AscGo, Slot.no], fun t ht => ?_⟩
  simp only [S0, List.mem_cons, List.not_mem_nil, or_false] at ht
  rcases ht with rfl | rfl | rfl
  · exact ⟨by decide, by decide, by decide, by decide, fun h => by simp [nest, Slot.kind] at h⟩
  · exact ⟨by decide, by decide, by decide, by decide, fun h => by simp [nest, Slot.kind] at h⟩
  · refine ⟨by decide, by decide, by decide, by decide, fun _ => ⟨by decide, by simp [AscGo, Slot.no, Slot.sub], fun t ht => ?_⟩⟩
    simp only [Slot.sub, List.mem_cons, List.not_mem_nil, or_false] at ht
    subst ht
    exact ⟨by decide, by decide, by decide, by decide, fun h => by simp [nest, Slot.kind] at h⟩
theorem numv0 : NumV 4 V0 := by
  simp [V0, NumV, Vu.Va.num, Vu.Va.parts]
theorem back0 (U : List UInt8 → Bool) (hU : U [97, 98] = true) : Rv.rdv U 3 S0 B0 0 = ((0, 0, 0), V0) := by
  have := (back U 3 S0 V0 1 4 sch0 (by rw [span0]; decide) (by rw [chk0 U hU]) numv0).2.2 0
  rwa [enc0] at this
theorem half0 (U : List UInt8 → Bool) (hU : U [97, 98] = true) : (Rv.rdv U 3 S0 [8, 172, 2, 18, 2, 97] 0).1.2.2 ≠ 0 := by
  intro h
  exact no_more U 3 S0 [8, 172, 2, 18, 2, 97] [98, 42, 3, 2, 8, 1] 0 0 sch0 (by decide) h (by
    have := back0 U hU
    show (Rv.rdv U 3 S0 B0 0).1.2.2 = 0
    rw [this])
end Go.Proofs.YtinngljphjdpoaaGreatDoor.Yl
