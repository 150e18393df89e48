/- A region that draws its order, whose first operations each yield one value in all worlds that meet S (calls among them), and whose last ones come in one forced order behind all those. No program in sight. -/
import Derived.Test.YtinngljphjdpoaaDoorJPa
import Derived.StillTailTactics
import Derived.Deep.RegionHeld3
namespace Go.Proofs.YtinngljphjdpoaaDoor.Pq
open Go Go.RowKit Go.Proofs.YtinngljphjdpoaaDoor.Pa
set_option linter.unusedVariables false
set_option linter.unusedSimpArgs false

section
variable {P : Program} {md : Region.Mode} {ops hd : Array Oper} {n : Nat} {listed L : Array Bool}
/-- The head's list of what has come up, beside the whole one. -/
structure Beside (listed L : Array Bool) (n : Nat) : Prop where
  size : L.size = n
  same : ∀ i, i < n → L[i]? = listed[i]?
theorem getD_of {i : Nat} {d : Bool} (h : L[i]? = listed[i]?) : L.getD i d = listed.getD i d := by simp [h]
theorem ready_head (ho : ∀ i, i < n → hd[i]? = ops[i]?) (inv : HeadInv md ops n listed) (hb : Beside listed L n) {i : Nat} (hi : i < n) : i ∈ Region.ready md ops listed ↔ i ∈ Region.ready md hd L := by
  have key : ∀ k, L.getD k false = listed.getD k false := by
    intro k
    by_cases hk : k < n
    · exact getD_of (hb.same k hk)
    · have h1 : L.getD k false = false := by simp [Array.getElem?_eq_none (show L.size ≤ k by rw [hb.size]; omega)]
      rw [h1]
      by_cases hs : k < ops.size
      · exact (getD_both (inv.tail k (by omega) hs)).symm
      · simp [Array.getElem?_eq_none (show listed.size ≤ k by rw [inv.size]; omega)]
  rw [mem_ready, mem_ready, getD_of (hb.same i hi), ho i hi]
  simp only [key]
theorem some_ready (hac : ∀ (j : Nat) (o : Oper), hd[j]? = some o → ∀ e ∈ o.after, e.on < j) (hsz : L.size ≤ hd.size) : ∀ i, i < L.size → L.getD i true = false → ∃ j, j ∈ Region.ready md hd L := by
  intro i
  induction i using Nat.strongRecOn with
  | _ i ih =>
    intro hi hun
    have ho : hd[i]? = some (hd[i]'(by omega)) := Array.getElem?_eq_getElem (by omega)
    by_cases hall : ∀ e ∈ (hd[i]'(by omega)).after, Region.binds md e = true → L.getD e.on false = true
    · exact ⟨i, mem_ready.2 ⟨hun, _, ho, hall⟩⟩
    · obtain ⟨e, h1⟩ := Classical.not_forall.1 hall
      obtain ⟨he, h2⟩ := Classical.not_forall.1 h1
      obtain ⟨hbd, h3⟩ := Classical.not_forall.1 h2
      have hlt := hac i _ ho e he
      refine ih e.on hlt (by omega) ?_
      have hx : e.on < L.size := by omega
      exact getD_in hx (by simpa using h3)
theorem count_set {i : Nat} {f : Nat} (hi : i < L.size) (hun : L.getD i true = false) (hc : L.toList.count false = f + 1) : (L.setIfInBounds i true).toList.count false = f := by
  have hl : L.toList[i]'(by simpa using hi) = false := by simpa [hi] using hun
  rw [Array.toList_setIfInBounds, List.count_set (by simpa using hi), hl, hc]
  simp
theorem any_of_head {C : World → Prop} {Qh : Act → Prop} {Q : Exit → Act → World → Prop} {g : Nat} (hs : Region.sinkB md ops n = true) (hc : Region.chainB md ops n = true) (hn : n < ops.size)
    (ho : ∀ i, i < n → hd[i]? = ops[i]?) (hsz : hd.size = n) (hgd : ∀ (i : Nat) (o : Oper), hd[i]? = some o → o.guard = none) (hac : ∀ (j : Nat) (o : Oper), hd[j]? = some o → ∀ e ∈ o.after, e.on < j)
    (htail : ∀ listed a w, listed.size = ops.size → (∀ i, i < n → listed[i]? = some true) → (∀ t, n ≤ t → t < ops.size → listed.getD t true = false) → C w → Qh a → wpAny P md ops Q g listed a w) :
    ∀ (f : Nat) (listed L : Array Bool) (a : Act) (w : World), HeadInv md ops n listed → Beside listed L n → L.toList.count false = f → C w → wpAnyQ P md hd C Qh f L a → wpAny P md ops Q (f + g) listed a w := by
  intro f
  induction f with
  | zero =>
    intro listed L a w inv hb hct hC h
    rw [Nat.zero_add]
    refine htail listed a w inv.size (fun i hi => ?_) inv.tail hC h.2
    have hiL : i < L.size := by rw [hb.size]; exact hi
    have hne : L[i] ≠ false := fun e => by
      have : false ∈ L.toList := by rw [← e]; simp
      exact absurd (List.count_pos_iff.2 this) (by omega)
    rw [← hb.same i hi, Array.getElem?_eq_getElem hiL]
    simpa using hne
  | succ f ih =>
    intro listed L a w inv hb hct hC h
    obtain ⟨i0, hi0, hun0⟩ : ∃ i, i < L.size ∧ L.getD i true = false := by
      have hm : false ∈ L.toList := List.count_pos_iff.1 (by omega)
      obtain ⟨i, hi, he⟩ := List.getElem_of_mem hm
      have hi' : i < L.size := by simpa using hi
      exact ⟨i, hi', by simpa [hi'] using he⟩
    have hi0n : i0 < n := by rw [← hb.size]; exact hi0
    have hunl : listed.getD i0 true = false := by rw [← getD_of (hb.same i0 hi0n)]; exact hun0
    rw [show f + 1 + g = (f + g) + 1 by omega]
    refine ⟨fun h0 => ?_, fun i hi => ?_⟩
    · obtain ⟨j, hj⟩ := some_ready (md := md) hac (by rw [hsz, hb.size]; exact Nat.le_refl _) i0 hi0 hun0
      have hjn : j < n := by
        obtain ⟨_, o, hoj, _⟩ := mem_ready.1 hj
        have := (Array.getElem?_eq_some_iff.1 hoj).1
        omega
      have := (ready_head ho inv hb hjn).2 hj
      rw [h0] at this
      cases this
    · have hin : i < n := by
        rcases Nat.lt_or_ge i n with h1 | h1
        · exact h1
        · exact absurd hi (tail_waits hs hc hn inv _ i0 rfl hi0n hunl i h1)
      have hi' := (ready_head ho inv hb hin).1 hi
      have hq := h.2 i hi'
      obtain ⟨hun, o, hoi, _⟩ := mem_ready.1 hi'
      have hgn := hgd i o hoi
      have hw : ∀ y, Region.wanted o y = true := fun y => by simp [Region.wanted, hgn]
      unfold qOp at hq
      simp only [hoi, hw, if_true] at hq
      unfold wpOp
      rw [← ho i hin, hoi]
      simp only [hw, if_true]
      refine .inl (Oper.wp_of_quiet hC (fun a' w' hw' hK => ?_) hq)
      refine ih (listed.setIfInBounds i true) (L.setIfInBounds i true) a' w' (inv.set hi hin) ⟨by simp [hb.size], fun k hk => ?_⟩ (count_set (by rw [hb.size]; exact hin) hun hct) hw' hK
      rw [Array.getElem?_setIfInBounds, Array.getElem?_setIfInBounds, hb.same k hk, hb.size, inv.size]
      by_cases hik : i = k
      · subst hik
        simp [hin, show i < ops.size by omega]
      · simp [hik]
/-- Is it such a region? -/
def tailB (l : List Oper) (n : Nat) : Bool :=
  decide (n < l.length) && Region.lexB .any (l.take n).toArray && Region.sinkB .any l.toArray n && Region.chainB .any l.toArray n &&
  ((l.take n).zipIdx.all fun x => x.1.guard.isNone && x.1.after.all fun e => decide (e.on < x.2)) &&
  Region.seqB .any l.toArray (l.length - n) n (Array.replicate n true ++ Array.replicate (l.length - n) false)
theorem wp_region_calm_tail {S : World → Prop} {id : Nat} {Q : Exit → Act → World → Prop} {a : Act} {w : World} {l : List Oper} (n : Nat) (hm : P.follows .mixedOrders = true) (hB : tailB l n = true)
    (hS : S w.drew) (h : Nonempty (Held S) → wpQuiet P (l.take n).toArray (fun W => ∃ u : Held S, W = u.w) (fun a' => ∀ u : Held S, wpList P l.toArray Q (l.drop n) a' u.w) (l.take n) a) : (Code.region id l.toArray true).wp P Q a w := by
  simp only [tailB, Bool.and_eq_true, decide_eq_true_eq] at hB
  obtain ⟨⟨⟨⟨⟨hn, hlex⟩, hs⟩, hc⟩, hall⟩, hseq⟩ := hB
  have hhead : ∀ (j : Nat) (o : Oper), (l.take n).toArray[j]? = some o → o.guard = none ∧ ∀ e ∈ o.after, e.on < j := by
    intro j o hj
    have hj' : (l.take n)[j]? = some o := by simpa using hj
    have hmem : (o, j) ∈ (l.take n).zipIdx := by
      rw [List.mem_iff_getElem?]
      exact ⟨j, by simp [List.getElem?_zipIdx, hj']⟩
    have := List.all_eq_true.1 hall _ hmem
    simp only [Bool.and_eq_true, Option.isNone_iff_eq_none] at this
    refine ⟨this.1, fun e he => ?_⟩
    have h2 := (Array.all_eq_true_iff_forall_mem.1 this.2) e he
    simpa using h2
  simp only [Region.lexB, Bool.and_eq_true] at hlex
  have htl : (l.take n).length = n := by simp; omega
  have hQ := wpAnyQ_lex (P := P) (C := fun W => ∃ u : Held S, W = u.w) (md := .any) hlex.1 (l.take n) 0 (Array.replicate (l.take n).toArray.size false) a (by simp) (by simpa using hlex.2) (h ⟨⟨w.drew, hS⟩⟩)
  refine wp_region_any hm ?_
  have hmain := any_of_head (P := P) (C := fun W => ∃ u : Held S, W = u.w) (Qh := fun a' => ∀ u : Held S, wpList P l.toArray Q (l.drop n) a' u.w) (md := .any) (ops := l.toArray) (hd := (l.take n).toArray) (n := n) (g := l.length - n) (Q := Q) hs hc (by simpa using hn)
    (fun i hi => by simp [List.getElem?_take, hi]) (by simp; omega) (fun i o hi => (hhead i o hi).1) (fun j o hj => (hhead j o hj).2)
    (fun listed a' w' hsz htrue hfalse hu hQh => by
      obtain ⟨u, rfl⟩ := hu
      have hl : listed = Array.replicate n true ++ Array.replicate (l.length - n) false := by
        apply Array.ext_getElem?
        intro i
        have hsz' : listed.size = l.length := by simpa using hsz
        by_cases hi : i < n
        · rw [htrue i hi, Array.getElem?_append_left (by simpa using hi)]
          simp [hi]
        · rw [Array.getElem?_append_right (by simp; omega)]
          by_cases hi2 : i < l.length
          · have h3 := hfalse i (by omega) (by simpa using hi2)
            have hil : i < listed.size := by omega
            have h4 : listed[i] = false := by simpa [hil] using h3
            rw [Array.getElem?_eq_getElem hil, h4, Array.getElem?_replicate, if_pos (by simp only [Array.size_replicate]; omega)]
          · rw [Array.getElem?_eq_none (by omega), Array.getElem?_eq_none (by simp; omega)]
      subst hl
      have := wpAny_of_seq (P := P) (md := .any) (Q' := Q) (l.drop n) n _ a' u.w (fun j => by simp [List.getElem?_drop]) (by simpa using hseq) (hQh u)
      simpa using this)
    n (Array.replicate l.toArray.size false) (Array.replicate n false) a { w with drawn := w.drawn + 1 }
    ⟨by simp, fun j oj _ hl => (by rw [getD_replicate_false] at hl; cases hl), fun t _ ht => getD_in (by simpa using ht) (getD_replicate_false _ _)⟩
    ⟨by simp, fun i hi => by simp [hi, show i < l.length by omega]⟩ (by simp) ⟨⟨w.drew, hS⟩, rfl⟩ (by simpa [htl] using hQ)
  rw [show n + (l.length - n) = l.toArray.size by simp; omega] at hmain
  exact hmain
end
end Go.Proofs.YtinngljphjdpoaaDoor.Pq
/- A region that draws its order and whose last operations come in one forced order behind all others: parted in two. No program in sight. -/
namespace Go.Proofs.YtinngljphjdpoaaDoor.Rg
open Go Go.RowKit Go.Proofs.YtinngljphjdpoaaDoor.Pa Go.Proofs.YtinngljphjdpoaaDoor.Pq
set_option linter.unusedVariables false
set_option linter.unusedSimpArgs false
section
variable {P : Program} {md : Region.Mode} {ops hd : Array Oper} {n : Nat} {listed L : Array Bool}
theorem wp_both {o : Oper} {a : Act} {w : World} {K K' : Act → World → Prop} {Q Q' : Exit → Act → World → Prop} (h : ∀ a w, K a w → K' a w) (hq : ∀ e a w, e ≠ .normal → Q e a w → Q' e a w) (hl : LetsOut Q → LetsOut Q')
    (hh : o.wp P a w K Q) : o.wp P a w K' Q' := by
  unfold Oper.wp at *
  generalize (execOp a.eval o).run P w = r at *
  cases r with
  | ok n w' =>
    cases n <;> simp only [Oper.upon] at hh ⊢
    case value v => exact h _ _ hh
    case skip => exact h _ _ hh
    case defer d => exact h _ _ hh
    case enter f args =>
      refine Calls.mono hh fun e w'' he => ?_
      cases e with
      | returned u => exact h _ _ he
      | panicked c => exact hq _ _ _ (by simp) he
      | outgrown => exact hl he
    case row row args => exact Rows.mono hh fun u w'' he => h _ _ he
  | halt x w' =>
    cases x <;> simp only [Oper.upon] at hh ⊢
    case panic u => exact hq _ _ _ (by simp) hh
theorem any_of_any {Q Qs : Exit → Act → World → Prop} {g : Nat} (hs : Region.sinkB md ops n = true) (hc : Region.chainB md ops n = true) (hn : n < ops.size)
    (ho : ∀ i, i < n → hd[i]? = ops[i]?) (hsz : hd.size = n) (hgd : ∀ (i : Nat) (o : Oper), hd[i]? = some o → o.guard = none) (hac : ∀ (j : Nat) (o : Oper), hd[j]? = some o → ∀ e ∈ o.after, e.on < j)
    (hq : ∀ e a w, e ≠ .normal → Qs e a w → Q e a w) (hl : LetsOut Qs → LetsOut Q)
    (htail : ∀ listed a w, listed.size = ops.size → (∀ i, i < n → listed[i]? = some true) → (∀ t, n ≤ t → t < ops.size → listed.getD t true = false) → Qs .normal a w → wpAny P md ops Q g listed a w) :
    ∀ (f : Nat) (listed L : Array Bool) (a : Act) (w : World), HeadInv md ops n listed → Beside listed L n → L.toList.count false = f → wpAny P md hd Qs f L a w → wpAny P md ops Q (f + g) listed a w := by
  intro f
  induction f with
  | zero =>
    intro listed L a w inv hb hct h
    rw [Nat.zero_add]
    refine htail listed a w inv.size (fun i hi => ?_) inv.tail h.2
    have hiL : i < L.size := by rw [hb.size]; exact hi
    have hne : L[i] ≠ false := fun e => by
      have : false ∈ L.toList := by rw [← e]; simp
      exact absurd (List.count_pos_iff.2 this) (by omega)
    rw [← hb.same i hi, Array.getElem?_eq_getElem hiL]
    simpa using hne
  | succ f ih =>
    intro listed L a w inv hb hct h
    obtain ⟨i0, hi0, hun0⟩ : ∃ i, i < L.size ∧ L.getD i true = false := by
      have hm : false ∈ L.toList := List.count_pos_iff.1 (by omega)
      obtain ⟨i, hi, he⟩ := List.getElem_of_mem hm
      have hi' : i < L.size := by simpa using hi
      exact ⟨i, hi', by simpa [hi'] using he⟩
    have hi0n : i0 < n := by rw [← hb.size]; exact hi0
    have hunl : listed.getD i0 true = false := by rw [← getD_of (hb.same i0 hi0n)]; exact hun0
    rw [show f + 1 + g = (f + g) + 1 by omega]
    refine ⟨fun h0 => ?_, fun i hi => ?_⟩
    · obtain ⟨j, hj⟩ := some_ready (md := md) hac (by rw [hsz, hb.size]; exact Nat.le_refl _) i0 hi0 hun0
      have hjn : j < n := by
        obtain ⟨_, o, hoj, _⟩ := mem_ready.1 hj
        have := (Array.getElem?_eq_some_iff.1 hoj).1
        omega
      have := (ready_head ho inv hb hjn).2 hj
      rw [h0] at this
      cases this
    · have hin : i < n := by
        rcases Nat.lt_or_ge i n with h1 | h1
        · exact h1
        · exact absurd hi (tail_waits hs hc hn inv _ i0 rfl hi0n hunl i h1)
      have hi' := (ready_head ho inv hb hin).1 hi
      have hop := h.2 i hi'
      obtain ⟨hun, o, hoi, _⟩ := mem_ready.1 hi'
      have hgn := hgd i o hoi
      have hw : ∀ y, Region.wanted o y = true := fun y => by simp [Region.wanted, hgn]
      unfold wpOp at hop ⊢
      rw [← ho i hin]
      simp only [hoi, hw, if_true] at hop ⊢
      rcases hop with hop | ⟨h1, h2⟩
      · refine .inl (wp_both (fun a' w' hK => ?_) hq hl hop)
        refine ih (listed.setIfInBounds i true) (L.setIfInBounds i true) a' w' (inv.set hi hin) ⟨by simp [hb.size], fun k hk => ?_⟩ (count_set (by rw [hb.size]; exact hin) hun hct) hK
        rw [Array.getElem?_setIfInBounds, Array.getElem?_setIfInBounds, hb.same k hk, hb.size, inv.size]
        by_cases hik : i = k
        · subst hik
          simp [hin, show i < ops.size by omega]
        · simp [hik]
      · exact .inr ⟨h1, hl h2⟩
/-- Is it such a region? -/
def splitB (l : List Oper) (n : Nat) : Bool :=
  decide (n < l.length) && Region.sinkB .any l.toArray n && Region.chainB .any l.toArray n &&
  ((l.take n).zipIdx.all fun x => x.1.guard.isNone && x.1.after.all fun e => decide (e.on < x.2)) &&
  Region.seqB .any l.toArray (l.length - n) n (Array.replicate n true ++ Array.replicate (l.length - n) false)
/-- What is asked behind the head: the tail, in its order. -/
def tailQ (P : Program) (l : List Oper) (n : Nat) (Q : Exit → Act → World → Prop) : Exit → Act → World → Prop
  | .normal, a, w => wpList P l.toArray Q (l.drop n) a w
  | e, a, w => Q e a w
theorem wp_region_split {id : Nat} {Q : Exit → Act → World → Prop} {a : Act} {w : World} {l : List Oper} (S : World → Prop) (n : Nat) (hm : P.follows .mixedOrders = true) (hB : splitB l n = true)
    (h : wpAnyH P .any (l.take n).toArray (tailQ P l n Q) S n (Array.replicate n false) a w.drew) : (Code.region id l.toArray true).wp P Q a w := by
  simp only [splitB, Bool.and_eq_true, decide_eq_true_eq] at hB
  obtain ⟨⟨⟨⟨hn, hs⟩, hc⟩, hall⟩, hseq⟩ := hB
  have hhead : ∀ (j : Nat) (o : Oper), (l.take n).toArray[j]? = some o → o.guard = none ∧ ∀ e ∈ o.after, e.on < j := by
    intro j o hj
    have hj' : (l.take n)[j]? = some o := by simpa using hj
    have hmem : (o, j) ∈ (l.take n).zipIdx := by
      rw [List.mem_iff_getElem?]
      exact ⟨j, by simp [List.getElem?_zipIdx, hj']⟩
    have := List.all_eq_true.1 hall _ hmem
    simp only [Bool.and_eq_true, Option.isNone_iff_eq_none] at this
    refine ⟨this.1, fun e he => ?_⟩
    have h2 := (Array.all_eq_true_iff_forall_mem.1 this.2) e he
    simpa using h2
  refine wp_region_any hm ?_
  have hmain := any_of_any (P := P) (Q := Q) (Qs := tailQ P l n Q) (md := .any) (ops := l.toArray) (hd := (l.take n).toArray) (n := n) (g := l.length - n) hs hc (by simpa using hn)
    (fun i hi => by simp [List.getElem?_take, hi]) (by simp; omega) (fun i o hi => (hhead i o hi).1) (fun j o hj => (hhead j o hj).2)
    (fun e a w he h => by cases e <;> first | exact absurd rfl he | exact h) (fun h => h)
    (fun listed a' w' hsz htrue hfalse hQh => by
      have hl : listed = Array.replicate n true ++ Array.replicate (l.length - n) false := by
        apply Array.ext_getElem?
        intro i
        have hsz' : listed.size = l.length := by simpa using hsz
        by_cases hi : i < n
        · rw [htrue i hi, Array.getElem?_append_left (by simpa using hi)]
          simp [hi]
        · rw [Array.getElem?_append_right (by simp; omega)]
          by_cases hi2 : i < l.length
          · have h3 := hfalse i (by omega) (by simpa using hi2)
            have hil : i < listed.size := by omega
            have h4 : listed[i] = false := by simpa [hil] using h3
            rw [Array.getElem?_eq_getElem hil, h4, Array.getElem?_replicate, if_pos (by simp only [Array.size_replicate]; omega)]
          · rw [Array.getElem?_eq_none (by omega), Array.getElem?_eq_none (by simp; omega)]
      subst hl
      have := wpAny_of_seq (P := P) (md := .any) (Q' := Q) (l.drop n) n _ a' w' (fun j => by simp [List.getElem?_drop]) (by simpa using hseq) hQh
      simpa using this)
    n (Array.replicate l.toArray.size false) (Array.replicate n false) a w.drew
    ⟨by simp, fun j oj _ hl => (by rw [getD_replicate_false] at hl; cases hl), fun t _ ht => getD_in (by simpa using ht) (getD_replicate_false _ _)⟩
    ⟨by simp, fun i hi => by simp [hi, show i < l.length by omega]⟩ (by simp) (wpAny_of_held _ _ _ _ h)
  rw [show n + (l.length - n) = l.toArray.size by simp; omega] at hmain
  exact hmain
/-- Number i comes up next, and no other can. -/
theorem anyH_one {Q : Exit → Act → World → Prop} {S : World → Prop} {i : Nat} {o : Oper} {fuel : Nat} {a : Act} {w : World} (hr : Region.ready md ops listed = [i]) (ho : ops[i]? = some o) (hg : o.guard = none)
    (h : ∀ K : Act → World → Prop, Shut (∀ a w, S w → wpAnyH P md ops Q S fuel (listed.setIfInBounds i true) a w → K a w) → Oper.wp P o a w K Q) : wpAnyH P md ops Q S (fuel + 1) listed a w := by
  refine wpAnyH_ready hr (by simp) (AllReadyH.cons ho (fun K hK => ?_) AllReadyH.nil)
  rw [if_pos (by simp [Region.wanted, hg])]
  exact h K (fun a w hS hW => hK.out a w hS (fun _ => hW))
end
end Go.Proofs.YtinngljphjdpoaaDoor.Rg
