/- pieces: what a range over a list's items is handed. -/
import Derived.Test.YtinngljphjdpoaaDoorJFs
import Derived.Test.YtinngljphjdpoaaDoorJYa
namespace Go.Proofs.YtinngljphjdpoaaDoor.Gt
open Go Go.RowKit Go.Proofs.YtinngljphjdpoaaDoor.Pa Go.Proofs.YtinngljphjdpoaaDoor.Pb Go.Proofs.YtinngljphjdpoaaDoor.Pf Go.Proofs.YtinngljphjdpoaaDoor.Nz Go.Proofs.YtinngljphjdpoaaDoor.Nm Go.Proofs.YtinngljphjdpoaaDoor.Ce Go.Proofs.YtinngljphjdpoaaDoor.Ea Go.Proofs.YtinngljphjdpoaaDoor.Gp Go.Proofs.YtinngljphjdpoaaDoor.Gn Go.Proofs.YtinngljphjdpoaaDoor.Gh Go.Proofs.YtinngljphjdpoaaDoor.Gs Go.Proofs.YtinngljphjdpoaaDoor.Hp Go.Proofs.YtinngljphjdpoaaDoor.Gq Go.Proofs.YtinngljphjdpoaaDoor.Rl
set_option linter.unusedVariables false
set_option linter.unusedSimpArgs false
/-- What a round leaves alone: the cells below n₁, but for one block. -/
def Kp (n1 bt : Nat) (A B : World) : Prop := A.heap.size ≤ B.heap.size ∧ ∀ (r : Nat) (c : Array Value) (t : TypeId) (fr : Nat × Nat), r < n1 → r ≠ bt → A.heap[r]? = some (.cells c t fr) → B.heap[r]? = some (.cells c t fr)
theorem Kp.trans {n1 bt : Nat} {A B C : World} (h : Kp n1 bt A B) (k : Kp n1 bt B C) : Kp n1 bt A C := ⟨Nat.le_trans h.1 k.1, fun r c t fr hr hne hc => k.2 r c t fr hr hne (h.2 r c t fr hr hne hc)⟩
theorem Kp.put {n1 bt : Nat} (A : World) (r : Nat) (o o' : Obj) (h : A.heap[r]? = some o) (ho : o.isCells = false) : Kp n1 bt A (A.putObj r o') := by
  refine ⟨by simp [World.putObj], fun q c t fr _ _ hc => ?_⟩
  by_cases e : q = r
  · subst e
    rw [h] at hc
    cases hc
    cases ho
  · exact (World.putObj_heap_other e).trans hc
/-- Bytes read as they did where their cells lie as they lay. -/
theorem rd_cells {A B : World} {v : Value} {l : List UInt8} (hv : Rd A v l) (hk : 0 < l.length → ∀ (k : Nat) (c : Array Value) (t : TypeId) (fr : Nat × Nat), v.ownBlock = some k → A.heap[k]? = some (.cells c t fr) → B.heap[k]? = some (.cells c t fr)) : Rd B v l := by
  obtain ⟨A', c, rfl, h1, h2, h3⟩ := hv
  refine ⟨A', c, rfl, h1, h2, fun h0 => ?_⟩
  obtain ⟨ad, rfl, hc⟩ := h3 h0
  refine ⟨ad, rfl, fun j u hu => ?_⟩
  have hbl : (ad.add j).block = ad.block := by unfold Addr.add; split <;> rfl
  have hcell := hc j u hu
  unfold World.cell? at hcell ⊢
  rw [hbl] at hcell ⊢
  cases ho : A.heap[ad.block]? with
  | none => simp [ho] at hcell
  | some o =>
    cases o with
    | cells c' t fr =>
      rw [ho] at hcell
      rw [hk h0 _ _ _ _ rfl ho]
      exact hcell
    | _ => simp [ho] at hcell
/-- A step that turns one block of cells. -/
def St (r : Nat) (A B : World) : Prop := A.grownBy B (some r) ∧ ∃ c t fr, A.heap[r]? = some (.cells c t fr)
def Ab (ba bw : Nat) (A B : World) : Prop := St ba A B ∨ St bw A B
theorem Ab.others {ba bw : Nat} {A B : World} (h : Ab ba bw A B) (r : Nat) (o : Obj) (hr : A.heap[r]? = some o) (ho : o.isCells = false) : B.heap[r]? = some o := by
  have key : ∀ q, St q A B → B.heap[r]? = some o := by
    rintro q ⟨hg, c, t, fr, hc⟩
    have hne : some q ≠ some r := by
      intro e
      cases e
      rw [hr] at hc
      cases hc
      cases ho
    rw [hg.block r (Array.getElem?_eq_some_iff.1 hr).1 (fun e => hne e.symm)]
    exact hr
  rcases h with h | h
  · exact key _ h
  · exact key _ h
theorem own_mid' {A : Option Addr} {n c lo hi : Nat} {k : Nat} (h : (Value.slice (if c = lo then A else A.map (·.add lo)) (hi - lo) (c - lo)).ownBlock = some k) : (Value.slice A n c).ownBlock = some k := by
  cases A with
  | none => split at h <;> simp [Value.ownBlock] at h
  | some ad =>
    have hb : (ad.add lo).block = ad.block := by unfold Addr.add; split <;> rfl
    split at h
    · simpa [Value.ownBlock] using h
    · simpa [Value.ownBlock, hb] using h
theorem at11 {P : Program} {ops : Array Oper} {y : Code} {n : Nat} {Q : Exit → Act → World → Prop} {a : Act} {w : World} (h : ∀ K : Act → World → Prop, (∀ a w, y.wp P Q a w → K a w) → (Code.region 11 ops false).wpIn Fence.wide n P (Exit.then K Q) a w) : (Code.seq (Code.region 11 ops false) y).wp P Q a w :=
  wpIn_wide.1 (wpIn_seq_k (n := n) fun K hK => h K fun a w hy => hK a w (wpIn_wide.2 hy))
/-- An item as a round is handed it. -/
abbrev Ix := Value × List UInt8
def encI (x : Ix) : Array Value := #[x.1]
/-- The cells that the function leans on. -/
structure Held (v : Value) (b : List UInt8) (bx ca cy ba bw : Nat) (why : Int) (A : World) : Prop where
  hx : Pa.hp A bx = some (.cells #[v] 24 (0, 0))
  ha : Pa.hp A ca = some (.cells #[.pointer (some ⟨ba, 0, none⟩)] 96 (0, 0))
  hy : Pa.hp A cy = some (.cells #[.pointer (some ⟨bw, 0, none⟩)] 177 (0, 0))
  hat : ∃ z, Pa.hp A ba = some (.cells #[.int .i64 z] 3 (0, 0))
  hwhy : Pa.hp A bw = some (.cells #[.int .i64 why] 32 (0, 0))
  rd : Rd A v b
theorem Held.below {v : Value} {b : List UInt8} {bx ca cy ba bw : Nat} {why : Int} {A B : World} (h : Held v b bx ca cy ba bw why A) (hb : Below A.heap.size A B) : Held v b bx ca cy ba bw why B := by
  obtain ⟨z, hz⟩ := h.hat
  exact ⟨below_hp h.hx hb, below_hp h.ha hb, below_hp h.hy hb, ⟨z, below_hp hz hb⟩, below_hp h.hwhy hb, h.rd.below hb⟩
theorem Held.setA {v : Value} {b : List UInt8} {bx ca cy ba bw : Nat} {why : Int} {A : World} (h : Held v b bx ca cy ba bw why A) (d1 : bx ≠ ba ∧ bx ≠ bw ∧ ca ≠ ba ∧ ca ≠ bw ∧ cy ≠ ba ∧ cy ≠ bw ∧ ba ≠ bw) (hv : 0 < b.length → ∀ k, v.ownBlock = some k → k ≠ ba) (z : Int) :
    Held v b bx ca cy ba bw why (A.setCell ⟨ba, 0, none⟩ (.int .i64 z)) ∧ Pa.hp (A.setCell ⟨ba, 0, none⟩ (.int .i64 z)) ba = some (.cells #[.int .i64 z] 3 (0, 0)) ∧ St ba A (A.setCell ⟨ba, 0, none⟩ (.int .i64 z)) := by
  obtain ⟨z0, hz⟩ := h.hat
  have h1 := heap_setCell_same A ba 0 _ _ (.int .i64 z) hz
  refine ⟨⟨(hp_setCell_other _ _ _ d1.1).trans h.hx, (hp_setCell_other _ _ _ d1.2.2.1).trans h.ha, (hp_setCell_other _ _ _ d1.2.2.2.2.1).trans h.hy, ⟨z, h1⟩, (hp_setCell_other _ _ _ (Ne.symm d1.2.2.2.2.2.2)).trans h.hwhy, ?_⟩, h1, grown_set _ _ _ _, _, _, _, hz⟩
  exact rd_cells h.rd (fun h0 k c t fr hk hc => (heap_setCell_other _ _ _ _ (hv h0 k hk)).trans hc)
theorem Held.setW {v : Value} {b : List UInt8} {bx ca cy ba bw : Nat} {why : Int} {A : World} (h : Held v b bx ca cy ba bw why A) (d1 : bx ≠ ba ∧ bx ≠ bw ∧ ca ≠ ba ∧ ca ≠ bw ∧ cy ≠ ba ∧ cy ≠ bw ∧ ba ≠ bw) (hv : 0 < b.length → ∀ k, v.ownBlock = some k → k ≠ bw) (z : Int) :
    Held v b bx ca cy ba bw z (A.setCell ⟨bw, 0, none⟩ (.int .i64 z)) ∧ St bw A (A.setCell ⟨bw, 0, none⟩ (.int .i64 z)) ∧ (∀ q, q ≠ bw → Pa.hp (A.setCell ⟨bw, 0, none⟩ (.int .i64 z)) q = Pa.hp A q) := by
  obtain ⟨z0, hz⟩ := h.hat
  have h1 := heap_setCell_same A bw 0 _ _ (.int .i64 z) h.hwhy
  refine ⟨⟨(hp_setCell_other _ _ _ d1.2.1).trans h.hx, (hp_setCell_other _ _ _ d1.2.2.2.1).trans h.ha, (hp_setCell_other _ _ _ d1.2.2.2.2.2.1).trans h.hy, ⟨z0, (hp_setCell_other _ _ _ d1.2.2.2.2.2.2).trans hz⟩, h1, ?_⟩, ⟨grown_set _ _ _ _, _, _, _, h.hwhy⟩, fun q hq => hp_setCell_other _ _ _ hq⟩
  exact rd_cells h.rd (fun h0 k c t fr hk hc => (heap_setCell_other _ _ _ _ (hv h0 k hk)).trans hc)
theorem Held.kp {v : Value} {b : List UInt8} {bx ca cy ba bw bt n1 : Nat} {why : Int} {A B : World} (h : Held v b bx ca cy ba bw why A) (hk : Kp n1 bt A B)
    (n1x : bx < n1 ∧ bx ≠ bt) (n1a : ca < n1 ∧ ca ≠ bt) (n1y : cy < n1 ∧ cy ≠ bt) (n1b : ba < n1 ∧ ba ≠ bt) (n1w : bw < n1 ∧ bw ≠ bt) (n1v : 0 < b.length → ∀ k, v.ownBlock = some k → k < n1 ∧ k ≠ bt) : Held v b bx ca cy ba bw why B := by
  obtain ⟨z0, hz⟩ := h.hat
  exact ⟨hk.2 _ _ _ _ n1x.1 n1x.2 h.hx, hk.2 _ _ _ _ n1a.1 n1a.2 h.ha, hk.2 _ _ _ _ n1y.1 n1y.2 h.hy, ⟨z0, hk.2 _ _ _ _ n1b.1 n1b.2 hz⟩, hk.2 _ _ _ _ n1w.1 n1w.2 h.hwhy, rd_cells h.rd (fun h0 k c t fr hv hc => hk.2 _ _ _ _ (n1v h0 k hv).1 (n1v h0 k hv).2 hc)⟩
/-- What is left in the end. -/
def Fin (b : List UInt8) (ba bw : Nat) (xs : List Ix) (B : World) : Prop :=
  xs.map (·.2) = (Sp b 0).1 ∧ Pa.hp B bw = some (.cells #[.int .i64 (Sp b 0).2] 32 (0, 0)) ∧ ∃ z, Pa.hp B ba = some (.cells #[.int .i64 z] 3 (0, 0)) ∧ ((Sp b 0).2 ≠ 0 → z = ((Ep.jbytes (Sp b 0).1).length : Int))
set_option maxHeartbeats 2000000 in
set_option maxRecDepth 100000 in
theorem gives (m : Nat) (v : Value) (b : List UInt8) (bx ca cy ba bw bt n1 : Nat) (w : World) (hh : Held v b bx ca cy ba bw 0 w) (hb : b.length ≤ 4194304)
    (n1x : bx < n1 ∧ bx ≠ bt) (n1a : ca < n1 ∧ ca ≠ bt) (n1y : cy < n1 ∧ cy ≠ bt) (n1b : ba < n1 ∧ ba ≠ bt) (n1w : bw < n1 ∧ bw ≠ bt) (n1v : 0 < b.length → ∀ k, v.ownBlock = some k → k < n1 ∧ k ≠ bt ∧ k ≠ ba ∧ k ≠ bw)
    (d1 : bx ≠ ba ∧ bx ≠ bw ∧ ca ≠ ba ∧ ca ≠ bw ∧ cy ≠ ba ∧ cy ≠ bw ∧ ba ≠ bw) :
    Gives Tryd.prog m 89 #[.pointer (some ⟨bx, 0, none⟩), .pointer (some ⟨ca, 0, none⟩), .pointer (some ⟨cy, 0, none⟩)] encI (Ab ba bw) (Kp n1 bt)
      (fun pre x A => pre.length < 4096 ∧ Rd A x.1 x.2 ∧ x.2.length ≤ 4194304 ∧ ∀ k, x.1.ownBlock = some k → v.ownBlock = some k) (Fin b ba bw) w := by
  intro l J W hW hJ' hY' hj0
  have hh1 := hh.below hW
  obtain ⟨A, c, rfl, -⟩ := id hh.rd
  have hJ := Lib.hid hJ'; have hY := Lib.hid hY'; have HJ0 := Lib.hid hj0; have HH := Lib.hid hh1
  have D1 := Lib.hid d1; have N1V := Lib.hid n1v; have HB := Lib.hid hb
  clear hJ' hY' hj0 hh1 hh hW d1 n1v
  show Calls Tryd.prog 89 #[.func (.yield l) #[] #[], .pointer (some ⟨bx, 0, none⟩), .pointer (some ⟨ca, 0, none⟩), .pointer (some ⟨cy, 0, none⟩)] W _
  go_enter Tryd.func89, Tryd.ntmps89
  go_wp2_with fail
  go_loopw [5, 6] (fun t s wr => ∃ (p : Nat) (pre : List (List UInt8)) (xs : List Ix), t = .int .i64 pre.length ∧ s = .int .i64 p ∧ Gq.Far b p pre ∧ xs.map (·.2) = pre ∧ J xs wr ∧ Held (.slice A b.length c) b bx ca cy ba bw 0 wr) (fun _ s _ => b.length - (intOf s).toNat)
  case atStart => exact ⟨0, [], [], rfl, rfl, Gq.Far.zero b, rfl, HJ0.out, HH.out⟩
  case round =>
    obtain ⟨p, pre, xs, rfl, rfl, hfar, hxs, hj, hhd⟩ := hrel
    have d1 := D1.out; have n1v := N1V.out
    have FAR := Lib.hid hfar; have HXS := Lib.hid hxs; have HJW := Lib.hid hj; have HHW := Lib.hid hhd
    have hcx := fun i => hp_cell hhd.hx i
    have hca := fun i => hp_cell hhd.ha i
    have hpl := hfar.le
    by_cases hend : p = b.length
    · subst hend
      obtain ⟨q1, q2⟩ := hfar.done
      have hfin : ∃ xs : List Ix, Fin b ba bw xs wr ∧ J xs wr := by
        obtain ⟨z, hz⟩ := hhd.hat
        exact ⟨xs, ⟨by rw [hxs, q1], by rw [q2]; exact hhd.hwhy, z, hz, fun h => absurd q2 h⟩, hj⟩
      have HF := Lib.hid hfin
      clear hfin hhd hj hxs hfar d1 n1v
      go_wp2_with fail
      go_end0
      exact ⟨⟨_, rfl⟩, HF.out⟩
    · have hlt : p < b.length := by omega
      have hlti : (p : Int) < (b.length : Int) := by omega
      obtain ⟨z0, hz0⟩ := hhd.hat
      have hcz := fun i => hp_cell hz0 i
      have hfz := fun i => hp_frozen hz0 i
      obtain ⟨w1, hw1⟩ : ∃ y, y = wr.setCell ⟨ba, 0, none⟩ (.int .i64 (p : Int)) := ⟨_, rfl⟩
      have hs := hhd.setA d1 (fun h0 k hk => (n1v h0 k hk).2.2.1) (p : Int)
      rw [← hw1] at hs
      have HH1 := Lib.hid hs.1; have HA1 := Lib.hid hs.2.1
      have HJ1 := Lib.hid (hJ.out _ _ _ hj (.inl hs.2.2))
      obtain ⟨e1, n, k1, hr⟩ : ∃ e1 n k1, rdn (b.drop p) = (e1, n, k1) := ⟨_, _, _, rfl⟩
      have NUM := Lib.hid (number _ b p w1 hs.1.rd hpl (by have := HB.out; omega) e1 n k1 hr)
      have hcx1 := fun i => hp_cell hs.1.hx i
      have hcy1 := fun i => hp_cell hs.1.hy i
      have hcw1 := fun i => hp_cell hs.1.hwhy i
      have hfw1 := fun i => hp_frozen hs.1.hwhy i
      clear hfar hxs hj hhd hs hz0 hend
      go_wp2_with (go_at_call 9999)
      rw [← hw1]
      clear hw1 hcz hfz
      go_at_call 73
      refine NUM.out.mono ?_
      rintro _ w1' ⟨rfl, hww⟩
      rw [hww]
      clear hww
      by_cases c1 : pre.length = 4096
      · have hit : itm (b.drop p) pre.length = (2, [], 0) := by unfold itm; rw [if_pos c1]
        have herr : (2 : Int) ≠ 0 := by decide
        have c1i : (pre.length : Int) = 4096 := by omega
        have hw2 := (HH1.out).setW d1 (fun h0 k hk => (n1v h0 k hk).2.2.2) 2
        have hfin : ∃ xs : List Ix, Fin b ba bw xs (w1.setCell ⟨bw, 0, none⟩ (.int .i64 2)) ∧ J xs (w1.setCell ⟨bw, 0, none⟩ (.int .i64 2)) := by
          obtain ⟨q1, q2⟩ := FAR.out.bad hlt hit herr
          refine ⟨xs, ⟨by rw [HXS.out, q1], by rw [q2]; exact hw2.1.hwhy, (p : Int), ?_, fun _ => by rw [q1, ← FAR.out.at_]⟩, hJ.out _ _ _ HJ1.out (.inr hw2.2.1)⟩
          exact (hw2.2.2 ba d1.2.2.2.2.2.2).trans HA1.out
        have HF := Lib.hid hfin
        have hcw := fun i => hp_cell hw2.1.hwhy i
        have hcy := fun i => hp_cell hw2.1.hy i
        clear hfin hw2 hit d1 n1v HJ1 HH1
        go_wp2_with fail
        all_goals refine bodyPost_ret (results_none rfl _ _ _) rfl ?_
        all_goals exact ⟨⟨_, rfl⟩, HF.out⟩
      · have c1i : ¬ (pre.length : Int) = 4096 := by omega
        by_cases h1 : e1 = 0
        · subst h1
          have hne : numEnd 0 p k1 = ((p + k1 : Nat) : Int) := rfl
          rw [hne]
          obtain ⟨g1, g2, g3, g4⟩ := rdn_back hr
          simp only [List.length_drop] at g2
          by_cases c73 : b.length - p - k1 < n
          · have hit : itm (b.drop p) pre.length = (73, [], 0) := by
              unfold itm; rw [if_neg c1, hr]; simp only [List.length_drop]; rw [if_neg (by simp), if_pos c73]
            have herr : (73 : Int) ≠ 0 := by decide
            have hgt : (b.length : Int) - ((p : Int) + (k1 : Int)) < (n : Int) := by omega
            have hge : 0 ≤ (b.length : Int) - ((p : Int) + (k1 : Int)) := by omega
            clear hr NUM g4 hne
            have hw2 := (HH1.out).setW d1 (fun h0 k hk => (n1v h0 k hk).2.2.2) 73
            have hfin : ∃ xs : List Ix, Fin b ba bw xs (w1.setCell ⟨bw, 0, none⟩ (.int .i64 73)) ∧ J xs (w1.setCell ⟨bw, 0, none⟩ (.int .i64 73)) := by
              obtain ⟨q1, q2⟩ := FAR.out.bad hlt hit herr
              refine ⟨xs, ⟨by rw [HXS.out, q1], by rw [q2]; exact hw2.1.hwhy, (p : Int), ?_, fun _ => by rw [q1, ← FAR.out.at_]⟩, hJ.out _ _ _ HJ1.out (.inr hw2.2.1)⟩
              exact (hw2.2.2 ba d1.2.2.2.2.2.2).trans HA1.out
            have HF := Lib.hid hfin
            have hcw := fun i => hp_cell hw2.1.hwhy i
            have hcy := fun i => hp_cell hw2.1.hy i
            clear hfin hw2 hit d1 n1v HJ1 HH1
            go_wp2_with fail
            all_goals refine bodyPost_ret (results_none rfl _ _ _) rfl ?_
            all_goals exact ⟨⟨_, rfl⟩, HF.out⟩
          · have hit : itm (b.drop p) pre.length = (0, ((b.drop p).drop k1).take n, k1 + n) := by
              unfold itm; rw [if_neg c1, hr]; simp only [List.length_drop]; rw [if_neg (by simp), if_neg c73]
            obtain ⟨hfar2, hk0⟩ := FAR.out.step hlt hit
            have hrm := rd_mid (HH1.out).rd (p + k1) (p + k1 + n) (by omega) (by omega)
            rw [show p + k1 + n - (p + k1) = n by omega, ← List.drop_drop] at hrm
            have hxl : (((b.drop p).drop k1).take n).length = n := by simp; omega
            have hxsl : xs.length = pre.length := by have := congrArg List.length HXS.out; simpa using this
            obtain ⟨fn, tm, asg, bd, hy, hR⟩ := hY.out xs (_, ((b.drop p).drop k1).take n) w1 HJ1.out ⟨by rw [hxsl]; have := FAR.out.cnt; omega, hrm, by simp only; have := HB.out; omega, fun k hk => own_mid' (hi := p + k1 + n) (by rw [show p + k1 + n - (p + k1) = n by omega]; exact hk)⟩
            have HF2 := Lib.hid hfar2; have HXL := Lib.hid hxl; have HK0 := Lib.hid hk0
            have hle : (n : Int) ≤ (b.length : Int) - ((p : Int) + (k1 : Int)) := by omega
            have hge : 0 ≤ (b.length : Int) - ((p : Int) + (k1 : Int)) := by omega
            have hcl := (HH1.out).rd.len.2.1
            simp only [encI] at hy
            clear hrm hfar2 hxl hk0 hit g4 hr NUM hne
            by_cases hcc : c = p + k1
            · skip
              rw [if_pos hcc] at hy
              subst hcc
              simp only [Nat.sub_self] at hy
              have HY := Lib.hid hy; have HR := Lib.hid hR
              clear hy hR
              iterate 160 (try (first | (refine at11 (n := m + 1) ?_; intro K11 hK11) | go_values | go_skip | go_guarded | go_step | go_upon | go_back | (simp only [Int.not_lt, Int.not_le] at *; go_simp) | (go_values <;> (try go_simp)) | (go_ite <;> go_prune <;> (try go_simp))))
              have hy := HY.out
              gi_wp2
              refine HR.out.mono ?_
              rintro _ w4 ⟨rfl, hj4, hk4⟩
              have hh4 := (HH1.out).kp hk4 n1x n1a n1y n1b n1w (fun h0 k hk => ⟨(n1v h0 k hk).1, (n1v h0 k hk).2.1⟩)
              have HJ4 := Lib.hid hj4; have HH4 := Lib.hid hh4
              clear hj4 hk4 hh4 hy hcx hca hcx1 hcy1 hcw1 hfw1
              gi_wp2
              go_wp2_with fail
              have hcnt := FAR.out.cnt
              have hk0 := HK0.out
              refine ⟨⟨p + (k1 + n), pre ++ [((b.drop p).drop k1).take n], xs ++ [(_, ((b.drop p).drop k1).take n)], ?_, ?_, HF2.out, by rw [List.map_append, HXS.out]; rfl, HJ4.out, HH4.out⟩, ?_⟩
              · rw [w64 (by omega) (by omega)]
                simp
              · push_cast; rw [Int.add_assoc]
              · simp only [intOf]; omega
            · skip
              rw [if_neg hcc] at hy
              have HY := Lib.hid hy; have HR := Lib.hid hR
              clear hy hR
              iterate 160 (try (first | (refine at11 (n := m + 1) ?_; intro K11 hK11) | go_values | go_skip | go_guarded | go_step | go_upon | go_back | (simp only [Int.not_lt, Int.not_le] at *; go_simp) | (go_values <;> (try go_simp)) | (go_ite <;> go_prune <;> (try go_simp))))
              have hy := HY.out
              gi_wp2
              refine HR.out.mono ?_
              rintro _ w4 ⟨rfl, hj4, hk4⟩
              have hh4 := (HH1.out).kp hk4 n1x n1a n1y n1b n1w (fun h0 k hk => ⟨(n1v h0 k hk).1, (n1v h0 k hk).2.1⟩)
              have HJ4 := Lib.hid hj4; have HH4 := Lib.hid hh4
              clear hj4 hk4 hh4 hy hcx hca hcx1 hcy1 hcw1 hfw1
              gi_wp2
              go_wp2_with fail
              have hcnt := FAR.out.cnt
              have hk0 := HK0.out
              refine ⟨⟨p + (k1 + n), pre ++ [((b.drop p).drop k1).take n], xs ++ [(_, ((b.drop p).drop k1).take n)], ?_, ?_, HF2.out, by rw [List.map_append, HXS.out]; rfl, HJ4.out, HH4.out⟩, ?_⟩
              · rw [w64 (by omega) (by omega)]
                simp
              · push_cast; rw [Int.add_assoc]
              · simp only [intOf]; omega
        · have hit : itm (b.drop p) pre.length = (e1, [], 0) := by unfold itm; rw [if_neg c1, hr]; simp only; rw [if_pos h1]
          have herr : e1 ≠ 0 := h1
          clear hr NUM
          generalize numEnd e1 p k1 = qe
          have hw2 := (HH1.out).setW d1 (fun h0 k hk => (n1v h0 k hk).2.2.2) e1
          have hfin : ∃ xs : List Ix, Fin b ba bw xs (w1.setCell ⟨bw, 0, none⟩ (.int .i64 e1)) ∧ J xs (w1.setCell ⟨bw, 0, none⟩ (.int .i64 e1)) := by
            obtain ⟨q1, q2⟩ := FAR.out.bad hlt hit herr
            refine ⟨xs, ⟨by rw [HXS.out, q1], by rw [q2]; exact hw2.1.hwhy, (p : Int), ?_, fun _ => by rw [q1, ← FAR.out.at_]⟩, hJ.out _ _ _ HJ1.out (.inr hw2.2.1)⟩
            exact (hw2.2.2 ba d1.2.2.2.2.2.2).trans HA1.out
          have HF := Lib.hid hfin
          have hcw := fun i => hp_cell hw2.1.hwhy i
          have hcy := fun i => hp_cell hw2.1.hy i
          clear hfin hw2 hit d1 n1v HJ1 HH1
          go_wp2_with fail
          all_goals refine bodyPost_ret (results_none rfl _ _ _) rfl ?_
          all_goals exact ⟨⟨_, rfl⟩, HF.out⟩
end Go.Proofs.YtinngljphjdpoaaDoor.Gt
