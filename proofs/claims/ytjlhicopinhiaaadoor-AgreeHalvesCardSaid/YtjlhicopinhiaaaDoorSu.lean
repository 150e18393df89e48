/- The program's hash: New, Write. -/
import Derived.Test.YtjlhicopinhiaaaDoorSt
import Derived.Test.YtjlhicopinhiaaaDoorPr
namespace Go.Proofs.YtjlhicopinhiaaaDoor.Su
open Go Go.RowKit Go.Proofs.YtjlhicopinhiaaaDoor.Pa Go.Proofs.YtjlhicopinhiaaaDoor.Pb Go.Proofs.YtjlhicopinhiaaaDoor.Pc Go.Proofs.YtjlhicopinhiaaaDoor.Pf Go.Proofs.YtjlhicopinhiaaaDoor.Pq Go.Proofs.YtjlhicopinhiaaaDoor.Pr Go.Proofs.YtjlhicopinhiaaaDoor.Sh Go.Proofs.YtjlhicopinhiaaaDoor.Sv Go.Proofs.YtjlhicopinhiaaaDoor.Sk Go.Proofs.YtjlhicopinhiaaaDoor.So Go.Proofs.YtjlhicopinhiaaaDoor.Sb Go.Proofs.YtjlhicopinhiaaaDoor.Sd Go.Proofs.YtjlhicopinhiaaaDoor.Se Go.Proofs.YtjlhicopinhiaaaDoor.Sf Go.Proofs.YtjlhicopinhiaaaDoor.St
set_option linter.unusedVariables false
set_option linter.unusedSimpArgs false

/-- Block p is such a hash under way. -/
def Hh (w : World) (p : Nat) (x : Hash) : Prop := hp w p = some (.cells x.c 49 (0, 0))
theorem Hh.lt {w : World} {p : Nat} {x : Hash} (h : Hh w p x) : p < w.heap.size := by
  rcases Nat.lt_or_ge p w.heap.size with h1 | h1
  · exact h1
  · unfold Hh hp at h; rw [Array.getElem?_eq_none h1] at h; cases h
theorem Hh.below {w w' : World} {p : Nat} {x : Hash} (h : Hh w p x) (hb : Below w.heap.size w w') : Hh w' p x := (hb.hp p h.lt).trans h
theorem pnew (w : World) : Calls Tryd.prog 16 #[] w fun e w' => ∃ p, e = .returned (.pointer (some ⟨p, 0, none⟩)) ∧ w.heap.size ≤ p ∧ Hh w' p ⟨H0, .slice none 0 0, 0⟩ ∧ Below w.heap.size w w' := by
  go_enter Tryd.func16, Tryd.ntmps16
  go_wp2_with (go_at_call 9999)
  go_at_call 22
  refine (pstart w).mono ?_
  rintro _ w1 ⟨rfl, b1⟩
  go_wp2_with fail
  go_ret
  exact ⟨_, rfl, b1.size, hp_alloc_at _ _ rfl, b1.alloc b1.size _⟩
/-- A hash of the bytes l under way. -/
structure Under (w : World) (p : Nat) (l : List UInt8) (r : Value) : Prop where
  hh : Hh w p ⟨foldN H0 l (l.length / 64), r, (l.length : Int)⟩
  hr : Rd w r (l.drop (64 * (l.length / 64)))
  hne : r.ownBlock ≠ some p
theorem rd_drewN {w : World} {v : Value} {l : List UInt8} (h : Rd w v l) (n : Nat) : Rd (w.drewN n) v l := by
  obtain ⟨A, c, rfl, h1, h2, h3⟩ := h
  refine ⟨A, c, rfl, h1, h2, fun h0 => ?_⟩
  obtain ⟨ad, rfl, hc⟩ := h3 h0
  exact ⟨ad, rfl, fun j u hu => by rw [← hc j u hu]; simp⟩
theorem rd_cut {w : World} {A : Option Addr} {n d : Nat} {l : List UInt8} (h : Rd w (.slice A n d) l) : Rd w (.slice A l.length l.length) l := by
  obtain ⟨A', c, e, h1, h2, h3⟩ := h
  simp only [Value.slice.injEq] at e
  obtain ⟨rfl, rfl, rfl⟩ := e
  exact ⟨A, _, rfl, Nat.le_refl _, by omega, h3⟩
theorem chg_trans {S S' : Nat → Prop} {w w' w'' : World} (h : Chg S w w') (k : Chg S' w' w'') (hS : ∀ k, k < w.heap.size → S' k → S k) : Chg S w w'' :=
  ⟨k.os.trans h.os, k.tape.trans h.tape, k.output.trans h.output, Nat.le_trans h.size k.size, fun i hi hs => (k.block i (Nat.lt_of_lt_of_le hi h.size) (fun e => hs (hS i hi e))).trans (h.block i hi hs)⟩
theorem Rd_sub {w : World} {ad : Addr} {n c : Nat} {l : List UInt8} (h : Rd w (.slice (some ad) n c) l) (lo hi : Nat) (h1 : lo ≤ hi) (h2 : hi ≤ l.length) : Rd w (.slice (some (ad.add lo)) (hi - lo) (c - lo)) ((l.drop lo).take (hi - lo)) := by
  have hl : ((l.drop lo).take (hi - lo)).length = hi - lo := by simp; omega
  obtain ⟨h3, h4, h5⟩ := h.len
  refine ⟨_, _, by rw [hl], by omega, by omega, fun _ => ⟨_, rfl, fun j u hu => ?_⟩⟩
  have hj := (List.getElem?_eq_some_iff.1 hu).1
  simp at hj
  obtain ⟨ad', e, hc⟩ := h.at_ (lo + j) (by omega)
  cases e
  have hadd : (ad.add lo).add j = ad.add (lo + j) := by
    unfold Addr.add
    split <;> split <;> simp_all <;> omega
  rw [hadd, hc, ← hu]
  simp [cb, hj]
theorem bv_cb {n : Nat} (k : Vector UInt8 n) : bv k = (cb k.toList).toArray := by apply Array.ext'; simp only [bv, cb, Array.toList_map]; rfl
/-- copy of a whole block of bytes, whatever type the block has. -/
theorem run_cpA {P : Program} {T E B : TypeId} (hU : U8 P T E) (ty : TypeId) {w : World} {g n : Nat} {Y : Option Addr} {l m : List UInt8} (h : Arr w g B l) (hx : Rd w (.slice Y n n) m) (hln : l.length = n) (hmn : m.length = n) (hn : 0 < n) :
    ∃ w', (Builtin.copy_ #[T, T] ty #[.slice (some ⟨g, 0, none⟩) n n, .slice Y n n]).run P w = .ok (goInt n) w' ∧ Arr w' g B m ∧ Chg (fun k => k = g) w w' := by
  have hi1 : (P.info? E).map (·.size) = some 1 := by
    obtain ⟨i, hi, hzz⟩ := Option.map_eq_some_iff.1 hU.info
    simp only [Prod.mk.injEq] at hzz
    simp [hi, hzz.2.1]
  obtain ⟨A', c, e, k1, k2, k3⟩ := hx
  obtain ⟨ad, rfl, k4⟩ := k3 (by omega)
  simp only [Value.slice.injEq] at e
  obtain ⟨rfl, -, rfl⟩ := e
  have hr := run_copy_row (P := P) w T T ty E g 0 n n ad n n (cb l).toArray B (cb m) hU.sl hi1 h (by simp [hmn]) (fun j u hu => k4 j u hu) (by simp [hmn, hln]) (cb_one _)
  have e2 : ((cb l).toArray.toList.take 0 ++ cb m ++ (cb l).toArray.toList.drop (0 + (cb m).length)) = cb m := by simp [hmn, hln]
  rw [e2, show (cb m).length = n by simp [hmn]] at hr
  exact ⟨_, hr, h.row m, Chg.row w g _⟩
theorem chunk_list (T : List UInt8) (j : Nat) (h : 64 * j + 64 ≤ T.length) : (chunk T j).toList = (T.drop (64 * j)).take 64 := by
  apply List.ext_getElem
  · simp; omega
  · intro i h1 h2
    have hi : i < 64 := by simpa using h1
    simp only [Vector.getElem_toList, List.getElem_take, List.getElem_drop]
    rw [chunk_at T j i hi, List.getD_eq_getElem?_getD, List.getElem?_eq_getElem (by omega)]
    rfl
set_option maxHeartbeats 1000000 in
set_option maxRecDepth 100000 in
theorem pwrite {p : Nat} {l m : List UInt8} {r x : Value} (w : World) (hT : Tab w) (hTp : 1 ≠ p) (hu : Under w p l r) (hx : Rd w x m) (hne : m ≠ [] → x.ownBlock ≠ some p) (hl : l.length + m.length ≤ 140737488350000) :
    Calls Tryd.prog 17 #[.pointer (some ⟨p, 0, none⟩), x] w fun e w' => ∃ r', e = .returned (.tuple #[]) ∧ Under w' p (l ++ m) r' ∧ Own w' w.heap.size 5 r' ((l ++ m).drop (64 * ((l ++ m).length / 64))) ∧ Chg (fun k => k = p) w w' := by
  obtain ⟨A, c, rfl, -⟩ := id hx
  obtain ⟨h1, h2, h3⟩ := hu
  obtain ⟨R, d, rfl, -⟩ := id h2
  have h1' : hp w p = some (.cells (Hash.mk (foldN H0 l (l.length / 64)) (.slice R (l.drop (64 * (l.length / 64))).length d) (l.length : Int)).c 49 (0, 0)) := h1
  have f1 := hp_frozen h1' 9
  have c9 := hp_cell h1' 9
  simp only [Hash.at_size] at c9
  go_enter Tryd.func17, Tryd.ntmps17
  go_wp2_with fail
  obtain ⟨w0, hw0⟩ : ∃ x, x = w.setCell ⟨p, 9, none⟩ (.int .u64 ((l.length : Int) + (m.length : Int))) := ⟨_, rfl⟩
  rw [← hw0]
  have hc0 : Chg (fun k => k = p) w w0 := by rw [hw0]; exact Chg.store w ⟨p, 9, none⟩ _
  have g1 : Hh w0 p (Hash.mk (foldN H0 l (l.length / 64)) (.slice R (l.drop (64 * (l.length / 64))).length d) ((l.length : Int) + (m.length : Int))) := by
    rw [hw0]
    unfold Hh hp at *
    rw [heap_setCell_same w p 9 _ _ _ h1', Hash.set_size]
  have g2 := h2.chg hc0 (fun k hk e => h3 (e ▸ hk))
  have gx : Rd w0 (.slice A m.length c) m := by
    by_cases hm : m = []
    · subst hm
      exact ⟨A, c, rfl, hx.len.2.1, hx.len.2.2, fun h => absurd h (by simp)⟩
    · exact hx.chg hc0 (fun k hk e => hne hm (e ▸ hk))
  have C0 := Lib.hid hc0; have G1 := Lib.hid g1; have G2 := Lib.hid g2; have GX := Lib.hid gx
  clear h1 h1' f1 c9 hx g2 gx hc0 hw0
  have c8 := hp_cell g1 8
  simp only [Hash.at_rest] at c8
  clear g1
  have hLl : (l.drop (64 * (l.length / 64))).length ≤ l.length := by simp
  have hdrop : l.drop (64 * (l.length / 64)) ++ m = (l ++ m).drop (64 * (l.length / 64)) := by rw [List.drop_append_of_le_length (by omega)]
  have hfold : foldN H0 l (l.length / 64) = foldN H0 (l ++ m) (l.length / 64) := (foldN_append H0 l m _ (by omega)).symm
  generalize hL : l.drop (64 * (l.length / 64)) = L at *
  have HD := Lib.hid hdrop; have HF := Lib.hid hfold; have HL := Lib.hid hL; clear hdrop hfold hL
  have hcell := like_facts (wr := w0)
  refine wp_region_calm_tail (S := Like w0) 16 (by kernel_rfl) (by kernel_rfl) (Like.refl _) ?_
  intro hN
  simp only [List.take_succ_cons, List.take_zero, List.drop_succ_cons, List.drop_zero]
  have hd := G2.out.len.2.1
  repeat (go_big_quiet_step (fail))
  refine wpQuiet_nil ?_
  rintro ⟨W', nq, rfl⟩
  clear hN hcell c8
  obtain ⟨v1, w1, hap, r1, b1, ho1⟩ := run_full uu8 30 (rd_drewN (rd_cut G2.out) nq) (rd_drewN GX.out nq) (by have := G2.out.len; omega)
  rw [app_x] at hap
  have R1 := Lib.hid r1; have B1 := Lib.hid b1; have HO1 := Lib.hid ho1
  clear r1 b1 ho1
  go_wp2_with fail
  have R1' : Rd w1 v1 ((l ++ m).drop (64 * (l.length / 64))) := by rw [← HD.out]; exact R1.out
  have hlt0 := G1.out.lt
  have hne1 : v1.ownBlock ≠ some p := by
    rcases HO1.out with h | h
    · rw [h]; cases R <;> exact h3
    · rw [h]; intro e; simp at e; omega
  have hg1 : Hh w1 p ⟨foldN H0 (l ++ m) (l.length / 64), .slice R L.length d, (l.length : Int) + (m.length : Int)⟩ := by
    rw [← HF.out]; exact Hh.below (w := w0.drewN nq) ((hp_drewN nq p).trans G1.out) B1.out
  have hcd : Chg (fun k => k = p) w (w0.drewN nq) := C0.out.trans ⟨rfl, rfl, rfl, Nat.le_refl _, fun _ _ _ => rfl⟩
  have hch1 : Chg (fun k => k = p) w w1 := hcd.trans (Chg.of_below B1.out)
  have R1 := Lib.hid R1'; have NE1 := Lib.hid hne1; have HG1 := Lib.hid hg1; have CH1 := Lib.hid hch1; have NE0 := Lib.hid h3
  clear R1' hne1 hg1 hcd hch1 h2 h3 HO1 G1 G2 GX C0 HF HD HL
  have hT64 : (l ++ m).length = l.length + m.length := by simp
  generalize hTT : l ++ m = T at *
  go_loopw [4] (fun s wr => ∃ (j : Nat) (Y : Option Addr) (q : Nat), 64 * j ≤ T.length ∧ s = .slice Y (T.length - 64 * j) q ∧ Rd wr s (T.drop (64 * j)) ∧ s.ownBlock ≠ some p ∧ Hh wr p ⟨foldN H0 T j, .slice R L.length d, (l.length : Int) + (m.length : Int)⟩ ∧ Chg (fun k => k = p) w wr) (fun s _ => match s with | .slice _ n _ => n | _ => 0)
  case atStart =>
    obtain ⟨Y, q, hy, -⟩ := id R1.out
    refine ⟨l.length / 64, Y, q, by omega, ?_, R1.out, NE1.out, HG1.out, CH1.out⟩
    rw [hy]; simp
  case round =>
    obtain ⟨j, Y, q, hj, rfl, ar, an, ah, ac⟩ := hrel
    have AR := Lib.hid ar; have AN := Lib.hid an; have AH := Lib.hid ah; have AC := Lib.hid ac
    have hq := ar.len.2.1
    rw [List.length_drop] at hq
    clear ar an ah ac
    by_cases h64 : 64 ≤ T.length - 64 * j
    · have hTj : (64 : Int) ≤ ((T.length - 64 * j : Nat) : Int) := by omega
      go_wp2_with fail
      obtain ⟨wx, hwx⟩ : ∃ x, x = wr.alloc (.cells (bv (Vector.replicate 64 0)) 50) := ⟨_, rfl⟩
      rw [← hwx]
      have bx : Below wr.heap.size wr wx := by rw [hwx]; exact (Below.refl _ _).alloc (Nat.le_refl _) _
      have ax : Arr wx wr.heap.size 50 (List.replicate 64 0) := by
        rw [hwx]
        have : (bv (Vector.replicate 64 (0 : UInt8))) = (cb (List.replicate 64 0)).toArray := by kernel_rfl
        rw [this]
        exact Arr.new wr _ _
      have BX := Lib.hid bx; have AX := Lib.hid ax; clear bx ax hwx
      have hp0 : p < wr.heap.size := AH.out.lt
      generalize hgx : wr.heap.size = gx at *
      refine wp_region_calm_tail (S := Like wx) 3 (by kernel_rfl) (by kernel_rfl) (Like.refl _) ?_
      intro hN
      simp only [List.take_succ_cons, List.take_zero, List.drop_succ_cons, List.drop_zero]
      repeat (go_big_quiet_step (fail))
      refine wpQuiet_nil ?_
      rintro ⟨W', nq2, rfl⟩
      clear hN
      have rs : Rd (wx.drewN nq2) (.slice Y 64 64) ((T.drop (64 * j)).take 64) := by
        have h := rd_drewN (AR.out.below (hgx ▸ BX.out)) nq2
        obtain ⟨Y', q', e, k1, k2, k3⟩ := h
        simp only [Value.slice.injEq] at e
        obtain ⟨rfl, -, rfl⟩ := e
        have hlen : ((T.drop (64 * j)).take 64).length = 64 := by simp; omega
        refine ⟨Y, 64, by rw [hlen], by omega, by simp [maxLen], fun _ => ?_⟩
        obtain ⟨ad, e, k4⟩ := k3 (by rw [List.length_drop]; omega)
        refine ⟨ad, e, fun i u hu => k4 i u ?_⟩
        have hi := (List.getElem?_eq_some_iff.1 hu).1
        rw [cb_length, hlen] at hi
        rw [← hu]
        simp only [cb, List.map_take, List.getElem?_take, if_pos hi]
      have ax2 : Arr (wx.drewN nq2) gx 50 (List.replicate 64 0) := (hp_drewN nq2 gx).trans AX.out
      obtain ⟨w2, hcp, ha2, hc2⟩ := run_cpA uu8 3 ax2 rs (by simp) (by simp; omega) (by omega)
      rw [← chunk_list T j (by omega)] at ha2
      have hx2 : hp w2 gx = some (.cells (bv (chunk T j)) 50 (0, 0)) := by rw [bv_cb]; exact ha2
      have C2 := Lib.hid hc2
      clear rs ax2 ha2 hc2
      go_wp2_with fail
      have hpg : p ≠ gx := by omega
      have bx' : Below wr.heap.size wr wx := by rw [hgx]; exact BX.out
      have hcx : Chg (fun k => k = p) w (wx.drewN nq2) := (AC.out.trans (Chg.of_below bx')).trans ⟨rfl, rfl, rfl, Nat.le_refl _, fun _ _ _ => rfl⟩
      have hszw := AC.out.size
      rw [hgx] at hszw
      have hc3 : Chg (fun k => k = p) w w2 := chg_trans hcx C2.out (fun k hk e => by omega)
      have hcr : Chg (fun k => k = p) wr w2 := chg_trans ((Chg.of_below bx').trans ⟨rfl, rfl, rfl, Nat.le_refl _, fun _ _ _ => rfl⟩ : Chg (fun k => k = p) wr (wx.drewN nq2)) C2.out (fun k hk e => by rw [hgx] at hk; omega)
      have HCR := Lib.hid hcr; clear hcr
      have hh2 : Hh w2 p ⟨foldN H0 T j, .slice R L.length d, (l.length : Int) + (m.length : Int)⟩ := hp_chg ((hp_drewN nq2 p).trans (AH.out.below bx')) C2.out (fun e => hpg e)
      have hT2 : Tab w2 := fun i hi => by
        have ht := hT.lt
        rw [← hT i hi]
        exact World.cell?_of_block (hc3.block _ ht (fun e => hTp e))
      have HC3 := Lib.hid hc3; have HH2 := Lib.hid hh2; have HT2 := Lib.hid hT2
      have u1 : ∀ u : Held (fun W => Below w2.heap.size w2 W), hp u.w p = some (.cells (Hash.mk (foldN H0 T j) (.slice R L.length d) ((l.length : Int) + (m.length : Int))).c 49 (0, 0)) := fun u => hh2.below u.h
      have hgl : gx < w2.heap.size := by
        rcases Nat.lt_or_ge gx w2.heap.size with h1 | h1
        · exact h1
        · unfold hp at hx2; rw [Array.getElem?_eq_none h1] at hx2; cases hx2
      have u2 : ∀ u : Held (fun W => Below w2.heap.size w2 W), hp u.w gx = some (.cells (bv (chunk T j)) 50 (0, 0)) := fun u => (u.h.hp gx hgl).trans hx2
      have u3 : ∀ u : Held (fun W => Below w2.heap.size w2 W), Tab u.w := fun u => hT2.below u.h
      have U3 := Lib.hid u3
      have hsz : ∀ u : Held (fun W => Below w2.heap.size w2 W), w2.heap.size ≤ u.w.heap.size := fun u => u.h.size
      have HSZ := Lib.hid hsz
      clear hc3 hh2 hT2 u3 hsz hx2 hcx bx'
      refine wp_region_calm_tail (S := fun W => Below w2.heap.size w2 W) 9 (by kernel_rfl) (by kernel_rfl) ((Below.refl _ _).drew) ?_
      intro hN
      simp only [List.take_succ_cons, List.take_zero, List.drop_succ_cons, List.drop_zero]
      repeat (go_big_quiet_step ((go_at_call 23; exact calm_call (pblock _ _ _ (U3.out _)) (fun w' hs hr => hs.trans (hr.mono hs.size)))))
      refine wpQuiet_nil ?_
      intro u
      have k1 := u1 u
      have hbu := u.h
      obtain ⟨w3, hw3⟩ : ∃ x, x = u.w := ⟨_, rfl⟩
      rw [← hw3] at k1 hbu ⊢
      clear hN u1 u2 U3 HSZ hw3 u
      have ch3 : Chg (fun k => k = p) w w3 := HC3.out.trans (Chg.of_below hbu)
      have CH3 := Lib.hid ch3; clear ch3
      obtain ⟨ad, rfl, -⟩ := AR.out.at_ 0 (by rw [List.length_drop]; omega)
      have kn : Hh (w3.setRow p (Hash.mk (foldN H0 T (j + 1)) (.slice R L.length d) ((l.length : Int) + (m.length : Int))).c) p ⟨foldN H0 T (j + 1), .slice R L.length d, (l.length : Int) + (m.length : Int)⟩ := hp_setRow_same _ _ _ _ _ k1
      have cn : Chg (fun k => k = p) w (w3.setRow p (Hash.mk (foldN H0 T (j + 1)) (.slice R L.length d) ((l.length : Int) + (m.length : Int))).c) := CH3.out.trans (Chg.row w3 p _)
      have cr : Chg (fun k => k = p) wr (w3.setRow p (Hash.mk (foldN H0 T (j + 1)) (.slice R L.length d) ((l.length : Int) + (m.length : Int))).c) := (HCR.out.trans (Chg.of_below hbu)).trans (Chg.row w3 p _)
      have rn := (Rd_sub AR.out 64 (T.length - 64 * j) h64 (by rw [List.length_drop]; exact Nat.le_refl _)).chg cr (fun k hk e => AN.out (by rw [← e, ← hk]; simp only [Value.ownBlock, Addr.add]; split <;> rfl))
      rw [List.drop_drop, show 64 * j + 64 = 64 * (j + 1) by omega, List.take_of_length_le (by rw [List.length_drop]; omega), show T.length - 64 * j - 64 = T.length - 64 * (j + 1) by omega] at rn
      have en : l.length + m.length - 64 * j - 64 = T.length - 64 * (j + 1) := by omega
      have hbl : (Value.slice (some ad) (T.length - 64 * j) q).ownBlock ≠ some p := AN.out
      have KN := Lib.hid kn; have CN := Lib.hid cn; have RN := Lib.hid rn; have EN := Lib.hid en
      clear kn cn cr rn en
      by_cases hq64 : q = 64
      · go_wp2_with fail
        rw [EN.out]
        have hnil : T.drop (64 * (j + 1)) = [] := List.drop_eq_nil_of_le (by omega)
        refine ⟨⟨j + 1, _, _, by omega, rfl, ?_, hbl, KN.out, CN.out⟩, by simp; omega⟩
        rw [hnil]
        exact ⟨some ad, 0, by simp; omega, by simp, by simp [maxLen], fun h => absurd h (by simp)⟩
      · go_wp2_with fail
        rw [EN.out]
        have hadd : ad.add 64 = ⟨ad.block, ad.off + 64, none⟩ := by simp [Addr.add]
        have rn := RN.out
        rw [hadd] at rn
        exact ⟨⟨j + 1, _, _, by omega, rfl, rn, hbl, KN.out, CN.out⟩, by simp; omega⟩
    · obtain rfl : j = T.length / 64 := by omega
      have hp0 := AH.out.lt
      have k1 : hp wr p = some (.cells (Hash.mk (foldN H0 T (T.length / 64)) (.slice R L.length d) ((l.length : Int) + (m.length : Int))).c 49 (0, 0)) := AH.out
      obtain ⟨v4, w4, hap4, o4, g4, -⟩ := run_app uu8 30 (Own.nil wr wr.heap.size 5) AR.out (Nat.le_refl _) (by rw [List.length_drop]; simp; omega)
      rw [app_x] at hap4
      rw [List.nil_append] at o4
      have b4 : Below wr.heap.size wr w4 := below_grown (Below.refl _ wr) (Own.nil wr wr.heap.size 5) (Nat.le_refl _) (Nat.le_refl _) g4
      have k4 : hp w4 p = some (.cells (Hash.mk (foldN H0 T (T.length / 64)) (.slice R L.length d) ((l.length : Int) + (m.length : Int))).c 49 (0, 0)) := (b4.hp p hp0).trans k1
      have c8 := hp_cell k4 8
      have f8 := hp_frozen k4 8
      simp only [Hash.at_rest] at c8
      have O4 := Lib.hid o4; have B4 := Lib.hid b4; have K4 := Lib.hid k4
      have HT64 := Lib.hid hT64
      obtain ⟨A4, c4, hv4⟩ := o4.slice
      rw [List.length_drop] at hv4
      subst hv4
      clear o4 g4 b4 k4 k1 hT64
      go_wp2_with fail
      go_end0
      have hno : ∀ k, (Value.slice A4 (T.length - 64 * (T.length / 64)) c4).ownBlock = some k → ¬ k = p := fun k hk e => by
        have := (O4.out.lt k hk).1
        omega
      have hst : Chg (fun k => k = p) w4 (w4.setCell ⟨p, 8, none⟩ (Value.slice A4 (T.length - 64 * (T.length / 64)) c4)) := Chg.store w4 ⟨p, 8, none⟩ _
      have ho5 := O4.out.chg hst hno
      have hh5 : Hh (w4.setCell ⟨p, 8, none⟩ (Value.slice A4 (T.length - 64 * (T.length / 64)) c4)) p ⟨foldN H0 T (T.length / 64), Value.slice A4 (T.length - 64 * (T.length / 64)) c4, (T.length : Int)⟩ := by
        have k := K4.out
        unfold Hh hp at *
        rw [heap_setCell_same w4 p 8 _ _ _ k, Hash.set_rest, HT64.out, Int.natCast_add]
      rw [hTT]
      exact ⟨_, rfl, ⟨hh5, ho5.rd, fun e => hno p e rfl⟩, ho5.mono AC.out.size, (AC.out.trans (Chg.of_below B4.out)).trans hst⟩
end Go.Proofs.YtjlhicopinhiaaaDoor.Su
