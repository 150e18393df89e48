/- The program's write, walked. -/
import Derived.Test.YtinngljphjdpoaaGreatDoorJEs
import Derived.Test.YtinngljphjdpoaaGreatDoorJRt
import Derived.BigRegion
import Derived.Deep.RegionWith
import Derived.Deep.DeepCutAuto
namespace Go.Proofs.YtinngljphjdpoaaGreatDoor.Ew
open Go Go.RowKit Go.Proofs.YtinngljphjdpoaaGreatDoor.Pa Go.Proofs.YtinngljphjdpoaaGreatDoor.Pb Go.Proofs.YtinngljphjdpoaaGreatDoor.Pf Go.Proofs.YtinngljphjdpoaaGreatDoor.Pq Go.Proofs.YtinngljphjdpoaaGreatDoor.Sc Go.Proofs.YtinngljphjdpoaaGreatDoor.Rs Go.Proofs.YtinngljphjdpoaaGreatDoor.Hs Go.Proofs.YtinngljphjdpoaaGreatDoor.Va Go.Proofs.YtinngljphjdpoaaGreatDoor.Ca Go.Proofs.YtinngljphjdpoaaGreatDoor.Ce Go.Proofs.YtinngljphjdpoaaGreatDoor.Ea Go.Proofs.YtinngljphjdpoaaGreatDoor.Eb Go.Proofs.YtinngljphjdpoaaGreatDoor.Eq Go.Proofs.YtinngljphjdpoaaGreatDoor.Es Go.Proofs.YtinngljphjdpoaaGreatDoor.Hx Go.Proofs.YtinngljphjdpoaaGreatDoor.Vo
set_option linter.unusedVariables false
set_option linter.unusedSimpArgs false
/-- Own bytes, or old ones. -/
def Oo (W : World) (base : Nat) (w : World) (v : Value) (d : List UInt8) : Prop := Own w base 5 v d ∨ Rd W v d
/-- The same, apart from a block. -/
def Og (W : World) (base : Nat) (w : World) (g : Nat) (v : Value) (d : List UInt8) : Prop := (Own w base 5 v d ∧ v.ownBlock ≠ some g) ∨ Rd W v d
theorem og_first {W w6 : World} {base g : Nat} {v : Value} {d : List UInt8} (h : Oo W base w6 v d) (hg : g < base) (p q r s : Value) : Og W g (set4 w6 g p q r s) g v d := by
  rcases h with h | h
  · exact .inl ⟨(own_set4 h hg p q r s).mono (by omega), fun e => by have := (h.lt _ e).1; omega⟩
  · exact .inr h
theorem og_after {W w6 : World} {base b0 : Nat} {v : Value} {d : List UInt8} (h : Oo W base w6 v d) (hb : b0 ≤ base) (o : Obj) : Og W b0 (w6.alloc o) w6.heap.size v d := by
  rcases h with h | h
  · exact .inl ⟨(h.alloc o).mono hb, fun e => by have := (h.lt _ e).2; omega⟩
  · exact .inr h
theorem alloc_first {W w4 w6 : World} {c : Array Value} {t : TypeId} {v : Value} {d : List UInt8} (b6 : Below ((w4.alloc (.cells c t)).drew).heap.size ((w4.alloc (.cells c t)).drew) w6) (hd : Oo W ((w4.alloc (.cells c t)).drew).heap.size w6 v d) :
    hp w6 w4.heap.size = some (.cells c t (0, 0)) ∧ Below w4.heap.size w4 w6 ∧ ∀ p q r s, Og W w4.heap.size (set4 w6 w4.heap.size p q r s) w4.heap.size v d := by
  have hs : ((w4.alloc (.cells c t)).drew).heap.size = w4.heap.size + 1 := by simp
  refine ⟨(b6.hp w4.heap.size (by omega)).trans (hp_alloc_at _ _ rfl), (((Below.refl _ _).alloc (Nat.le_refl _) _).drew).trans (b6.mono (by omega)), fun p q r s => ?_⟩
  exact og_first hd (by omega) p q r s
theorem call_first {W w4 w6 : World} {v : Value} {d : List UInt8} (b6 : Below w4.drew.heap.size w4.drew w6) (hd : Oo W w4.drew.heap.size w6 v d) :
    Below w4.heap.size w4 w6 ∧ ∀ o, Og W w4.heap.size (w6.alloc o) w6.heap.size v d :=
  ⟨(Below.refl _ _).drew.trans (b6.mono (by simp)), fun o => og_after hd (Nat.le_of_eq (by simp)) o⟩
/-- What a slot's closure hands back. -/
def CloSaid (W : World) (F : FuncId) (B C : Array Value) (v : Value) (num : Nat) (d : List UInt8) : Prop := ∀ w3, Below W.heap.size W w3 →
  Calls Tryz.prog F (B ++ #[v] ++ C) w3 fun e w' => ∃ Af cf, e = .returned (.agg #[.int .i64 0, .int .i64 0, .int .u64 (num : Int), .slice Af d.length cf]) ∧ Oo W w3.heap.size w' (.slice Af d.length cf) d ∧ Below w3.heap.size w3 w'
/-- A ready slot's three functions are such. -/
theorem rdy_all {C : Nat → List Slot → Prop} {w : World} {S : Pl} {t : Slot} {chk wr rd : Value} (h : Rdy C w S t chk wr rd) : (∃ f a c, chk = .func (.func f) a c) ∧ (∃ f a c, rd = .func (.func f) a c) := by
  unfold Rdy at h
  split at h
  · obtain ⟨c, b5, b9, -, -, -, -, -, h0, h1, h2⟩ := h
    exact ⟨⟨_, _, _, h0⟩, ⟨_, _, _, h2⟩⟩
  · obtain ⟨sh, b4, b1, sv, -, -, -, -, -, h0, h⟩ := h
    refine ⟨⟨_, _, _, h0⟩, ?_⟩
    split at h
    · obtain ⟨c, -, h1, h2⟩ := h
      exact ⟨_, _, _, h2⟩
    · split at h
      · exact ⟨_, _, _, h.2⟩
      · exact ⟨_, _, _, h.2⟩
/-- One of the four. -/
def CloIs (F : FuncId) (B C : Array Value) : Prop :=
  (F = 124 ∧ B = #[] ∧ ∃ b, C = #[.pointer (some ⟨b, 0, none⟩)]) ∨ (F = 127 ∧ (∃ (c p q : Nat), B = #[.agg #[.pointer (some ⟨c, 0, none⟩), .int .u64 (p : Int), .int .u64 (q : Int)]]) ∧ C = #[]) ∨
  (F = 122 ∧ B = #[] ∧ C = #[]) ∨ (F = 119 ∧ B = #[] ∧ C = #[])
theorem clo (n : Nat) (IH : WrSaid n) (U : List UInt8 → Bool) (S : Pl) (k j : Nat) (t : Slot) (chk wr rd : Value) (nv dv pv : Value) (x : Vu.Va) (deep : Int) (W : World) (hr : Rdy (Cd W S n) W S t chk wr rd) (hok : nest t = true → okL j t.sub) (hx : Vu.RdV W k nv dv pv x) (hf : FewV (k + 1) x) (hk : (Rq.partOf U n t x deep).2.2 = 0) :
    ∃ F B C, wr = .func (.func F) B C ∧ CloSaid W F B C (.agg #[nv, dv, pv]) (numW t x) (datW (encW n) t x) ∧ CloIs F B C := by
  unfold Rdy at hr
  by_cases h8 : t.kind = 8
  · rw [if_pos h8] at hr
    obtain ⟨c, b5, b9, hc, -, -, -, h9, -, rfl, -⟩ := hr
    refine ⟨_, _, _, rfl, fun w3 hw => ?_, .inl ⟨rfl, rfl, _, rfl⟩⟩
    have hn : numW t x = 0 := by unfold numW; rw [if_pos (by omega)]
    have hd : datW (encW n) t x = encW n t.sub x := by unfold datW; rw [if_neg (by omega), if_pos h8]
    rw [hn, hd]
    unfold Rq.partOf at hk
    rw [if_pos h8] at hk
    refine (wr7 n IH S k j c b9 t.sub nv dv pv x (deep + 1) U W w3 hc hx hf (hok (by unfold nest; simp [h8])) hw hk h9).mono ?_
    rintro e w' ⟨A, cc, rfl, ho, hb⟩
    exact ⟨A, cc, rfl, .inl ho, hb⟩
  · rw [if_neg h8] at hr
    obtain ⟨sh, b4, b1, sv, hsh, -, -, -, -, -, hr⟩ := hr
    unfold Rq.partOf at hk
    rw [if_neg h8] at hk
    by_cases h9 : t.kind = 9
    · rw [if_pos h9] at hr
      obtain ⟨c, hshc, rfl, -⟩ := hr
      unfold Shp at hsh
      rw [if_neg h8, if_pos h9] at hsh
      obtain ⟨c2, hc2, hsh2⟩ := hsh
      have hcc : c2 = c := by
        rw [hshc] at hsh2
        simp [ptr] at hsh2
        exact hsh2.symm
      subst hcc
      refine ⟨_, _, _, rfl, fun w3 hw => ?_, .inr (.inl ⟨rfl, ⟨_, _, _, rfl⟩, rfl⟩)⟩
      have hn : numW t x = 0 := by unfold numW; rw [if_pos (by omega)]
      have hd : datW (encW n) t x = Ep.join (x.parts.map (encW n t.sub)) := by unfold datW; rw [if_neg (by omega), if_neg h8, if_pos h9]
      rw [hn, hd]
      split at hk
      · rename_i h1; exact absurd hk h1
      · refine (wrL n IH S k j c2 t.least t.most t.sub nv dv pv x (deep + 1) U W w3 hc2 hx hf (hok (by unfold nest; simp [h9])) hw hk).mono ?_
        rintro e w' ⟨A, cc, rfl, ho, hb⟩
        exact ⟨A, cc, rfl, .inl ho, hb⟩
    · rw [if_neg h9] at hr
      obtain ⟨hnum, rfl, hdv, hpv⟩ := hx
      obtain ⟨Ad, cd, rfl, -⟩ := id hdv
      obtain ⟨Ap, cp, rfl, -⟩ := hpv.slice
      by_cases h5 : t.kind = 5 ∨ t.kind = 6
      · rw [if_pos h5] at hr
        obtain ⟨rfl, -⟩ := hr
        refine ⟨_, _, _, rfl, fun w3 hw => ?_, .inr (.inr (.inl ⟨rfl, rfl, rfl⟩))⟩
        have hn : numW t x = 0 := by unfold numW; rw [if_pos (by omega)]
        have hd : datW (encW n) t x = x.data := by unfold datW; rw [if_pos h5]
        rw [hn, hd]
        refine (wr5 x.num x.data.length x.parts.length Ad Ap cd cp w3).mono ?_
        rintro e w' ⟨rfl, hb⟩
        exact ⟨Ad, cd, rfl, .inr hdv, hb⟩
      · rw [if_neg h5] at hr
        obtain ⟨rfl, -⟩ := hr
        refine ⟨_, _, _, rfl, fun w3 hw => ?_, .inr (.inr (.inr ⟨rfl, rfl, rfl⟩))⟩
        have hn : numW t x = x.num := by unfold numW; rw [if_neg (by omega)]
        have hd : datW (encW n) t x = [] := by unfold datW; rw [if_neg h5, if_neg h8, if_neg h9]
        rw [hn, hd]
        refine (wr3 x.num x.data.length x.parts.length Ad Ap cd cp w3).mono ?_
        rintro e w' ⟨rfl, hb⟩
        exact ⟨none, 0, rfl, .inr (Rd.nil W), hb⟩
/-- The box of write. -/
def B1 (w : World) (num : Nat) (Ad : Option Addr) (dl cd : Nat) (Ap : Option Addr) (pl cp : Nat) (W : World) : Prop :=
  Below w.heap.size w W ∧ w.heap.size + 1 ≤ W.heap.size ∧ hp W w.heap.size = some (.cells #[.int .u64 (num : Int), .slice Ad dl cd, .slice Ap pl cp] 32 (0, 0))
theorem B1.below {w : World} {num : Nat} {Ad : Option Addr} {dl cd : Nat} {Ap : Option Addr} {pl cp : Nat} {W W' : World} (h : B1 w num Ad dl cd Ap pl cp W) (hb : Below W.heap.size W W') : B1 w num Ad dl cd Ap pl cp W' :=
  ⟨h.1.trans (hb.mono h.1.size), Nat.le_trans h.2.1 hb.size, below_hp h.2.2 hb⟩
theorem B1.grown {w : World} {num : Nat} {Ad : Option Addr} {dl cd : Nat} {Ap : Option Addr} {pl cp : Nat} {W W' : World} {row : Option Nat} (h : B1 w num Ad dl cd Ap pl cp W) (hk : ∀ q, q < W.heap.size → row ≠ some q → W'.heap[q]? = W.heap[q]?) (hr : ∀ q, row = some q → w.heap.size + 1 ≤ q)
    (hb : Below w.heap.size w W') (hs : W.heap.size ≤ W'.heap.size) : B1 w num Ad dl cd Ap pl cp W' := by
  have hs3 := h.2.1
  exact ⟨hb, by omega, (hk _ (by omega) (fun e => by have := hr _ e; omega)).trans h.2.2⟩
theorem chk_parts (f : Slot → Vu.Va → Vu.Flt) : ∀ (s : List Slot) (p : List Vu.Va), (Vu.chkGo f s p).2.2 = 0 → ∀ (i : Nat) (h1 : i < s.length) (h2 : i < p.length), (f s[i] p[i]).2.2 = 0
  | [], _, _, i, h1, _ => absurd h1 (by simp)
  | _ :: _, [], _, i, _, h2 => absurd h2 (by simp)
  | t :: s, x :: p, h, i, h1, h2 => by
    simp only [Vu.chkGo] at h
    split at h
    · rename_i h3; exact absurd h h3
    · rename_i h3
      cases i with
      | zero => exact Classical.byContradiction h3
      | succ i => exact chk_parts f s p h i (by simpa using h1) (by simpa using h2)
set_option maxHeartbeats 4000000 in
set_option maxRecDepth 100000 in
theorem write (n : Nat) (IH : WrSaid n) : WrSaid (n + 1) := by
  intro S k j g l nv dv pv x deep U W w hc hx hf hl hB hk
  obtain ⟨j, rfl⟩ : ∃ q, j = q + 1 := by cases j with
    | zero => exact hl.elim
    | succ j => exact ⟨j, rfl⟩
  obtain ⟨h16, hall⟩ := hl
  rw [Rq.chk_succ] at hk
  split at hk
  · cases hk
  split at hk
  · cases hk
  rename_i hpl
  have hkp := chk_parts _ l x.parts hk
  obtain ⟨hnum, rfl, hdv, hpv⟩ := hx
  obtain ⟨Ad, cd, rfl, -⟩ := hdv
  obtain ⟨Ap, cp, rfl, -⟩ := hpv.slice
  obtain ⟨k, rfl⟩ := hpv.pos
  obtain ⟨hf1, hf2, hf3⟩ := hf
  obtain ⟨-, Ac, cc, hg, hcs⟩ := hc
  have hzl : (List.zipWith (fdW (encW n)) l x.parts).length = l.length := by simp; omega
  obtain ⟨w2, hw2⟩ : ∃ y, y = w.alloc (.cells #[.int .u64 (x.num : Int), .slice Ad x.data.length cd, .slice Ap x.parts.length cp] 32) := ⟨_, rfl⟩
  have hbx : B1 w x.num Ad x.data.length cd Ap x.parts.length cp w2 := by
    rw [hw2]; exact ⟨vb _ _, by simp, hp_alloc_at _ _ rfl⟩
  have hgc := fun i => hp_cell (below_hp hg (hB.trans (hbx.1.mono hB.size))) i
  have hclo := fun (i : Nat) (h1 : i < l.length) (h2 : i < x.parts.length) => hkp i h1 h2
  obtain ⟨R, hR⟩ : ∃ R, R = encW (n + 1) l x := ⟨_, rfl⟩
  rw [← hR]
  unfold encW at hR
  have HC := Lib.hid hclo; have HBX := Lib.hid hbx; have HPV := Lib.hid hpv; have HB := Lib.hid hB; have HCS := Lib.hid hcs; have HF := Lib.hid hf3; have HIH := Lib.hid IH; have HR := Lib.hid hR; have HZL := Lib.hid hzl; have HALL := Lib.hid hall
  have hWw := HB.out.size
  clear hclo hpv hB hbx hk hkp hf3 hf1 hcs IH hR hzl hg hall
  go_enter Tryz.func57, Tryz.ntmps57
  go_upto_region 1 with fail
  rw [← hw2]
  clear hw2
  go_wp2_with fail
  clear hgc
  go_loopw [5, 16] (fun s u wr => ∃ (i : Nat) (A : Option Addr) (c : Nat) (xs : List Value), i ≤ l.length ∧ u = .int .i64 i ∧ s = .slice A i c ∧ Uf wr (w.heap.size + 1) ((List.zipWith (fdW (encW n)) l x.parts).take i) A c xs ∧ B1 w x.num Ad x.data.length cd Ap x.parts.length cp wr) (fun _ u _ => l.length - (intOf u).toNat)
  case atStart => exact ⟨0, none, 0, [], by omega, rfl, rfl, Uf.nil _ _, HBX.out⟩
  case round =>
    obtain ⟨i, A, c, xs, hi, rfl, rfl, hu, hbx⟩ := hrel
    have hlt : ((List.zipWith (fdW (encW n)) l x.parts).take i).length = i := by rw [List.length_take, HZL.out]; omega
    have hws := hbx.2.1
    by_cases hin : i < l.length
    · have hin2 : i < x.parts.length := by omega
      have hinz : i < (List.zipWith (fdW (encW n)) l x.parts).length := by rw [HZL.out]; exact hin
      have hbr : Below W.heap.size W wr := HB.out.trans (hbx.1.mono hWw)
      obtain ⟨bc, rfl, hSb, hsl⟩ := HCS.out (by omega)
      obtain ⟨hwf, hbnd, chk, wrv, rdv, c0, c1, c2, c3, c4, hrdy⟩ := hsl i l[i] (by simp [hin])
      obtain ⟨ad, rfl, dv2, pv2, g1, g2, g3, g4⟩ := HPV.out.at_ i hin2
      have K : ∀ a u, W.cell? a = some u → wr.cell? a = some u := fun a u hu => (World.cell?_of_block (hbr.block _ (World.block_lt_of_cell? W _ hu))).trans hu
      replace g1 := K _ _ g1; replace g2 := K _ _ g2; replace g3 := K _ _ g3
      replace c0 := K _ _ c0; replace c1 := K _ _ c1; replace c2 := K _ _ c2; replace c3 := K _ _ c3; replace c4 := K _ _ c4
      have htk : (List.zipWith (fdW (encW n)) l x.parts).take (i + 1) = (List.zipWith (fdW (encW n)) l x.parts).take i ++ [fdW (encW n) l[i] x.parts[i]] := by rw [List.take_succ_eq_append_getElem hinz, List.getElem_zipWith]
      obtain ⟨F, B, C, hwe, hcl, his⟩ := clo n HIH.out U S k j l[i] chk wrv rdv _ dv2 pv2 x.parts[i] deep W hrdy ((HALL.out l[i] (List.getElem_mem hin)).2.2.2.1) g4 (HF.out _ (List.getElem_mem hin2)) (HC.out i hin hin2)
      obtain ⟨⟨fc, ac, ccc, hce⟩, ⟨fr, ar, cr, hre⟩⟩ := rdy_all hrdy
      subst hwe hce hre
      have hfd : fdW (encW n) l[i] x.parts[i] = ⟨l[i].no, (wt l[i].kind : Nat), numW l[i] x.parts[i], datW (encW n) l[i] x.parts[i]⟩ := rfl
      have hfb : numW l[i] x.parts[i] < 18446744073709551616 := by
        unfold numW; split
        · decide
        · exact g4.1
      have hdb : (datW (encW n) l[i] x.parts[i]).length ≤ 5000000 := by
        unfold datW
        split
        · have := (HF.out _ (List.getElem_mem hin2)).1; omega
        · split
          · have := encW_len n l[i].sub x.parts[i]; omega
          · split
            · have := Ep.join_len (x.parts[i].parts.map (encW n l[i].sub)); omega
            · simp
      rw [hfd] at htk
      generalize numW l[i] x.parts[i] = nm at *
      generalize datW (encW n) l[i] x.parts[i] = dd at *
      obtain ⟨hz1, -, hz3, hz4⟩ := id g4
      generalize x.parts[i] = z at *
      generalize l[i].no = no at *
      generalize wt l[i].kind = wk at *
      obtain ⟨Ad2, cd2, rfl, -⟩ := hz3
      obtain ⟨Ap2, cp2, rfl, -⟩ := hz4.slice
      obtain ⟨q, hpz⟩ : ∃ q, ad.add (i * 3) = q := ⟨_, rfl⟩
      rw [Rs.add_lit _ _ _ (by omega)] at g2 g3
      rw [hpz] at g1 g2 g3
      obtain ⟨w4, hw4⟩ : ∃ y, y = wr.alloc (.cells #[.int .i64 no, .int .i64 (wk : Int), .func (.func fc) ac ccc, .func (.func F) B C, .func (.func fr) ar cr] 149) := ⟨_, rfl⟩
      have hb4 : Below wr.heap.size wr w4 := by rw [hw4]; exact vb _ _
      have hs4 : hp w4 wr.heap.size = some (.cells #[.int .i64 no, .int .i64 (wk : Int), .func (.func fc) ac ccc, .func (.func F) B C, .func (.func fr) ar cr] 149 (0, 0)) := by rw [hw4]; exact hp_alloc_at _ _ rfl
      have hx4 := hbx.below hb4
      have hu4 := hu.below hb4
      have hz4s : w4.heap.size = wr.heap.size + 1 := by rw [hw4]; simp
      have K4 : ∀ a u, wr.cell? a = some u → w4.cell? a = some u := fun a u hu => (World.cell?_of_block (hb4.block _ (World.block_lt_of_cell? wr _ hu))).trans hu
      have g1' := K4 _ _ g1; have g2' := K4 _ _ g2; have g3' := K4 _ _ g3
      have hsc := fun i => hp_cell hs4 i
      have hxc := fun i => hp_cell hx4.2.2 i
      have hbw4 := hbr.trans (hb4.mono hbr.size)
      have hcw : ∀ w3, Below w4.heap.size w4 w3 → Calls Tryz.prog F (B ++ #[.agg #[.int .u64 (z.num : Int), .slice Ad2 z.data.length cd2, .slice Ap2 z.parts.length cp2]] ++ C) w3 fun e w' => ∃ Af cf, e = .returned (.agg #[.int .i64 0, .int .i64 0, .int .u64 (nm : Int), .slice Af dd.length cf]) ∧ Oo W w3.heap.size w' (.slice Af dd.length cf) dd ∧ Below w3.heap.size w3 w' := fun w3 h => hcl w3 (hbw4.trans (h.mono hbw4.size))
      have hqb : q.block < wr.heap.size := World.block_lt_of_cell? wr _ g1
      have HCW := Lib.hid hcw; have HX4 := Lib.hid hx4; have HU4 := Lib.hid hu4; have HTK := Lib.hid htk; have HB4 := Lib.hid hb4; have HS4 := Lib.hid hs4; have HBW4 := Lib.hid hbw4; have HFB := Lib.hid hfb; have HDB := Lib.hid hdb
      clear hcw hx4 hu4 htk hb4 hs4 hbw4 hfb hdb hcl hrdy hsl hwf hbnd g4 hz1 hz4 K K4 hbr hu hbx hfd
      go_upto_region 5 with fail
      rw [← hw4]
      clear hw4 c0 c1 c2 c3 c4 g1 g2 g3
      have n1 : ¬ q.block = w4.heap.size := by omega
      have n2 : ¬ w4.heap.size = q.block := by omega
      have n3 : ¬ wr.heap.size = w4.heap.size := by omega
      have n4 : ¬ w4.heap.size = wr.heap.size := by omega
      have n5 : ¬ w.heap.size = w4.heap.size := by omega
      have n6 : ¬ w4.heap.size = w.heap.size := by omega
      have n7 : wr.heap.size < w4.heap.size := by omega
      have n8 : w.heap.size < w4.heap.size := by omega
      have n9 : q.block < w4.heap.size := by omega
      clear hz4s
      have e7 : (w4.alloc (.cells #[.int .i64 0, .int .i64 0, .int .u64 0, .slice none 0 0] 140)).cell? q = some (.int .u64 (z.num : Int)) := by rw [World.cell?_alloc_lt _ _ _ n9]; exact g1'
      have e8 : (w4.alloc (.cells #[.int .i64 0, .int .i64 0, .int .u64 0, .slice none 0 0] 140)).cell? ⟨q.block, q.off + 1, none⟩ = some (.slice Ad2 z.data.length cd2) := by rw [World.cell?_alloc_lt _ _ _ (by exact n9)]; exact g2'
      have e9 : (w4.alloc (.cells #[.int .i64 0, .int .i64 0, .int .u64 0, .slice none 0 0] 140)).cell? ⟨q.block, q.off + 2, none⟩ = some (.slice Ap2 z.parts.length cp2) := by rw [World.cell?_alloc_lt _ _ _ (by exact n9)]; exact g3'
      have e5 : ∀ i, ((w4.alloc (.cells #[.int .i64 0, .int .i64 0, .int .u64 0, .slice none 0 0] 140))).cell? ⟨w.heap.size, i, none⟩ = (#[.int .u64 (x.num : Int), .slice Ad x.data.length cd, .slice (some ad) x.parts.length cp] : Array Value)[i]? := fun i => by rw [World.cell?_alloc_lt _ _ _ (by simpa using n8)]; exact hxc i
      have e6 : ∀ i, ((w4.alloc (.cells #[.int .i64 0, .int .i64 0, .int .u64 0, .slice none 0 0] 140))).cell? ⟨wr.heap.size, i, none⟩ = (#[.int .i64 no, .int .i64 (wk : Int), .func (.func fc) ac ccc, .func (.func F) B C, .func (.func fr) ar cr] : Array Value)[i]? := fun i => by rw [World.cell?_alloc_lt _ _ _ (by simpa using n7)]; exact hsc i
      go_cut [8] from 17 to 39 (fun p wx => ∃ g Af cf, p = .pointer (some ⟨g, 0, none⟩) ∧ hp wx g = some (.cells #[.int .i64 0, .int .i64 0, .int .u64 (nm : Int), .slice Af dd.length cf] 140 (0, 0)) ∧ Below w4.heap.size w4 wx ∧ w4.heap.size ≤ g ∧ Og W w4.heap.size wx g (.slice Af dd.length cf) dd)
      case first =>
        rcases his with ⟨rfl, rfl, b9, rfl⟩ | ⟨rfl, ⟨lc, lp, lq, rfl⟩, rfl⟩ | ⟨rfl, rfl, rfl⟩ | ⟨rfl, rfl, rfl⟩
        · skip
          have hcw1 : ∀ w3, Below w4.heap.size w4 w3 → Calls Tryz.prog 124 #[.agg #[.int .u64 (z.num : Int), .slice Ad2 z.data.length cd2, .slice Ap2 z.parts.length cp2], .pointer (some ⟨b9, 0, none⟩)] w3 fun e w' => ∃ Af cf, e = .returned (.agg #[.int .i64 0, .int .i64 0, .int .u64 (nm : Int), .slice Af dd.length cf]) ∧ Oo W w3.heap.size w' (.slice Af dd.length cf) dd ∧ Below w3.heap.size w3 w' := HCW.out
          have HCW1 := Lib.hid hcw1
          clear hcw1 HCW
          go_region_with (go_at_call 124; refine (HCW1.out _ (by first | exact (Below.refl _ _).drew | exact ((Below.refl _ _).alloc (by simp) _).drew)).mono ?_; rintro _ w6 ⟨Af, cf, rfl, hd6, b6⟩; (first | (have hA := alloc_first b6 hd6; have hzac := fun i => hp_cell hA.1 i; have hzaf := fun i => hp_frozen hA.1 i; have HZA := Lib.hid hA; clear hA) | (have HZB := Lib.hid (call_first b6 hd6))); clear b6 hd6)
          all_goals
            go_wp2_with fail
            go_meet
            first | exact ⟨_, _, _, rfl, hp_set4 HZA.out.1 _ _ _ _, below_set4 HZA.out.2.1 (Nat.le_refl _) _ _ _ _, Nat.le_refl _, HZA.out.2.2 _ _ _ _⟩ | exact ⟨_, _, _, rfl, hp_alloc_at _ _ rfl, HZB.out.1.alloc HZB.out.1.size _, HZB.out.1.size, HZB.out.2 _⟩
        · skip
          have hcw1 : ∀ w3, Below w4.heap.size w4 w3 → Calls Tryz.prog 127 #[.agg #[.pointer (some ⟨lc, 0, none⟩), .int .u64 (lp : Int), .int .u64 (lq : Int)], .agg #[.int .u64 (z.num : Int), .slice Ad2 z.data.length cd2, .slice Ap2 z.parts.length cp2]] w3 fun e w' => ∃ Af cf, e = .returned (.agg #[.int .i64 0, .int .i64 0, .int .u64 (nm : Int), .slice Af dd.length cf]) ∧ Oo W w3.heap.size w' (.slice Af dd.length cf) dd ∧ Below w3.heap.size w3 w' := HCW.out
          have HCW1 := Lib.hid hcw1
          clear hcw1 HCW
          go_region_with (go_at_call 127; refine (HCW1.out _ (by first | exact (Below.refl _ _).drew | exact ((Below.refl _ _).alloc (by simp) _).drew)).mono ?_; rintro _ w6 ⟨Af, cf, rfl, hd6, b6⟩; (first | (have hA := alloc_first b6 hd6; have hzac := fun i => hp_cell hA.1 i; have hzaf := fun i => hp_frozen hA.1 i; have HZA := Lib.hid hA; clear hA) | (have HZB := Lib.hid (call_first b6 hd6))); clear b6 hd6)
          all_goals
            go_wp2_with fail
            go_meet
            first | exact ⟨_, _, _, rfl, hp_set4 HZA.out.1 _ _ _ _, below_set4 HZA.out.2.1 (Nat.le_refl _) _ _ _ _, Nat.le_refl _, HZA.out.2.2 _ _ _ _⟩ | exact ⟨_, _, _, rfl, hp_alloc_at _ _ rfl, HZB.out.1.alloc HZB.out.1.size _, HZB.out.1.size, HZB.out.2 _⟩
        · skip
          have hcw1 : ∀ w3, Below w4.heap.size w4 w3 → Calls Tryz.prog 122 #[.agg #[.int .u64 (z.num : Int), .slice Ad2 z.data.length cd2, .slice Ap2 z.parts.length cp2]] w3 fun e w' => ∃ Af cf, e = .returned (.agg #[.int .i64 0, .int .i64 0, .int .u64 (nm : Int), .slice Af dd.length cf]) ∧ Oo W w3.heap.size w' (.slice Af dd.length cf) dd ∧ Below w3.heap.size w3 w' := HCW.out
          have HCW1 := Lib.hid hcw1
          clear hcw1 HCW
          go_region_with (go_at_call 122; refine (HCW1.out _ (by first | exact (Below.refl _ _).drew | exact ((Below.refl _ _).alloc (by simp) _).drew)).mono ?_; rintro _ w6 ⟨Af, cf, rfl, hd6, b6⟩; (first | (have hA := alloc_first b6 hd6; have hzac := fun i => hp_cell hA.1 i; have hzaf := fun i => hp_frozen hA.1 i; have HZA := Lib.hid hA; clear hA) | (have HZB := Lib.hid (call_first b6 hd6))); clear b6 hd6)
          all_goals
            go_wp2_with fail
            go_meet
            first | exact ⟨_, _, _, rfl, hp_set4 HZA.out.1 _ _ _ _, below_set4 HZA.out.2.1 (Nat.le_refl _) _ _ _ _, Nat.le_refl _, HZA.out.2.2 _ _ _ _⟩ | exact ⟨_, _, _, rfl, hp_alloc_at _ _ rfl, HZB.out.1.alloc HZB.out.1.size _, HZB.out.1.size, HZB.out.2 _⟩
        · skip
          have hcw1 : ∀ w3, Below w4.heap.size w4 w3 → Calls Tryz.prog 119 #[.agg #[.int .u64 (z.num : Int), .slice Ad2 z.data.length cd2, .slice Ap2 z.parts.length cp2]] w3 fun e w' => ∃ Af cf, e = .returned (.agg #[.int .i64 0, .int .i64 0, .int .u64 (nm : Int), .slice Af dd.length cf]) ∧ Oo W w3.heap.size w' (.slice Af dd.length cf) dd ∧ Below w3.heap.size w3 w' := HCW.out
          have HCW1 := Lib.hid hcw1
          clear hcw1 HCW
          go_region_with (go_at_call 119; refine (HCW1.out _ (by first | exact (Below.refl _ _).drew | exact ((Below.refl _ _).alloc (by simp) _).drew)).mono ?_; rintro _ w6 ⟨Af, cf, rfl, hd6, b6⟩; (first | (have hA := alloc_first b6 hd6; have hzac := fun i => hp_cell hA.1 i; have hzaf := fun i => hp_frozen hA.1 i; have HZA := Lib.hid hA; clear hA) | (have HZB := Lib.hid (call_first b6 hd6))); clear b6 hd6)
          all_goals
            go_wp2_with fail
            go_meet
            first | exact ⟨_, _, _, rfl, hp_set4 HZA.out.1 _ _ _ _, below_set4 HZA.out.2.1 (Nat.le_refl _) _ _ _ _, Nat.le_refl _, HZA.out.2.2 _ _ _ _⟩ | exact ⟨_, _, _, rfl, hp_alloc_at _ _ rfl, HZB.out.1.alloc HZB.out.1.size _, HZB.out.1.size, HZB.out.2 _⟩
      case rest =>
        obtain ⟨g6, Af, cf, rfl, hg6, hb6, hge, hog⟩ := hcut
        obtain ⟨wa, hwa⟩ : ∃ y, y = wc := ⟨_, rfl⟩
        subst hwa
        have hgc := fun i => hp_cell hg6 i
        have hgf := fun i => hp_frozen hg6 i
        have hs6 := below_hp HS4.out hb6
        have hsc6 := fun i => hp_cell hs6 i
        have m1 : ¬ wr.heap.size = g6 := by omega
        have m2 : ¬ g6 = wr.heap.size := by omega
        clear hsc hxc e5 e6 e7 e8 e9 g1' g2' g3' n1 n2 n3 n4 n5 n6 his HCW
        go_upto_region 6 with fail
        go_cut [8] from 17 to 39 (fun p wx => p = .pointer (some ⟨g6, 0, none⟩) ∧ hp wx g6 = some (.cells #[.int .i64 no, .int .i64 (wk : Int), .int .u64 (nm : Int), .slice Af dd.length cf] 140 (0, 0)) ∧ Chg (fun k => k = g6) wa wx)
        case first =>
          go_region
          all_goals
            go_wp2_with fail
            go_meet
            exact ⟨rfl, (hp_drew _).trans (heap_setCell_same _ g6 1 _ _ (.int .i64 (wk : Int)) (heap_setCell_same _ g6 0 _ _ (.int .i64 no) hg6)), ((Chg.store wa ⟨g6, 0, none⟩ (.int .i64 no)).trans (Chg.store _ ⟨g6, 1, none⟩ (.int .i64 (wk : Int)))).drew⟩
        case rest =>
          obtain ⟨rfl, hg7, hch⟩ := hcut
          obtain ⟨w7, hw7⟩ : ∃ y, y = wc := ⟨_, rfl⟩
          subst hw7
          have hwa := hb6.size
          have hb7 : Below w4.heap.size w4 w7 := hch.below hb6 (fun k e => by omega) hwa
          have hu7 := HU4.out.below hb7
          have hx7 := HX4.out.below hb7
          have hg7c := fun i => hp_cell hg7 i
          have hrow7 : w7.ownsRow (w.heap.size + 1) 140 4 (.slice A i c) i xs := by have := hu7.row; rwa [hlt] at this
          have hd7 : Dt w7 (Value.slice A ((List.zipWith (fdW (encW n)) l x.parts).take i).length c).ownBlock (.slice Af dd.length cf) dd := by
            rcases hog with ⟨ho, hne⟩ | ho
            · exact dt_own (w := w4) (ho.chg hch (fun k e1 e2 => hne (by rw [e1, e2]))) (fun k e => (HU4.out.row.lt k e).2)
            · exact dt_old (w := w7) ho (HBW4.out.trans (hb7.mono HBW4.out.size)) (fun k e => by have := (HU4.out.row.lt k e).1; omega)
          obtain ⟨A8, c8, w8, hap, o8, z8, e81, e82, e83, k8, ow8⟩ := pushF hrow7 (by have := hx7.2.1; omega) (by omega) (.int .i64 no) (.int .i64 (wk : Int)) (.int .u64 (nm : Int)) (.slice Af dd.length cf) (by
            intro u hu
            simp only [List.mem_cons, List.not_mem_nil, or_false] at hu
            rcases hu with rfl | rfl | rfl | rfl <;> rfl)
          have hup := hu7.step (w6 := w7) (A' := A8) (c' := c8) ⟨no, (wk : Int), nm, dd⟩ Af cf ⟨HFB.out, HDB.out⟩ (Below.refl _ _) hd7 (by rw [hlt]; exact o8) z8 (by rw [hlt]; exact k8) (by rw [hlt]; exact ow8)
          rw [← HTK.out] at hup
          have hb8 : Below w.heap.size w w8 := ⟨e81.trans hx7.1.os, e82.trans hx7.1.tape, e83.trans hx7.1.output, by have := hx7.1.size; omega, fun q hq => (k8 q (by have := hx7.2.1; omega) (fun e => by have := (hrow7.lt q e).1; omega)).trans (hx7.1.block q hq)⟩
          have hx8 := hx7.grown k8 (fun q e => (hrow7.lt q e).1) hb8 (by omega)
          have HUP := Lib.hid hup; have HX8 := Lib.hid hx8
          clear hup hx8 hb8 hd7 o8 z8 e81 e82 e83 k8 ow8 hrow7 hx7 hu7 hb7 hog hch hb6 hgc hgf hs6 hsc6
          go_wp2_with fail
          go_roundw
          case rel => exact ⟨i + 1, A8, c8, _, by omega, by go_num, rfl, HUP.out, HX8.out⟩
          case measure => simp [intOf]; omega
    · obtain rfl : i = l.length := by omega
      rw [List.take_of_length_le (by rw [HZL.out]; exact Nat.le_refl _)] at hu
      have hrd := hu.rd
      have he := Eb.encode _ (List.zipWith (fdW (encW n)) l x.parts) wr wr hrd (Below.refl _ _) (by rw [HZL.out]; omega)
      rw [← HR.out, HZL.out] at he
      have HE := Lib.hid he; have HBX2 := Lib.hid hbx
      clear he hrd hu hbx hlt HR
      go_wp2_with (go_at_call 9999)
      go_at_call 83
      refine HE.out.mono ?_
      rintro _ w5 ⟨v5, rfl, ho5, b5⟩
      have HO5 := Lib.hid (ho5.mono (base' := w.heap.size) (by omega)); have HB5 := Lib.hid (HBX2.out.1.trans (b5.mono HBX2.out.1.size))
      clear ho5 b5
      go_wp2_with fail
      go_ret
      exact ⟨_, rfl, HO5.out, HB5.out⟩
theorem writeAll : ∀ n, WrSaid n := by
  intro n
  induction n with
  | zero => exact fun S k j g l nv dv pv x deep U W w hc => hc.elim
  | succ n ih => exact write n ih
end Go.Proofs.YtinngljphjdpoaaGreatDoor.Ew
