/- The reference's encode. -/
import Derived.Test.YtinngljphjdpoaaGreatDoorJEw
import Derived.Test.YtinngljphjdpoaaGreatDoorJRt
import Derived.Test.YtinngljphjdpoaaGreatDoorJVs
import Derived.BigRegion
import Derived.Deep.RegionWith
import Derived.Deep.RegionHeld3
import Derived.Deep.DeepCutAuto
namespace Go.Proofs.YtinngljphjdpoaaGreatDoor.Ex
open Go Go.RowKit Go.Proofs.YtinngljphjdpoaaGreatDoor.Pa Go.Proofs.YtinngljphjdpoaaGreatDoor.Pb Go.Proofs.YtinngljphjdpoaaGreatDoor.Pf Go.Proofs.YtinngljphjdpoaaGreatDoor.Pq Go.Proofs.YtinngljphjdpoaaGreatDoor.Sc Go.Proofs.YtinngljphjdpoaaGreatDoor.Rs Go.Proofs.YtinngljphjdpoaaGreatDoor.Hs Go.Proofs.YtinngljphjdpoaaGreatDoor.Va Go.Proofs.YtinngljphjdpoaaGreatDoor.Ca Go.Proofs.YtinngljphjdpoaaGreatDoor.Ce Go.Proofs.YtinngljphjdpoaaGreatDoor.Ea Go.Proofs.YtinngljphjdpoaaGreatDoor.Eb Go.Proofs.YtinngljphjdpoaaGreatDoor.Eq Go.Proofs.YtinngljphjdpoaaGreatDoor.Es Go.Proofs.YtinngljphjdpoaaGreatDoor.Ew Go.Proofs.YtinngljphjdpoaaGreatDoor.Hx Go.Proofs.YtinngljphjdpoaaGreatDoor.Vo
set_option linter.unusedVariables false
set_option linter.unusedSimpArgs false
/-- A part that is right has what its shape has. -/
theorem part_is {U : List UInt8 → Bool} {n : Nat} {t : Slot} {x : Vu.Va} {deep : Int} (h8 : t.kind ≠ 8) (hk : (Rq.partOf U n t x deep).2.2 = 0) : Vu.isOf t x = true := by
  unfold Rq.partOf at hk
  rw [if_neg h8] at hk
  split at hk
  · rename_i h1; exact absurd hk h1
  · rename_i h1
    cases hi : Vu.isOf t x with
    | true => rfl
    | false =>
      exfalso; apply h1
      unfold Rp.plainOf
      rw [if_pos hi]; decide
theorem ref_num {U : List UInt8 → Bool} {n : Nat} {t : Slot} {x : Vu.Va} {deep : Int} (hk : (Rq.partOf U n t x deep).2.2 = 0) : numW t x = if t.kind = 8 then 0 else x.num := by
  by_cases h8 : t.kind = 8
  · unfold numW; rw [if_pos (by omega), if_pos h8]
  · have hi := part_is h8 hk
    rw [if_neg h8]
    unfold numW
    unfold Vu.isOf at hi
    by_cases h5 : t.kind = 5 ∨ t.kind = 6
    · rw [if_pos h5] at hi
      simp at hi
      rw [if_pos (by omega), hi.1]
    · rw [if_neg h5] at hi
      by_cases h9 : t.kind = 9
      · rw [if_pos (by omega)] at hi
        simp at hi
        rw [if_pos (by omega), hi.1]
      · rw [if_neg (by omega)]
theorem ref_dat {U : List UInt8 → Bool} {n : Nat} {t : Slot} {x : Vu.Va} {deep : Int} (e : List Slot → Vu.Va → List UInt8) (h8 : t.kind ≠ 8) (h9 : t.kind ≠ 9) (hk : (Rq.partOf U n t x deep).2.2 = 0) : datW e t x = x.data := by
  have hi := part_is h8 hk
  unfold datW
  by_cases h5 : t.kind = 5 ∨ t.kind = 6
  · rw [if_pos h5]
  · rw [if_neg h5, if_neg h8, if_neg h9]
    unfold Vu.isOf at hi
    rw [if_neg h5, if_neg (by omega)] at hi
    simp at hi
    rw [hi.1]
/-- What encode answers. -/
def REnc (n : Nat) : Prop := ∀ (k j : Nat) (sv nv dv pv : Value) (l : List Slot) (x : Vu.Va) (deep : Int) (U : List UInt8 → Bool) (W w : World), RdS W n sv l → okL j l → Vu.RdV W k nv dv pv x → FewV (k + 1) x → Below W.heap.size W w → (Vu.chk Vh.pF U n l x deep).2.2 = 0 →
  Calls Tryz.prog 58 #[sv, .agg #[nv, dv, pv]] w fun e w' => ∃ v', e = .returned v' ∧ Pb.Own w' w.heap.size 5 v' (encW n l x) ∧ Below w.heap.size w w'
/-- An item behind a list: the row, and what stays. -/
theorem item_push {wr w6 : World} {base : Nat} {l : List (List UInt8)} {A2 A6 : Option Addr} {y c2 c6 : Nat} {xs2 : List Value} {d : List UInt8} (ho6 : Pb.Own w6 wr.drew.heap.size 5 (.slice A6 d.length c6) d) (b6 : Below wr.drew.heap.size wr.drew w6) (hu : Ui wr base l A2 c2 xs2) (hl : l.length = y) (hd : d.length ≤ 5000000) (hb : base ≤ wr.heap.size) (hy : y ≤ 20000) :
    ∃ A8 c8 w8, (appX #[53, 53] 53 #[.slice A2 y c2, .slice (some ⟨w6.heap.size, 0, none⟩) 1 1]).run Tryz.prog (w6.alloc (.cells #[.slice A6 d.length c6] 23)) = .ok (.slice A8 (y + 1) c8) w8 ∧
      Ui w8 base (l ++ [d]) A8 c8 (xs2 ++ [.slice A6 d.length c6]) ∧ Below base wr w8 ∧
      (∀ a u, a.block < base → wr.cell? a = some u → (w6.alloc (.cells #[.slice A6 d.length c6] 23)).cell? a = some u) ∧ (∀ a u, a.block < base → wr.cell? a = some u → w6.cell? a = some u) ∧ (∀ a u, a.block < base → wr.cell? a = some u → w8.cell? a = some u) := by
  subst hl
  have hwr6 : Below wr.heap.size wr w6 := (Below.refl _ _).drew.trans (b6.mono (Nat.le_of_eq (by simp)))
  have hu6 := hu.below hwr6
  have hs6 := hwr6.size
  obtain ⟨A8, c8, w8, hap, o8, z8, e81, e82, e83, k8, ow8⟩ := pushI hu6.row (by omega) hy (.slice A6 d.length c6) (by intro u hu; simp only [List.mem_cons, List.not_mem_nil, or_false] at hu; subst hu; rfl)
  have hd6 : Dt w6 (Value.slice A2 l.length c2).ownBlock (.slice A6 d.length c6) d := dt_own (w := wr) (by simpa using ho6) (fun k e => (hu.row.lt k e).2)
  have hup := hu6.step (w6 := w6) (A' := A8) (c' := c8) d A6 c6 hd (Below.refl _ _) hd6 o8 z8 k8 ow8
  have hb8 : Below base wr w8 := ⟨e81.trans hwr6.os, e82.trans hwr6.tape, e83.trans hwr6.output, by omega, fun q hq => (k8 q (by omega) (fun e => by have := (hu6.row.lt q e).1; omega)).trans (hwr6.block q (by omega))⟩
  have f6 : ∀ a u, a.block < base → wr.cell? a = some u → w6.cell? a = some u := fun a u ha hu => (World.cell?_of_block (hwr6.block _ (by omega))).trans hu
  refine ⟨A8, c8, w8, hap, hup, hb8, fun a u ha hu => ?_, f6, fun a u ha hu => (World.cell?_of_block (hb8.block _ ha)).trans hu⟩
  rw [World.cell?_alloc_lt _ _ _ (by omega)]
  exact f6 a u ha hu
set_option maxHeartbeats 800000 in
set_option maxRecDepth 100000 in
theorem encode (n : Nat) (IH : REnc n) : REnc (n + 1) := by
  intro k j sv nv dv pv l x deep U W w hs hl hx hf hB hk
  obtain ⟨j, rfl⟩ : ∃ q, j = q + 1 := by cases j with
    | zero => exact hl.elim
    | succ j => exact ⟨j, rfl⟩
  obtain ⟨h16, hall⟩ := hl
  rw [Rq.chk_succ] at hk
  split at hk
  · cases hk
  split at hk
  · cases hk
  rename_i hpl
  have hkp := chk_parts _ l x.parts hk
  obtain ⟨C, cc, rfl, -⟩ := hs.slice
  obtain ⟨hnum, rfl, hdv, hpv⟩ := hx
  obtain ⟨Ad, cd, rfl, -⟩ := hdv
  obtain ⟨Ap, cp, rfl, -⟩ := hpv.slice
  obtain ⟨k, rfl⟩ := hpv.pos
  obtain ⟨hf1, hf2, hf3⟩ := hf
  have hzl : (List.zipWith (fdW (encW n)) l x.parts).length = l.length := by simp; omega
  obtain ⟨w2, hw2⟩ : ∃ y, y = w.alloc (.cells #[.int .u64 (x.num : Int), .slice Ad x.data.length cd, .slice Ap x.parts.length cp] 32) := ⟨_, rfl⟩
  have hbx : B1 w x.num Ad x.data.length cd Ap x.parts.length cp w2 := by
    rw [hw2]; exact ⟨vb _ _, by simp, hp_alloc_at _ _ rfl⟩
  obtain ⟨R, hR⟩ : ∃ R, R = encW (n + 1) l x := ⟨_, rfl⟩
  rw [← hR]
  unfold encW at hR
  have HKP := Lib.hid (fun (i : Nat) (h1 : i < l.length) (h2 : i < x.parts.length) => hkp i h1 h2); have HBX := Lib.hid hbx; have HPV := Lib.hid hpv; have HB := Lib.hid hB; have HS := Lib.hid hs; have HF := Lib.hid hf3; have HIH := Lib.hid IH; have HR := Lib.hid hR; have HZL := Lib.hid hzl; have HALL := Lib.hid hall
  have hWw := HB.out.size
  clear hpv hB hbx hk hkp hf3 hf1 hs IH hR hzl hall
  go_enter Tryz.func58, Tryz.ntmps58
  go_upto_region 1 with fail
  rw [← hw2]
  clear hw2
  go_wp2_with fail
  go_loopw [5, 6] (fun s u wr => ∃ (i : Nat) (A : Option Addr) (c : Nat) (xs : List Value), i ≤ l.length ∧ u = .int .i64 i ∧ s = .slice A i c ∧ Uf wr (w.heap.size + 1) ((List.zipWith (fdW (encW n)) l x.parts).take i) A c xs ∧ B1 w x.num Ad x.data.length cd Ap x.parts.length cp wr) (fun _ u _ => l.length - (intOf u).toNat)
  case atStart => exact ⟨0, none, 0, [], by omega, rfl, rfl, Uf.nil _ _, HBX.out⟩
  case round =>
    obtain ⟨i, A, c, xs, hi, rfl, rfl, hu, hbx⟩ := hrel
    have hlt : ((List.zipWith (fdW (encW n)) l x.parts).take i).length = i := by rw [List.length_take, HZL.out]; omega
    have hws := hbx.2.1
    by_cases hin : i < l.length
    · have hin2 : i < x.parts.length := by omega
      have hinz : i < (List.zipWith (fdW (encW n)) l x.parts).length := by rw [HZL.out]; exact hin
      have hbr : Below W.heap.size W wr := HB.out.trans (hbx.1.mono hWw)
      obtain ⟨ad1, rfl, hwf, sv, hsl, hrd⟩ := HS.out.at_ i hin
      obtain ⟨ad, rfl, dv2, pv2, g1, g2, g3, g4⟩ := HPV.out.at_ i hin2
      have K : ∀ a u, W.cell? a = some u → wr.cell? a = some u := fun a u hu => (World.cell?_of_block (hbr.block _ (World.block_lt_of_cell? W _ hu))).trans hu
      replace g1 := K _ _ g1; replace g2 := K _ _ g2; replace g3 := K _ _ g3
      have hslW := hsl
      replace hsl := hsl.keep (hbr.block _ hsl.lt)
      have htk : (List.zipWith (fdW (encW n)) l x.parts).take (i + 1) = (List.zipWith (fdW (encW n)) l x.parts).take i ++ [fdW (encW n) l[i] x.parts[i]] := by rw [List.take_succ_eq_append_getElem hinz, List.getElem_zipWith]
      have hkp := HKP.out i hin hin2
      have hti := HALL.out l[i] (List.getElem_mem hin)
      have hft := HF.out x.parts[i] (List.getElem_mem hin2)
      have hdb : (datW (encW n) l[i] x.parts[i]).length ≤ 5000000 := by
        unfold datW
        split
        · have := hft.1; omega
        · split
          · have := encW_len n l[i].sub x.parts[i]; omega
          · split
            · have := Ep.join_len (x.parts[i].parts.map (encW n l[i].sub)); omega
            · simp
      have hfb : numW l[i] x.parts[i] < 18446744073709551616 := by
        unfold numW; split
        · decide
        · exact g4.1
      generalize x.parts[i] = z at *
      generalize l[i] = t at *
      have hfd : fdW (encW n) t z = ⟨t.no, (wt t.kind : Nat), numW t z, datW (encW n) t z⟩ := rfl
      rw [hfd] at htk
      obtain ⟨no, kind, least, most, sub⟩ := t
      have hrn := ref_num hkp
      obtain ⟨i1, i2, i3, i4, i5⟩ := hti
      obtain ⟨c0, c1, c2, c3, c4⟩ := hsl
      simp only [Slot.no, Slot.kind, Slot.least, Slot.most, Slot.sub] at c0 c1 c2 c3 c4 hrd i1 i2 i4 i5 htk hrn
      obtain ⟨C2, cc2, rfl, -⟩ := hrd.slice
      obtain ⟨hz1, -, hz3, hz4⟩ := id g4
      obtain ⟨Ad2, cd2, rfl, -⟩ := id hz3
      obtain ⟨Ap2, cp2, rfl, -⟩ := hz4.slice
      obtain ⟨q, hpz⟩ : ∃ q, ad.add (i * 3) = q := ⟨_, rfl⟩
      rw [Rs.add_lit _ _ _ (by omega)] at g2 g3
      rw [hpz] at g1 g2 g3
      obtain ⟨p, hpp⟩ : ∃ p, ad1.add (i * 5) = p := ⟨_, rfl⟩
      rw [hpp] at c0 c1 c2 c3 c4
      obtain ⟨w4, hw4⟩ : ∃ y, y = wr.alloc (.cells #[.int .u64 (z.num : Int), .slice Ad2 z.data.length cd2, .slice Ap2 z.parts.length cp2] 32) := ⟨_, rfl⟩
      have hb4 : Below wr.heap.size wr w4 := by rw [hw4]; exact vb _ _
      have hz4b : hp w4 wr.heap.size = some (.cells #[.int .u64 (z.num : Int), .slice Ad2 z.data.length cd2, .slice Ap2 z.parts.length cp2] 32 (0, 0)) := by rw [hw4]; exact hp_alloc_at _ _ rfl
      have hx4 := hbx.below hb4
      have hu4 := hu.below hb4
      have hz4s : w4.heap.size = wr.heap.size + 1 := by rw [hw4]; simp
      have hpb : p.block < wr.heap.size := World.block_lt_of_cell? wr _ c0
      have K4 : ∀ a u, wr.cell? a = some u → w4.cell? a = some u := fun a u hu => (World.cell?_of_block (hb4.block _ (World.block_lt_of_cell? wr _ hu))).trans hu
      have d0 := K4 _ _ c0; have d1 := K4 _ _ c1; have d4 := K4 _ _ c4
      have hzc := fun i => hp_cell hz4b i
      have hxr := fun i => hp_cell hbx.2.2 i
      have hbw4 := hbr.trans (hb4.mono hbr.size)
      have HX4 := Lib.hid hx4; have HU4 := Lib.hid hu4; have HTK := Lib.hid htk; have HZ4 := Lib.hid hz4b; have HBW4 := Lib.hid hbw4; have HFB := Lib.hid hfb; have HDB := Lib.hid hdb; have HKP2 := Lib.hid hkp; have HRN := Lib.hid hrn; have HRD := Lib.hid hrd; have HG4 := Lib.hid g4; have HFT := Lib.hid hft; have HI4 := Lib.hid i4; have HZ3 := Lib.hid hz3; have HI3 := Lib.hid i3
      clear hx4 hu4 htk hz4b hb4 hbw4 hfb hdb hkp hrn hrd g4 hft i1 i2 i3 i4 i5 hz1 hz3 hz4 K K4 hbr hu hbx hfd hwf hslW
      go_upto_region 6 with fail
      rw [← hw4]
      clear hw4 c0 c1 c2 c3 c4 g1 g2 g3 hxr
      have n1 : ¬ p.block = w4.heap.size := by omega
      have n2 : ¬ w4.heap.size = p.block := by omega
      have n3 : ¬ wr.heap.size = w4.heap.size := by omega
      have n4 : ¬ w4.heap.size = wr.heap.size := by omega
      have n7 : wr.heap.size < w4.heap.size := by omega
      have n9 : p.block < w4.heap.size := by omega
      clear hz4s
      have e6 : ∀ i, ((w4.alloc (.cells #[.int .i64 0, .int .i64 0, .int .u64 0, .slice none 0 0] 140))).cell? ⟨wr.heap.size, i, none⟩ = (#[.int .u64 (z.num : Int), .slice Ad2 z.data.length cd2, .slice Ap2 z.parts.length cp2] : Array Value)[i]? := fun i => by rw [World.cell?_alloc_lt _ _ _ (by simpa using n7)]; exact hzc i
      have e7 : (w4.alloc (.cells #[.int .i64 0, .int .i64 0, .int .u64 0, .slice none 0 0] 140)).cell? p = some (.int .i64 no) := by rw [World.cell?_alloc_lt _ _ _ n9]; exact d0
      have e8 : (w4.alloc (.cells #[.int .i64 0, .int .i64 0, .int .u64 0, .slice none 0 0] 140)).cell? ⟨p.block, p.off + 1, none⟩ = some (.int .i64 kind) := by rw [World.cell?_alloc_lt _ _ _ (by exact n9)]; exact d1
      generalize hwk : wt kind = wk at *
      go_cut [8] from 13 to 88 (fun p wx => ∃ g, p = .pointer (some ⟨g, 0, none⟩) ∧ hp wx g = some (.cells #[.int .i64 no, .int .i64 (wk : Int), .int .u64 (z.num : Int), .slice Ad2 z.data.length cd2] 140 (0, 0)) ∧ Below w4.heap.size w4 wx ∧ w4.heap.size ≤ g)
      case first =>
        have RT := Lib.hid (fun w => Vs.rtype kind w)
        rw [hwk] at RT
        have z0 : w4.cell? ⟨wr.heap.size, 0, none⟩ = some (.int .u64 (z.num : Int)) := by rw [hzc]; rfl
        have z1 : w4.cell? ⟨wr.heap.size, 1, none⟩ = some (.slice Ad2 z.data.length cd2) := by rw [hzc]; rfl
        clear e6 e7 e8 hzc
        go_region_held3 (fun w' => w'.cell? p = some (.int .i64 no) ∧ w'.cell? ⟨p.block, p.off + 1, none⟩ = some (.int .i64 kind) ∧ w'.cell? ⟨wr.heap.size, 0, none⟩ = some (.int .u64 (z.num : Int)) ∧ w'.cell? ⟨wr.heap.size, 1, none⟩ = some (.slice Ad2 z.data.length cd2)) (go_keep) (first | (go_at_call 78; refine (RT.out _).mono ?_; rintro _ w6 ⟨rfl, rfl⟩))
        all_goals
          go_wp2_with fail
          go_meet
          exact ⟨_, rfl, (hp_drew _).trans (hp_alloc_at _ _ rfl), (vb _ _).drew, Nat.le_refl _⟩
      case rest =>
        obtain ⟨g6, rfl, hg6, hb6, hge⟩ := hcut
        obtain ⟨wa, hwa⟩ : ∃ y, y = wc := ⟨_, rfl⟩
        subst hwa
        have hwas := hb6.size
        have hgc := fun i => hp_cell hg6 i
        have hgf := fun i => hp_frozen hg6 i
        have q0 := (World.cell?_of_block (hb6.block _ (World.block_lt_of_cell? w4 _ d0))).trans d0
        have q1 := (World.cell?_of_block (hb6.block _ (World.block_lt_of_cell? w4 _ d1))).trans d1
        have q4 := (World.cell?_of_block (hb6.block _ (World.block_lt_of_cell? w4 _ d4))).trans d4
        have hz6 := below_hp HZ4.out hb6
        have hzc6 := fun i => hp_cell hz6 i
        have m1 : ¬ p.block = g6 := by omega
        have m2 : ¬ g6 = p.block := by omega
        have m3 : ¬ wr.heap.size = g6 := by omega
        have m4 : ¬ g6 = wr.heap.size := by omega
        have HB6 := Lib.hid hb6; have HG6 := Lib.hid hg6; have HZ6 := Lib.hid hz6
        clear hzc e6 e7 e8 d0 d1 d4 n1 n2 n3 n4 n7 n9 hb6 hg6 hz6
        by_cases h8 : kind = 8
        · subst h8
          have hnm : numW (.mk no 8 least most sub) z = 0 := by unfold numW; rw [if_pos (by simp [Slot.kind])]
          have hdt : datW (encW n) (.mk no 8 least most sub) z = encW n sub z := by unfold datW; rw [if_neg (by simp [Slot.kind]), if_pos (by simp [Slot.kind])]; rfl
          have hck : (Vu.chk Vh.pF U n sub z (deep + 1)).2.2 = 0 := by
            have := HKP2.out
            unfold Rq.partOf at this
            rwa [if_pos (by simp [Slot.kind])] at this
          rw [hnm, hdt] at HTK
          rw [hdt] at HDB
          have hcall := fun wx (h : Below W.heap.size W wx) => HIH.out k j _ _ _ _ sub z (deep + 1) U W wx HRD.out (HI4.out rfl) HG4.out HFT.out h hck
          obtain ⟨dd, hdd⟩ : ∃ dd, dd = encW n sub z := ⟨_, rfl⟩
          rw [← hdd] at hcall HTK HDB
          obtain ⟨wb, hwb⟩ : ∃ y, y = wa.setCell ⟨g6, 2, none⟩ (.int .u64 0) := ⟨_, rfl⟩
          have hbb : Below w4.heap.size w4 wb := by rw [hwb]; exact HB6.out.setCell hge _
          have hgb : hp wb g6 = some (.cells #[.int .i64 no, .int .i64 (wk : Int), .int .u64 0, .slice Ad2 z.data.length cd2] 140 (0, 0)) := by rw [hwb]; exact heap_setCell_same _ g6 2 _ _ _ HG6.out
          have hzb : hp wb wr.heap.size = some (.cells #[.int .u64 (z.num : Int), .slice Ad2 z.data.length cd2, .slice Ap2 z.parts.length cp2] 32 (0, 0)) := by rw [hwb]; exact set_hp HZ6.out m3
          have qb : wb.cell? ⟨p.block, p.off + 4, none⟩ = some (.slice C2 sub.length cc2) := by
            rw [hwb]
            exact (World.cell?_of_block (heap_setCell_other _ _ _ _ m1)).trans q4
          have hsb : wb.heap.size = wa.heap.size := by rw [hwb]; simp [World.setCell]
          have hglt : g6 < wb.heap.size := (Array.getElem?_eq_some_iff.1 hgb).1
          have hzbc := fun i => hp_cell hzb i
          have HBB := Lib.hid hbb; have HGB := Lib.hid hgb
          have hcall9 := fun (h : Below W.heap.size W wb) => hcall wb.drew h.drew
          clear hcall hbb hgb hzb hck hnm hdt hdd
          go_upto_region 10 with fail
          rw [← hwb]
          clear hwb q0 q1 q4 hgc hgf hzc6
          have z0 : wb.cell? ⟨wr.heap.size, 0, none⟩ = some (.int .u64 (z.num : Int)) := by rw [hzbc]; rfl
          have z1 : wb.cell? ⟨wr.heap.size, 1, none⟩ = some (.slice Ad2 z.data.length cd2) := by rw [hzbc]; rfl
          have z2 : wb.cell? ⟨wr.heap.size, 2, none⟩ = some (.slice Ap2 z.parts.length cp2) := by rw [hzbc]; rfl
          have hpl9 : p.block < wb.heap.size := by have := World.block_lt_of_cell? wb _ qb; exact this
          have hwl9 : wr.heap.size < wb.heap.size := by have := World.block_lt_of_cell? wb _ z0; exact this
          have hcb := hcall9 (HBW4.out.trans (HBB.out.mono HBW4.out.size))
          have HCB := Lib.hid hcb
          clear hzbc hcb
          go_region_held3 (fun w' => w'.cell? ⟨p.block, p.off + 4, none⟩ = some (.slice C2 sub.length cc2) ∧ w'.cell? ⟨wr.heap.size, 0, none⟩ = some (.int .u64 (z.num : Int)) ∧ w'.cell? ⟨wr.heap.size, 1, none⟩ = some (.slice Ad2 z.data.length cd2) ∧ w'.cell? ⟨wr.heap.size, 2, none⟩ = some (.slice Ap2 z.parts.length cp2)) (go_keep) (first | (go_at_call 58; refine HCB.out.mono ?_; rintro _ w6 ⟨v6, rfl, ho6, b6⟩; obtain ⟨A6, c6, rfl⟩ := ho6.slice; have k0 := (World.cell?_of_block (a := ⟨p.block, p.off + 4, none⟩) (b6.block p.block hpl9)).trans qb; have k1 := (World.cell?_of_block (a := ⟨wr.heap.size, 0, none⟩) (b6.block wr.heap.size hwl9)).trans z0; have k2 := (World.cell?_of_block (a := ⟨wr.heap.size, 1, none⟩) (b6.block wr.heap.size hwl9)).trans z1; have k3 := (World.cell?_of_block (a := ⟨wr.heap.size, 2, none⟩) (b6.block wr.heap.size hwl9)).trans z2; have hg6c := fun i => hp_cell (below_hp HGB.out ((Below.refl _ _).drew.trans (b6.mono (Nat.le_of_eq (by simp))))) i; have hg6f := fun i => hp_frozen (below_hp HGB.out ((Below.refl _ _).drew.trans (b6.mono (Nat.le_of_eq (by simp))))) i; have HO6 := Lib.hid ho6; have HBX6 := Lib.hid ((Below.refl wb.heap.size wb).drew.trans (b6.mono (Nat.le_of_eq (by simp)))); clear ho6 b6))
          all_goals
            obtain ⟨w9, hw9⟩ : ∃ y, y = w6.setCell ⟨g6, 3, none⟩ (.slice A6 dd.length c6) := ⟨_, rfl⟩
            rw [← hw9]
            obtain ⟨Af, hAf⟩ : ∃ y, y = A6 := ⟨_, rfl⟩
            subst hAf
            obtain ⟨cf, hcf⟩ : ∃ y, y = c6 := ⟨_, rfl⟩
            subst hcf
            have hg9 : hp w9 g6 = some (.cells #[.int .i64 no, .int .i64 (wk : Int), .int .u64 0, .slice Af dd.length cf] 140 (0, 0)) := by rw [hw9]; exact heap_setCell_same _ g6 3 _ _ _ (below_hp HGB.out HBX6.out)
            have hb9 : Below w4.heap.size w4 w9 := by rw [hw9]; exact (HBB.out.trans (HBX6.out.mono HBB.out.size)).setCell hge _
            have hd9 : Dt w9 (Value.slice A ((List.zipWith (fdW (encW n)) l x.parts).take i).length c).ownBlock (.slice Af dd.length cf) dd := by
              rw [hw9]
              refine dt_own (w := wb) ?_ (fun k e => by have := (HU4.out.row.lt k e).2; have := HBB.out.size; omega)
              exact Own.chg (S := fun k => k = g6) HO6.out (Chg.store _ ⟨g6, 3, none⟩ _) (fun k e1 e2 => by have := (HO6.out.lt k e1).1; simp at this; omega)
            clear hw9
            have hu9 := HU4.out.below hb9
            have hx9 := HX4.out.below hb9
            clear hb9 qb
            have hg9c := fun i => hp_cell hg9 i
            have hrow9 : w9.ownsRow (w.heap.size + 1) 140 4 (.slice A i c) i xs := by have := hu9.row; rwa [hlt] at this
            obtain ⟨A8, c8, w8, hap, o8, z8, e81, e82, e83, k8, ow8⟩ := pushF hrow9 (by have := hx9.2.1; omega) (by omega) (.int .i64 no) (.int .i64 (wk : Int)) (.int .u64 0) (.slice Af dd.length cf) (by
              intro u hu
              simp only [List.mem_cons, List.not_mem_nil, or_false] at hu
              rcases hu with rfl | rfl | rfl | rfl <;> rfl)
            have hup := hu9.step (w6 := w9) (A' := A8) (c' := c8) ⟨no, (wk : Int), 0, dd⟩ Af cf ⟨by show (0 : Nat) < 18446744073709551616; decide, HDB.out⟩ (Below.refl _ _) hd9 (by rw [hlt]; exact o8) z8 (by rw [hlt]; exact k8) (by rw [hlt]; exact ow8)
            rw [← HTK.out] at hup
            have hb8 : Below w.heap.size w w8 := ⟨e81.trans hx9.1.os, e82.trans hx9.1.tape, e83.trans hx9.1.output, by have := hx9.1.size; omega, fun q hq => (k8 q (by have := hx9.2.1; omega) (fun e => by have := (hrow9.lt q e).1; omega)).trans (hx9.1.block q hq)⟩
            have hx8 := hx9.grown k8 (fun q e => (hrow9.lt q e).1) hb8 (by omega)
            have HUP := Lib.hid hup; have HX8 := Lib.hid hx8
            clear hup hx8 hb8 hd9 o8 z8 e81 e82 e83 k8 ow8 hrow9 hx9 hu9 hg9
            go_wp2_with fail
            go_roundw
            case rel => exact ⟨i + 1, A8, c8, _, by omega, by go_num, rfl, HUP.out, HX8.out⟩
            case measure => simp [intOf]; omega
        · by_cases h9 : kind = 9
          · subst h9
            have hnn : numW (.mk no 9 least most sub) z = z.num := by
              have := ref_num HKP2.out
              simpa [Slot.kind] using this
            have hdt : datW (encW n) (.mk no 9 least most sub) z = Ep.join (z.parts.map (encW n sub)) := by unfold datW; rw [if_neg (by simp [Slot.kind]), if_neg (by simp [Slot.kind]), if_pos (by simp [Slot.kind])]; rfl
            have hck : (Vu.itemsGo (fun y => Vu.chk Vh.pF U n sub y (deep + 1)) z.parts).2.2 = 0 := by
              have := HKP2.out
              unfold Rq.partOf at this
              rw [if_neg (by simp [Slot.kind])] at this
              split at this
              · rename_i h1; exact absurd this h1
              · simpa [Slot.kind, Slot.sub] using this
            have hko := items_ok _ z.parts hck
            rw [hnn, hdt] at HTK
            rw [hdt] at HDB
            have hzn : z.num < 18446744073709551616 := HG4.out.1
            have hpz := HG4.out.2.2.2
            obtain ⟨k, rfl⟩ := hpz.pos
            have hit := fun (y : Nat) (hy : y < z.parts.length) (nv3 dv3 pv3 : Value) (hr3 : Vu.RdV W k nv3 dv3 pv3 z.parts[y]) wx (h : Below W.heap.size W wx) => HIH.out k j _ _ _ _ sub z.parts[y] (deep + 1) U W wx HRD.out (HI4.out rfl) hr3 (HFT.out.2.2 _ (List.getElem_mem hy)) h (hko _ (List.getElem_mem hy))
            have hzl2 : z.parts.length ≤ 10000 := HFT.out.2.1
            have HITM := Lib.hid hit; have HPZ := Lib.hid hpz
            have hbwa := HBW4.out.trans (HB6.out.mono HBW4.out.size)
            have HBWA := Lib.hid hbwa
            have hpa : p.block < wa.heap.size := by have := World.block_lt_of_cell? wa _ q4; exact this
            have hwra : wr.heap.size < wa.heap.size := (Array.getElem?_eq_some_iff.1 HZ6.out).1
            have Q4 := Lib.hid q4
            clear hit hpz hck hko hdt hbwa
            go_wp2_with fail
            clear q0 q1 hgc hgf
            obtain ⟨wz, hwz⟩ : ∃ y, y = wr := ⟨_, rfl⟩
            subst hwz
            go_loopw [9, 10] (fun s u wr2 => ∃ (y : Nat) (A2 : Option Addr) (c2 : Nat) (xs2 : List Value), y ≤ z.parts.length ∧ u = .int .i64 y ∧ s = .slice A2 y c2 ∧ Ui wr2 wa.heap.size ((z.parts.take y).map (encW n sub)) A2 c2 xs2 ∧ Below wa.heap.size wa wr2) (fun _ u _ => z.parts.length - (intOf u).toNat)
            case atStart => exact ⟨0, none, 0, [], by omega, rfl, rfl, Ui.nil _ _, Below.refl _ _⟩
            case round =>
              obtain ⟨y, A2, c2, xs2, hy, rfl, rfl, hui, hbi⟩ := hrel
              have hlt2 : ((z.parts.take y).map (encW n sub)).length = y := by simp; omega
              have hbis := hbi.size
              have hz7 : hp wr wz.heap.size = some (.cells #[.int .u64 (z.num : Int), .slice Ad2 z.data.length cd2, .slice Ap2 z.parts.length cp2] 32 (0, 0)) := (hbi.hp _ hwra).trans HZ6.out
              have hz7c := fun i => hp_cell hz7 i
              by_cases hyn : y < z.parts.length
              · obtain ⟨ad3, rfl, dv3, pv3, g1, g2, g3, g4⟩ := HPZ.out.at_ y hyn
                have hbWr : Below W.heap.size W wr := HBWA.out.trans (hbi.mono HBWA.out.size)
                have K : ∀ a u, W.cell? a = some u → wr.cell? a = some u := fun a u hu => (World.cell?_of_block (hbWr.block _ (World.block_lt_of_cell? W _ hu))).trans hu
                have hqW : (ad3.add (y * 3)).block < wa.heap.size := by have := World.block_lt_of_cell? W _ g1; have := HBWA.out.size; omega
                replace g1 := K _ _ g1; replace g2 := K _ _ g2; replace g3 := K _ _ g3
                have s0 := (World.cell?_of_block (a := ⟨p.block, p.off + 4, none⟩) (hbi.block p.block hpa)).trans Q4.out
                have hca := HITM.out y hyn _ dv3 pv3 g4 wr.drew hbWr.drew
                have htk2 : (z.parts.take (y + 1)).map (encW n sub) = (z.parts.take y).map (encW n sub) ++ [encW n sub z.parts[y]] := by rw [List.take_succ_eq_append_getElem hyn, List.map_append]; rfl
                have hrl : (encW n sub z.parts[y]).length ≤ 5000000 := Nat.le_trans (encW_len n sub _) (by omega)
                obtain ⟨hz1, -, hz3', hz4⟩ := id g4
                generalize z.parts[y] = v at *
                obtain ⟨dd, hdd⟩ : ∃ dd, dd = encW n sub v := ⟨_, rfl⟩
                rw [← hdd] at hca htk2 hrl
                obtain ⟨Ad3, cd3, rfl, -⟩ := hz3'
                obtain ⟨Ap3, cp3, rfl, -⟩ := hz4.slice
                obtain ⟨q3, hq3⟩ : ∃ q, ad3.add (y * 3) = q := ⟨_, rfl⟩
                rw [Rs.add_lit _ _ _ (by omega)] at g2 g3
                rw [hq3] at g1 g2 g3 hqW
                have s1 : wr.cell? ⟨wz.heap.size, 2, none⟩ = some (.slice (some ad3) z.parts.length cp2) := by rw [hz7c]; rfl
                have HCA := Lib.hid hca; have HTK2 := Lib.hid htk2; have HUI := Lib.hid hui; have HBI := Lib.hid hbi; have HRL := Lib.hid hrl
                clear hca htk2 hui hbi hrl hdd g4 hz1 hz4 K hbWr hz7
                go_upto_region 16 with fail
                clear hz7c
                go_region_held3 (fun w' => w'.cell? ⟨p.block, p.off + 4, none⟩ = some (.slice C2 sub.length cc2) ∧ w'.cell? ⟨wz.heap.size, 2, none⟩ = some (.slice (some ad3) z.parts.length cp2) ∧ w'.cell? q3 = some (.int .u64 (v.num : Int)) ∧ w'.cell? ⟨q3.block, q3.off + 1, none⟩ = some (.slice Ad3 v.data.length cd3) ∧ w'.cell? ⟨q3.block, q3.off + 2, none⟩ = some (.slice Ap3 v.parts.length cp3)) (go_keep) (first | (go_at_call 58; refine HCA.out.mono ?_; rintro _ w6 ⟨v6, rfl, ho6, b6⟩; obtain ⟨A6, c6, rfl⟩ := ho6.slice; obtain ⟨A8, c8, w8, hap, HUP, HB8, hl6, hf6, hf8⟩ := item_push ho6 b6 HUI.out hlt2 HRL.out hbis (by omega); have k0 := hf6 ⟨p.block, p.off + 4, none⟩ _ hpa s0; have k1 := hf6 ⟨wz.heap.size, 2, none⟩ _ hwra s1; have k2 := hf6 q3 _ hqW g1; have k3 := hf6 ⟨q3.block, q3.off + 1, none⟩ _ hqW g2; have k4 := hf6 ⟨q3.block, q3.off + 2, none⟩ _ hqW g3; have j0 := hf8 ⟨p.block, p.off + 4, none⟩ _ hpa s0; have j1 := hf8 ⟨wz.heap.size, 2, none⟩ _ hwra s1; have j2 := hf8 q3 _ hqW g1; have j3 := hf8 ⟨q3.block, q3.off + 1, none⟩ _ hqW g2; have j4 := hf8 ⟨q3.block, q3.off + 2, none⟩ _ hqW g3; have i0 := hl6 ⟨p.block, p.off + 4, none⟩ _ hpa s0; have i1 := hl6 ⟨wz.heap.size, 2, none⟩ _ hwra s1; have i2 := hl6 q3 _ hqW g1; have i3 := hl6 ⟨q3.block, q3.off + 1, none⟩ _ hqW g2; have i4 := hl6 ⟨q3.block, q3.off + 2, none⟩ _ hqW g3; clear ho6 b6 hf6 hf8 hl6))
                all_goals
                  go_wp2_with fail
                  go_roundw
                all_goals first | exact ⟨y + 1, A8, c8, _, by omega, by go_num, rfl, by rw [HTK2.out]; exact HUP, HBI.out.trans HB8⟩ | (simp [intOf]; omega)
              · obtain rfl : y = z.parts.length := by omega
                rw [List.take_length] at hui
                have hrdi := hui.rd
                have hj := Eu.joinR _ (z.parts.map (encW n sub)) wr wr hrdi (Below.refl _ _) (by simp; omega)
                have hlm : (z.parts.map (encW n sub)).length = z.parts.length := by simp
                rw [hlm] at hj
                obtain ⟨dd, hdd⟩ : ∃ dd, dd = Ep.join (z.parts.map (encW n sub)) := ⟨_, rfl⟩
                rw [← hdd] at hj HTK HDB
                have hg7 := (hbi.hp _ (show g6 < wa.heap.size from (Array.getElem?_eq_some_iff.1 HG6.out).1)).trans HG6.out
                have HJ := Lib.hid hj; have HG7 := Lib.hid hg7; have HBI := Lib.hid hbi
                have hglt : g6 < wr.heap.size := (Array.getElem?_eq_some_iff.1 hg7).1
                clear hj hrdi hui hlt2 hlm hg7 hbi hz7 hdd
                go_wp2_with (go_at_call 9999)
                go_at_call 84
                refine HJ.out.mono ?_
                rintro _ w6 ⟨v6, rfl, ho6, b6⟩
                obtain ⟨A6, c6, rfl⟩ := ho6.slice
                have hg6b := below_hp HG7.out b6
                have hg6c := fun i => hp_cell hg6b i
                have hg6f := fun i => hp_frozen hg6b i
                obtain ⟨w9, hw9⟩ : ∃ y, y = w6.setCell ⟨g6, 3, none⟩ (.slice A6 dd.length c6) := ⟨_, rfl⟩
                have hg9 : hp w9 g6 = some (.cells #[.int .i64 no, .int .i64 (wk : Int), .int .u64 (z.num : Int), .slice A6 dd.length c6] 140 (0, 0)) := by rw [hw9]; exact heap_setCell_same _ g6 3 _ _ _ hg6b
                have hb9 : Below w4.heap.size w4 w9 := by rw [hw9]; exact ((HB6.out.trans (HBI.out.mono HB6.out.size)).trans (b6.mono (by omega))).setCell hge _
                have hd9 : Dt w9 (Value.slice A ((List.zipWith (fdW (encW n)) l x.parts).take i).length c).ownBlock (.slice A6 dd.length c6) dd := by
                  rw [hw9]
                  refine dt_own (w := wr) ?_ (fun k e => by have := (HU4.out.row.lt k e).2; omega)
                  exact Own.chg (S := fun k => k = g6) ho6 (Chg.store _ ⟨g6, 3, none⟩ _) (fun k e1 e2 => by have := (ho6.lt k e1).1; omega)
                have HO6 := Lib.hid ho6
                clear ho6 b6 hz7c hg6b
                have hu9 := HU4.out.below hb9
                have hx9 := HX4.out.below hb9
                clear hb9
                go_upto_region 18 with fail
                rw [← hw9]
                clear hw9 hg6c hg6f
                have hg9c := fun i => hp_cell hg9 i
                have hrow9 : w9.ownsRow (w.heap.size + 1) 140 4 (.slice A i c) i xs := by have := hu9.row; rwa [hlt] at this
                obtain ⟨A8, c8, w8, hap, o8, z8, e81, e82, e83, k8, ow8⟩ := pushF hrow9 (by have := hx9.2.1; omega) (by omega) (.int .i64 no) (.int .i64 (wk : Int)) (.int .u64 (z.num : Int)) (.slice A6 dd.length c6) (by
                  intro u hu
                  simp only [List.mem_cons, List.not_mem_nil, or_false] at hu
                  rcases hu with rfl | rfl | rfl | rfl <;> rfl)
                have hup := hu9.step (w6 := w9) (A' := A8) (c' := c8) ⟨no, (wk : Int), z.num, dd⟩ A6 c6 ⟨hzn, HDB.out⟩ (Below.refl _ _) hd9 (by rw [hlt]; exact o8) z8 (by rw [hlt]; exact k8) (by rw [hlt]; exact ow8)
                rw [← HTK.out] at hup
                have hb8 : Below w.heap.size w w8 := ⟨e81.trans hx9.1.os, e82.trans hx9.1.tape, e83.trans hx9.1.output, by have := hx9.1.size; omega, fun q hq => (k8 q (by have := hx9.2.1; omega) (fun e => by have := (hrow9.lt q e).1; omega)).trans (hx9.1.block q hq)⟩
                have hx8 := hx9.grown k8 (fun q e => (hrow9.lt q e).1) hb8 (by omega)
                have HUP := Lib.hid hup; have HX8 := Lib.hid hx8
                clear hup hx8 hb8 hd9 o8 z8 e81 e82 e83 k8 ow8 hrow9 hx9 hu9 hg9
                go_wp2_with fail
                go_roundw
                case rel => exact ⟨i + 1, A8, c8, _, by omega, by go_num, rfl, HUP.out, HX8.out⟩
                case measure => simp [intOf]; omega
          · have k8 : (kind == 8) = false := by simpa using h8
            have k9 : (kind == 9) = false := by simpa using h9
            have hdd := ref_dat (t := .mk no kind least most sub) (encW n) h8 h9 HKP2.out
            have hnn : numW (.mk no kind least most sub) z = z.num := by
              have := ref_num HKP2.out
              simpa [Slot.kind, h8] using this
            rw [hdd, hnn] at HTK
            have hu9 := HU4.out.below HB6.out
            have hx9 := HX4.out.below HB6.out
            have hd9 : Dt wa (Value.slice A ((List.zipWith (fdW (encW n)) l x.parts).take i).length c).ownBlock (.slice Ad2 z.data.length cd2) z.data := dt_old (w := wa) HZ3.out (HBW4.out.trans (HB6.out.mono HBW4.out.size)) (fun k e => by have := (HU4.out.row.lt k e).1; omega)
            have hrow9 : wa.ownsRow (w.heap.size + 1) 140 4 (.slice A i c) i xs := by have := hu9.row; rwa [hlt] at this
            obtain ⟨A8, c8, w8, hap, o8, z8, e81, e82, e83, k8', ow8⟩ := pushF hrow9 (by have := hx9.2.1; omega) (by omega) (.int .i64 no) (.int .i64 (wk : Int)) (.int .u64 (z.num : Int)) (.slice Ad2 z.data.length cd2) (by
              intro u hu
              simp only [List.mem_cons, List.not_mem_nil, or_false] at hu
              rcases hu with rfl | rfl | rfl | rfl <;> rfl)
            have hup := hu9.step (w6 := wa) (A' := A8) (c' := c8) ⟨no, (wk : Int), z.num, z.data⟩ Ad2 cd2 ⟨by have := HFB.out; rwa [hnn] at this, by have := HDB.out; rwa [hdd] at this⟩ (Below.refl _ _) hd9 (by rw [hlt]; exact o8) z8 (by rw [hlt]; exact k8') (by rw [hlt]; exact ow8)
            rw [← HTK.out] at hup
            have hb8 : Below w.heap.size w w8 := ⟨e81.trans hx9.1.os, e82.trans hx9.1.tape, e83.trans hx9.1.output, by have := hx9.1.size; omega, fun q hq => (k8' q (by have := hx9.2.1; omega) (fun e => by have := (hrow9.lt q e).1; omega)).trans (hx9.1.block q hq)⟩
            have hx8 := hx9.grown k8' (fun q e => (hrow9.lt q e).1) hb8 (by omega)
            have HUP := Lib.hid hup; have HX8 := Lib.hid hx8
            clear hup hx8 hb8 hd9 o8 z8 e81 e82 e83 k8' ow8 hrow9 hx9 hu9 h8 h9 hdd hnn
            go_wp2_with fail
            go_roundw
            case rel => exact ⟨i + 1, A8, c8, _, by omega, by go_num, rfl, HUP.out, HX8.out⟩
            case measure => simp [intOf]; omega
    · obtain rfl : i = l.length := by omega
      rw [List.take_of_length_le (by rw [HZL.out]; exact Nat.le_refl _)] at hu
      have hrd := hu.rd
      have he := Eu.encode _ (List.zipWith (fdW (encW n)) l x.parts) wr wr hrd (Below.refl _ _) (by rw [HZL.out]; omega)
      rw [← HR.out, HZL.out] at he
      have HE := Lib.hid he; have HBX2 := Lib.hid hbx
      clear he hrd hu hbx hlt HR
      go_wp2_with (go_at_call 9999)
      go_at_call 85
      refine HE.out.mono ?_
      rintro _ w5 ⟨v5, rfl, ho5, b5⟩
      have HO5 := Lib.hid (ho5.mono (base' := w.heap.size) (by omega)); have HB5 := Lib.hid (HBX2.out.1.trans (b5.mono HBX2.out.1.size))
      clear ho5 b5
      go_wp2_with fail
      go_ret
      exact ⟨_, rfl, HO5.out, HB5.out⟩
theorem encodeAll : ∀ n, REnc n := by
  intro n
  induction n with
  | zero => exact fun k j sv nv dv pv l x deep U W w h => h.elim
  | succ n ih => exact encode n ih
end Go.Proofs.YtinngljphjdpoaaGreatDoor.Ex
