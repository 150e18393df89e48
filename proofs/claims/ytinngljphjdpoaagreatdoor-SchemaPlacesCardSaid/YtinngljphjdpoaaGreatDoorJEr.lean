/- The program's behind, Encode, Join. -/
import Derived.Test.YtinngljphjdpoaaGreatDoorJGn
import Derived.Test.YtinngljphjdpoaaGreatDoorJCd
import Derived.Test.YtinngljphjdpoaaGreatDoorJKu
namespace Go.Proofs.YtinngljphjdpoaaGreatDoor.Eb
open Go Go.RowKit Go.Proofs.YtinngljphjdpoaaGreatDoor.Pa Go.Proofs.YtinngljphjdpoaaGreatDoor.Pb Go.Proofs.YtinngljphjdpoaaGreatDoor.Pf Go.Proofs.YtinngljphjdpoaaGreatDoor.Nz Go.Proofs.YtinngljphjdpoaaGreatDoor.Ce Go.Proofs.YtinngljphjdpoaaGreatDoor.Ea Go.Proofs.YtinngljphjdpoaaGreatDoor.Hx
set_option linter.unusedVariables false
set_option linter.unusedSimpArgs false
theorem run_appX {P : Program} {T E : TypeId} (hU : U8 P T E) (ty : TypeId) {w : World} {base : Nat} {v x : Value} {l m : List UInt8} (hv : Own w base E v l) (hx : Rd w x m) (hbase : base ≤ w.heap.size) (hl : l.length + m.length ≤ 140737488355328) :
    ∃ v' w', (appX #[T, T] ty #[v, x]).run P w = .ok v' w' ∧ Own w' base E v' (l ++ m) ∧ Gr w v w' v' := by
  obtain ⟨v', w', h1, h2, h3, h4⟩ := run_app hU ty hv hx hbase hl
  exact ⟨v', w', by rw [← app_x]; exact h1, h2, gr_app h3 h4⟩
/-- A field's value: its slice reads as the bytes. -/
def fv (no ty : Int) (num : Nat) (A : Option Addr) (dl c : Nat) : Value := .agg #[.int .i64 no, .int .i64 ty, .int .u64 (num : Int), .slice A dl c]
set_option maxHeartbeats 1000000 in
set_option maxRecDepth 100000 in
theorem behind {base : Nat} (v : Value) (l : List UInt8) (no ty : Int) (num : Nat) (A : Option Addr) (c : Nat) (data : List UInt8) (w : World) (hv : Own w base 5 v l) (hb : base ≤ w.heap.size) (hl : l.length ≤ 90000000)
    (h1 : 1 ≤ no) (h2 : no ≤ 536870911) (h3 : ty = 0 ∨ ty = 1 ∨ ty = 5 ∨ ty = 2) (hn : num < 18446744073709551616) (hd : data.length ≤ 5000000) (hrd : ∀ w', Below base w w' → Rd w' (.slice A data.length c) data) :
    Calls Tryz.prog 105 #[v, .agg #[.int .i64 no, .int .i64 ty, .int .u64 (num : Int), .slice A data.length c]] w fun e w' => ∃ v', e = .returned v' ∧ Own w' base 5 v' (l ++ Ep.one ⟨no, ty, num, data⟩) ∧ Gr w v w' v' := by
  obtain ⟨w1, hw1⟩ : ∃ y, y = w.alloc (.cells #[.int .i64 no, .int .i64 ty, .int .u64 (num : Int), .slice A data.length c] 140) := ⟨_, rfl⟩
  have hb1 : Below w.heap.size w w1 := by rw [hw1]; exact vb _ _
  have hg1 : hp w1 w.heap.size = some (.cells #[.int .i64 no, .int .i64 ty, .int .u64 (num : Int), .slice A data.length c] 140 (0, 0)) := by rw [hw1]; exact hp_alloc_at _ _ rfl
  have hne : v.ownBlock ≠ some w.heap.size := fun e => by have := (hv.lt _ e).2; omega
  have hc1 := fun i => hp_cell hg1 i
  have OF := Lib.hid (of_ no ty num A data.length c (by omega) h2 (by omega) (by omega) w1)
  have hk : 8 * no.toNat + ty.toNat < 18446744073709551616 := by omega
  have hone : Ep.one ⟨no, ty, num, data⟩ = Nz.num (8 * no.toNat + ty.toNat) ++ (if ty = 0 then Nz.num num else if ty = 1 then Ep.low num 8 else if ty = 5 then Ep.low num 4 else Nz.num data.length ++ data) := rfl
  obtain ⟨R, hR⟩ : ∃ R, R = l ++ Ep.one ⟨no, ty, num, data⟩ := ⟨_, rfl⟩
  rw [← hR]
  rw [hone, ← List.append_assoc] at hR
  clear hone
  generalize 8 * no.toNat + ty.toNat = K at *
  have hls := sz_u64 K hk
  unfold sz at hls
  have HV1 := Lib.hid (hv.below hb1); have HB1 := Lib.hid hb1; have HG1 := Lib.hid hg1; have HRD := Lib.hid hrd; have HNE := Lib.hid hne; have HV := Lib.hid hv
  have HK := Lib.hid hk; have HN := Lib.hid hn
  clear hv hb1 hg1 hrd hne hk hn
  go_enter Tryz.func105, Tryz.ntmps105
  go_wp2_with (go_at_call 9999)
  rw [← hw1]
  clear hw1
  go_at_call 138
  refine OF.out.mono ?_
  rintro _ w2 ⟨rfl, b2⟩
  have hv2 := HV1.out.below b2
  have hs2 : w.heap.size < w2.heap.size := by have := (Array.getElem?_eq_some_iff.1 (below_hp HG1.out b2)).1; exact this
  have ADD := Lib.hid (add v l K HK.out w2 hv2 (by omega) (by omega))
  have HG2 := Lib.hid (below_hp HG1.out b2)
  have hgr2 : Gr w v w2 v := gr_below (HB1.out.trans (b2.mono HB1.out.size))
  have HGR2 := Lib.hid hgr2
  clear hv2 b2 hgr2 hc1
  go_wp2_with (go_at_call 9999)
  go_at_call 137
  refine ADD.out.mono ?_
  rintro _ w3 ⟨v3, rfl, ho3, gr3⟩
  have hg3 := gr3.hp HG2.out HNE.out
  have hgr3 := HGR2.out.trans gr3
  have hc3 := fun i => hp_cell hg3 i
  have hs3 : w.heap.size < w3.heap.size := Nat.lt_of_lt_of_le hs2 gr3.1.size
  have hll : (l ++ Nz.num K).length ≤ 90000010 := by simp; omega
  have hne3 : v3.ownBlock ≠ some w.heap.size := by
    rcases gr3.2 with e | ⟨b, e, hb⟩
    · rw [e]; exact HNE.out
    · rw [e]; intro h; cases h; omega
  have HO3 := Lib.hid ho3; have HGR3 := Lib.hid hgr3; have HG3 := Lib.hid hg3; have HNE3 := Lib.hid hne3
  obtain ⟨A3, c3, rfl⟩ := ho3.slice
  clear ho3 gr3 hg3 hgr3 hne3 ADD
  generalize l ++ Nz.num K = l3 at *
  have HR := Lib.hid hR; clear hR
  rcases h3 with rfl | rfl | rfl | rfl
  · have hr := HR.out
    rw [if_pos rfl] at hr
    subst hr; clear HR
    have NXT := Lib.hid (add _ l3 num HN.out w3 HO3.out (by omega) (by omega))
    go_wp2_with (go_at_call 9999)
    go_at_call 137
    refine NXT.out.mono ?_
    rintro _ w4 ⟨v4, rfl, ho4, gr4⟩
    have HO4 := Lib.hid ho4; have HGR4 := Lib.hid (HGR3.out.trans gr4); clear ho4 gr4
    go_wp2_with fail
    go_ret
    exact ⟨_, rfl, HO4.out, HGR4.out⟩
  · have hr := HR.out
    rw [if_neg (by decide), if_pos rfl] at hr
    subst hr; clear HR
    have NXT := Lib.hid (fixed _ l3 num 8 HN.out (by omega) w3 HO3.out (by omega) (by omega))
    go_wp2_with (go_at_call 9999)
    go_at_call 139
    refine NXT.out.mono ?_
    rintro _ w4 ⟨v4, rfl, ho4, gr4⟩
    have HO4 := Lib.hid ho4; have HGR4 := Lib.hid (HGR3.out.trans gr4); clear ho4 gr4
    go_wp2_with fail
    go_ret
    exact ⟨_, rfl, HO4.out, HGR4.out⟩
  · have hr := HR.out
    rw [if_neg (by decide), if_neg (by decide), if_pos rfl] at hr
    subst hr; clear HR
    have NXT := Lib.hid (fixed _ l3 num 4 HN.out (by omega) w3 HO3.out (by omega) (by omega))
    go_wp2_with (go_at_call 9999)
    go_at_call 139
    refine NXT.out.mono ?_
    rintro _ w4 ⟨v4, rfl, ho4, gr4⟩
    have HO4 := Lib.hid ho4; have HGR4 := Lib.hid (HGR3.out.trans gr4); clear ho4 gr4
    go_wp2_with fail
    go_ret
    exact ⟨_, rfl, HO4.out, HGR4.out⟩
  · have hr := HR.out
    rw [if_neg (by decide), if_neg (by decide), if_neg (by decide), ← List.append_assoc] at hr
    subst hr; clear HR
    have hw : IntKind.u64.wrap (data.length : Int) = (data.length : Int) := by rw [IntKind.wrap_u64]; omega
    have NXT := Lib.hid (add _ l3 data.length (by omega) w3.drew HO3.out.drew (by simp; omega) (by omega))
    have hsd := sz_u64 data.length (by omega)
    unfold sz at hsd
    go_upto_region 9 with fail
    go_region_with (go_at_call 137; refine NXT.out.mono ?_; rintro _ w4 ⟨v4, rfl, ho4, gr4⟩; have hgr4 := HGR3.out.trans ((gr_below (Below.refl _ _).drew).trans gr4); have hg4 := gr4.hp HG3.out HNE3.out; have hc4 := fun i => hp_cell hg4 i; obtain ⟨v5, w5, hap, ho5, gr5⟩ := run_appX Nm.u8 23 ho4 (HRD.out w4 (hgr4.toBelow HV.out hb)) (Nat.le_trans (show base ≤ w3.drew.heap.size by simp; omega) gr4.1.size) (by simp; omega); have HO5 := Lib.hid ho5; have HGR5 := Lib.hid (hgr4.trans gr5); obtain ⟨A4, c4, rfl⟩ := ho4.slice; simp only [List.length_append] at hap; clear ho4 gr4 hgr4 hg4 ho5 gr5)
    all_goals
      go_wp2_with fail
      go_ret
      exact ⟨_, rfl, HO5.out, HGR5.out⟩
/-- The slice v reads as the fields l. -/
def RdF (w : World) (v : Value) (l : List Ep.Fd) : Prop := ∃ (A : Option Addr) (c : Nat), v = .slice A l.length c ∧ (∀ f ∈ l, f.num < 18446744073709551616 ∧ f.data.length ≤ 5000000) ∧
  (0 < l.length → ∃ ad, A = some ad ∧ ∀ i f, l[i]? = some f → ∃ A' c', w.cell? (ad.add (i * 4)) = some (.int .i64 f.no) ∧ w.cell? (ad.add (i * 4 + 1)) = some (.int .i64 f.ty) ∧ w.cell? (ad.add (i * 4 + 2)) = some (.int .u64 (f.num : Int)) ∧
    w.cell? (ad.add (i * 4 + 3)) = some (.slice A' f.data.length c') ∧ Rd w (.slice A' f.data.length c') f.data)
theorem RdF.at_ {w : World} {A : Option Addr} {m c : Nat} {l : List Ep.Fd} (h : RdF w (.slice A m c) l) (i : Nat) (hi : i < l.length) :
    ∃ ad, A = some ad ∧ ∃ A' c', w.cell? (ad.add (i * 4)) = some (.int .i64 l[i].no) ∧ w.cell? (ad.add (i * 4 + 1)) = some (.int .i64 l[i].ty) ∧ w.cell? (ad.add (i * 4 + 2)) = some (.int .u64 (l[i].num : Int)) ∧
    w.cell? (ad.add (i * 4 + 3)) = some (.slice A' l[i].data.length c') ∧ Rd w (.slice A' l[i].data.length c') l[i].data := by
  obtain ⟨A0, c0, e, h1, h2⟩ := h
  simp only [Value.slice.injEq] at e
  obtain ⟨rfl, rfl, rfl⟩ := e
  obtain ⟨ad, ha, hc⟩ := h2 (by omega)
  exact ⟨ad, ha, hc i l[i] (by simp [hi])⟩
set_option maxHeartbeats 2000000 in
set_option maxRecDepth 100000 in
theorem encode (v : Value) (l : List Ep.Fd) (W w : World) (h : RdF W v l) (hB : Below W.heap.size W w) (hl : l.length ≤ 100000) :
    Calls Tryz.prog 83 #[v] w fun e w' => ∃ v', e = .returned (.tuple #[v', .int .i64 (Ep.encE l)]) ∧ Own w' w.heap.size 5 v' (Ep.enc l) ∧ Below w.heap.size w w' := by
  obtain ⟨A, c, rfl, hbd, -⟩ := id h
  obtain ⟨E, hE⟩ : ∃ E, E = Ep.encE l := ⟨_, rfl⟩
  have hen : E ≠ 0 → Ep.enc l = [] := fun h0 => by unfold Ep.enc; rw [if_neg (by rw [← hE]; exact h0)]
  have hey : E = 0 → Ep.enc l = Ep.bytes l := fun h0 => by unfold Ep.enc; rw [if_pos (by rw [← hE]; exact h0)]
  rw [← hE]
  unfold Ep.encE at hE
  obtain ⟨R, hR⟩ : ∃ R, R = Ep.enc l := ⟨_, rfl⟩
  rw [← hR] at hen hey ⊢
  clear hR
  have H := Lib.hid h; have HB := Lib.hid hB; have HBD := Lib.hid hbd; have HEN := Lib.hid hen; have HEY := Lib.hid hey
  clear h hB hbd hen hey
  have hWw := HB.out.size
  go_enter Tryz.func83, Tryz.ntmps83
  by_cases h64 : 64 < l.length
  · have h64z : (64 : Int) < (l.length : Int) := by omega
    rw [if_pos h64] at hE
    subst hE
    have hr := HEN.out (by decide)
    subst hr
    clear h64 HEN HEY
    go_wp2_with fail
    go_ret2
    exact ⟨_, rfl, Own.nil _ _ _, Below.refl _ _⟩
  · have h64z : ¬ (64 : Int) < (l.length : Int) := by omega
    rw [if_neg h64] at hE
    have hsum : Ep.sumL l ≤ l.length * 5000000 := by
      suffices hh : ∀ (s : List Ep.Fd), (∀ f ∈ s, f.data.length ≤ 5000000) → Ep.sumL s ≤ s.length * 5000000 from hh l (fun f hf => (HBD.out f hf).2)
      intro s
      induction s with
      | nil => intro _; simp [Ep.sumL]
      | cons f r ih =>
        intro hs
        have h1 := ih (fun g hg => hs g (by simp [hg]))
        have h2 := hs f (by simp)
        simp [Ep.sumL]; omega
    have HE := Lib.hid hE; clear hE
    go_wp2_with fail
    go_loopw [4, 5, 17] (fun s t u wr => ∃ (i : Nat) (x : Int) (y : Nat), i ≤ l.length ∧ u = .int .i64 i ∧ s = .int .i64 x ∧ t = .int .i64 (y : Int) ∧ Ep.errGo x (l.drop i) = Ep.errGo 0 l ∧ y + Ep.sumL (l.drop i) = Ep.sumL l ∧ Below w.heap.size w wr) (fun _ _ u _ => l.length - (intOf u).toNat)
    case atStart => exact ⟨0, 0, 0, by omega, rfl, rfl, rfl, rfl, by simp, Below.refl _ _⟩
    case round =>
      obtain ⟨i, x, y, hi, rfl, rfl, rfl, her, hsm, hbw⟩ := hrel
      have HER := Lib.hid her; have HSM := Lib.hid hsm; have HBW := Lib.hid hbw
      by_cases hin : i < l.length
      · have hbr : Below W.heap.size W wr := HB.out.trans (hbw.mono hWw)
        obtain ⟨ad, rfl, A', c', g1, g2, g3, g4, g5⟩ := H.out.at_ i hin
        have K : ∀ a u, W.cell? a = some u → wr.cell? a = some u := fun a u hu => (World.cell?_of_block (hbr.block _ (World.block_lt_of_cell? W _ hu))).trans hu
        replace g1 := K _ _ g1; replace g2 := K _ _ g2; replace g3 := K _ _ g3; replace g4 := K _ _ g4
        have hst := Ep.errGo_drop x l i hin
        have hsd := Ep.sumL_drop l i hin
        have hbf := HBD.out l[i] (List.getElem_mem hin)
        generalize l[i] = f at *
        obtain ⟨no, ty, num, data⟩ := f
        simp only at g1 g2 g3 g4 g5 hst hsd hbf
        rw [HER.out] at hst
        have hyd : y + data.length + Ep.sumL (l.drop (i + 1)) = Ep.sumL l := by omega
        obtain ⟨p, hpp⟩ : ∃ p, ad.add (i * 4) = p := ⟨_, rfl⟩
        rw [Rs.add_lit _ _ _ (by omega)] at g2 g3 g4
        rw [hpp] at g1 g2 g3 g4
        obtain ⟨w2, hw2⟩ : ∃ z, z = wr.alloc (.cells #[.int .i64 no, .int .i64 ty, .int .u64 (num : Int), .slice A' data.length c'] 140) := ⟨_, rfl⟩
        have hb2 : Below wr.heap.size wr w2 := by rw [hw2]; exact vb _ _
        have hx2 : hp w2 wr.heap.size = some (.cells #[.int .i64 no, .int .i64 ty, .int .u64 (num : Int), .slice A' data.length c'] 140 (0, 0)) := by rw [hw2]; exact hp_alloc_at _ _ rfl
        have hxc := fun i => hp_cell hx2 i
        have WR := Lib.hid (wrong no ty x num A' data.length c' data rfl (by omega) w2)
        obtain ⟨e, he⟩ : ∃ e, e = Ep.wrong ⟨no, ty, num, data⟩ x := ⟨_, rfl⟩
        rw [← he] at WR hst
        have HST := Lib.hid hst; have HX2 := Lib.hid hx2; have HB2 := Lib.hid hb2; have HYD := Lib.hid hyd; have HBF := Lib.hid hbf
        clear hst hx2 hb2 hyd hbf g5 hbr hbw her hsm hsd he K
        go_wp2_with (go_at_call 9999)
        rw [← hw2]
        clear hw2
        go_at_call 104
        refine WR.out.mono ?_
        rintro _ w3 ⟨rfl, b3⟩
        have hb3 := HBW.out.trans ((HB2.out.trans (b3.mono HB2.out.size)).mono HBW.out.size)
        have hx3 := below_hp HX2.out b3
        have hx3c := fun i => hp_cell hx3 i
        have HB3 := Lib.hid hb3
        clear hxc g1 g2 g3 g4 b3 hb3 hx3
        by_cases he0 : e = 0
        · subst he0
          have hnx := HST.out
          rw [if_neg (by decide)] at hnx
          have HNX := Lib.hid hnx.symm; clear hnx HST WR
          have hyb : y + data.length ≤ 400000000 := by have := HYD.out; omega
          go_wp2_with fail
          go_roundw
          case rel => exact ⟨i + 1, no, y + data.length, by omega, by go_num, rfl, by go_num, HNX.out, HYD.out, HB3.out⟩
          case measure => simp [intOf]; omega
        · have hnx := HST.out
          rw [if_pos he0] at hnx
          have hez : (e != 0) = true := by simpa using he0
          have hE2 := HE.out
          rw [if_pos (by rw [hnx]; exact he0), hnx] at hE2
          subst hE2
          have hr := HEN.out he0
          subst hr
          clear he0 hnx HE HEN HEY HST HER
          go_wp2_with fail
          go_ret2
          exact ⟨_, rfl, Own.nil _ _ _, HB3.out⟩
      · obtain rfl : i = l.length := by omega
        have her2 := HER.out
        have hsm2 := HSM.out
        rw [List.drop_length] at her2 hsm2
        simp only [Ep.errGo, Ep.sumL] at her2 hsm2
        have hE2 := HE.out
        rw [if_neg (by rw [← her2]; decide)] at hE2
        have hok := Ep.errGo_ok l 0 her2.symm
        clear HE HER HSM
        by_cases hs4 : 4194304 < Ep.sumL l
        · have hs4z : (4194304 : Int) < (y : Int) := by omega
          rw [if_pos hs4] at hE2
          subst hE2
          have hr := HEN.out (by decide)
          subst hr
          clear hs4 HEN HEY her2 hsm2
          go_wp2_with fail
          go_ret2
          exact ⟨_, rfl, Own.nil _ _ _, HBW.out⟩
        · have hs4z : ¬ (4194304 : Int) < (y : Int) := by omega
          rw [if_neg hs4] at hE2
          have hbl := Ep.bytes_len l HBD.out hok
          have HE2 := Lib.hid hE2; have HOK := Lib.hid hok; have HBL := Lib.hid (show (Ep.bytes l).length ≤ 5000000 by omega)
          clear hE2 hok hs4 hbl her2 hsm2 hsum
          go_wp2_with fail
          obtain ⟨wo, hwo⟩ : ∃ x, x = wr := ⟨_, rfl⟩
          subst hwo
          have HBO := Lib.hid HBW.out
          clear HBW hbw
          go_loopw [9, 39] (fun s u wr => ∃ (i : Nat) (acc : List UInt8), i ≤ l.length ∧ u = .int .i64 i ∧ Own wr w.heap.size 5 s acc ∧ acc ++ Ep.bytes (l.drop i) = Ep.bytes l ∧ Below w.heap.size w wr) (fun _ u _ => l.length - (intOf u).toNat)
          case atStart => exact ⟨0, [], by omega, rfl, Own.nil _ _ _, by simp, HBO.out⟩
          case round =>
            obtain ⟨i, acc, hi, rfl, ho, hacc, hbw⟩ := hrel
            have HO := Lib.hid ho; have HACC := Lib.hid hacc; have HBW := Lib.hid hbw
            have hal : acc.length ≤ 5000000 := by have := congrArg List.length hacc; have h2 := HBL.out; simp only [List.length_append] at this; omega
            have hbs := hbw.size
            by_cases hin : i < l.length
            · have hbr : Below W.heap.size W wr := HB.out.trans (hbw.mono hWw)
              obtain ⟨ad, rfl, A', c', g1, g2, g3, g4, g5⟩ := H.out.at_ i hin
              have K : ∀ a u, W.cell? a = some u → wr.cell? a = some u := fun a u hu => (World.cell?_of_block (hbr.block _ (World.block_lt_of_cell? W _ hu))).trans hu
              replace g1 := K _ _ g1; replace g2 := K _ _ g2; replace g3 := K _ _ g3; replace g4 := K _ _ g4
              have hst := Ep.bytes_drop l i hin
              have hbf := HBD.out l[i] (List.getElem_mem hin)
              have hkf := HOK.out l[i] (List.getElem_mem hin)
              generalize l[i] = f at *
              obtain ⟨no, ty, num, data⟩ := f
              simp only at g1 g2 g3 g4 g5 hst hbf hkf
              obtain ⟨p, hpp⟩ : ∃ p, ad.add (i * 4) = p := ⟨_, rfl⟩
              rw [Rs.add_lit _ _ _ (by omega)] at g2 g3 g4
              rw [hpp] at g1 g2 g3 g4
              obtain ⟨w2, hw2⟩ : ∃ z, z = wr.alloc (.cells #[.int .i64 no, .int .i64 ty, .int .u64 (num : Int), .slice A' data.length c'] 140) := ⟨_, rfl⟩
              have hb2 : Below wr.heap.size wr w2 := by rw [hw2]; exact vb _ _
              have hx2 : hp w2 wr.heap.size = some (.cells #[.int .i64 no, .int .i64 ty, .int .u64 (num : Int), .slice A' data.length c'] 140 (0, 0)) := by rw [hw2]; exact hp_alloc_at _ _ rfl
              have hxc := fun i => hp_cell hx2 i
              have hs2 := hb2.size
              have hbe := behind (base := w.heap.size) _ acc no ty num A' c' data w2 (HO.out.below hb2) (by omega) (by omega) hkf.1 hkf.2.1 hkf.2.2 hbf.1 hbf.2 (fun w' h' => Vu.rd_keep (HB.out.trans ((hbw.trans (hb2.mono hbs)).trans h' |>.mono hWw)).block g5)
              have hnx : acc ++ Ep.one ⟨no, ty, num, data⟩ ++ Ep.bytes (l.drop (i + 1)) = Ep.bytes l := by rw [List.append_assoc, ← hst]; exact hacc
              have BE := Lib.hid hbe; have HB2 := Lib.hid hb2; have HNX := Lib.hid hnx
              have HOW := Lib.hid (HO.out.below hb2)
              clear hbe hb2 hnx hst hbf hkf g5 hbr hbw hx2 K hacc ho
              go_wp2_with (go_at_call 9999)
              rw [← hw2]
              clear hw2
              go_at_call 105
              refine BE.out.mono ?_
              rintro _ w3 ⟨v3, rfl, ho3, gr3⟩
              have hb3 := (HBW.out.trans (HB2.out.mono hbs)).trans (gr3.toBelow HOW.out (by omega))
              have HO3 := Lib.hid ho3; have HB3 := Lib.hid hb3
              clear ho3 gr3 hb3 hxc g1 g2 g3 g4
              go_wp2_with fail
              go_roundw
              case rel => exact ⟨i + 1, _, by omega, by go_num, HO3.out, HNX.out, HB3.out⟩
              case measure => simp [intOf]; omega
            · obtain rfl : i = l.length := by omega
              have hac2 := HACC.out
              rw [List.drop_length] at hac2
              simp only [Ep.bytes, List.append_nil] at hac2
              subst hac2
              obtain ⟨A5, c5, rfl⟩ := ho.slice
              have hE2 := HE2.out
              clear HE2 HACC hacc ho
              by_cases hb4 : 4194304 < (Ep.bytes l).length
              · have hb4z : (4194304 : Int) < ((Ep.bytes l).length : Int) := by omega
                rw [if_pos hb4] at hE2
                subst hE2
                have hr := HEN.out (by decide)
                subst hr
                clear hb4 HEN HEY
                go_wp2_with fail
                go_ret2
                exact ⟨_, rfl, Own.nil _ _ _, HBW.out⟩
              · have hb4z : ¬ (4194304 : Int) < ((Ep.bytes l).length : Int) := by omega
                rw [if_neg hb4] at hE2
                subst hE2
                have hr := HEY.out rfl
                subst hr
                clear hb4 HEN HEY
                go_wp2_with fail
                go_ret2
                exact ⟨_, rfl, HO.out, HBW.out⟩
/-- The slice v reads as the items l. -/
def RdI (w : World) (v : Value) (l : List (List UInt8)) : Prop := ∃ (A : Option Addr) (c : Nat), v = .slice A l.length c ∧ (∀ x ∈ l, x.length ≤ 5000000) ∧
  (0 < l.length → ∃ ad, A = some ad ∧ ∀ i x, l[i]? = some x → ∃ A' c', w.cell? (ad.add i) = some (.slice A' x.length c') ∧ Rd w (.slice A' x.length c') x)
theorem RdI.at_ {w : World} {A : Option Addr} {m c : Nat} {l : List (List UInt8)} (h : RdI w (.slice A m c) l) (i : Nat) (hi : i < l.length) :
    ∃ ad, A = some ad ∧ ∃ A' c', w.cell? (ad.add i) = some (.slice A' l[i].length c') ∧ Rd w (.slice A' l[i].length c') l[i] := by
  obtain ⟨A0, c0, e, h1, h2⟩ := h
  simp only [Value.slice.injEq] at e
  obtain ⟨rfl, rfl, rfl⟩ := e
  obtain ⟨ad, ha, hc⟩ := h2 (by omega)
  exact ⟨ad, ha, hc i l[i] (by simp [hi])⟩
set_option maxHeartbeats 2000000 in
set_option maxRecDepth 100000 in
theorem joinP (v : Value) (l : List (List UInt8)) (W w : World) (h : RdI W v l) (hB : Below W.heap.size W w) (hl : l.length ≤ 100000) :
    Calls Tryz.prog 148 #[v] w fun e w' => ∃ v', e = .returned (.tuple #[v', .int .i64 (Ep.joinE l)]) ∧ Own w' w.heap.size 5 v' (Ep.join l) ∧ Below w.heap.size w w' := by
  obtain ⟨A, c, rfl, hbd, -⟩ := id h
  obtain ⟨E, hE⟩ : ∃ E, E = Ep.joinE l := ⟨_, rfl⟩
  have hen : E ≠ 0 → Ep.join l = [] := fun h0 => by unfold Ep.join; rw [if_neg (by rw [← hE]; exact h0)]
  have hey : E = 0 → Ep.join l = Ep.jbytes l := fun h0 => by unfold Ep.join; rw [if_pos (by rw [← hE]; exact h0)]
  rw [← hE]
  unfold Ep.joinE at hE
  obtain ⟨R, hR⟩ : ∃ R, R = Ep.join l := ⟨_, rfl⟩
  rw [← hR] at hen hey ⊢
  clear hR
  have H := Lib.hid h; have HB := Lib.hid hB; have HBD := Lib.hid hbd; have HEN := Lib.hid hen; have HEY := Lib.hid hey
  clear h hB hbd hen hey
  have hWw := HB.out.size
  go_enter Tryz.func148, Tryz.ntmps148
  by_cases h64 : 4096 < l.length
  · have h64z : (4096 : Int) < (l.length : Int) := by omega
    rw [if_pos h64] at hE
    subst hE
    have hr := HEN.out (by decide)
    subst hr
    clear h64 HEN HEY
    go_wp2_with fail
    go_ret2
    exact ⟨_, rfl, Own.nil _ _ _, Below.refl _ _⟩
  · have h64z : ¬ (4096 : Int) < (l.length : Int) := by omega
    rw [if_neg h64] at hE
    have HE := Lib.hid hE; clear hE
    go_wp2_with fail
    go_loopw [4, 15] (fun s u wr => ∃ (i : Nat) (y : Nat), i ≤ l.length ∧ u = .int .i64 i ∧ s = .int .i64 (y : Int) ∧ y + Ep.jsum (l.drop i) = Ep.jsum l ∧ y ≤ 4194304 ∧ wr = w) (fun _ u _ => l.length - (intOf u).toNat)
    case atStart => exact ⟨0, 0, by omega, rfl, rfl, by simp, by omega, rfl⟩
    case round =>
      obtain ⟨i, y, hi, rfl, rfl, hsm, hy, hww⟩ := hrel
      obtain rfl := hww.symm
      have HSM := Lib.hid hsm
      by_cases hin : i < l.length
      · obtain ⟨ad, rfl, A', c', g1, g5⟩ := H.out.at_ i hin
        have K : ∀ a u, W.cell? a = some u → w.cell? a = some u := fun a u hu => (World.cell?_of_block (HB.out.block _ (World.block_lt_of_cell? W _ hu))).trans hu
        replace g1 := K _ _ g1
        have hsd := Ep.jsum_drop l i hin
        have hbf := HBD.out l[i] (List.getElem_mem hin)
        generalize l[i] = x at *
        have hsx := sz_u64 x.length (by omega)
        have hyd : y + (x.length + sz x.length) + Ep.jsum (l.drop (i + 1)) = Ep.jsum l := by omega
        have HYD := Lib.hid hyd
        have hwx : IntKind.u64.wrap (x.length : Int) = (x.length : Int) := by rw [IntKind.wrap_u64]; omega
        have SZ := Lib.hid (Nm.size x.length (by omega) w)
        clear hyd hsm hsd g5 K
        go_wp2_with (go_at_call 9999)
        go_at_call 112
        refine SZ.out.mono ?_
        rintro _ w3 ⟨rfl, rfl⟩
        generalize sz x.length = z at *
        clear hwx
        by_cases hy2 : 4194304 < y + (x.length + z)
        · have hyz : (4194304 : Int) < (y : Int) + ((x.length : Int) + (z : Int)) := by omega
          have hE2 := HE.out
          rw [if_pos (by have := HYD.out; omega)] at hE2
          subst hE2
          have hr := HEN.out (by decide)
          subst hr
          clear hy2 HEN HEY HE SZ
          go_wp2_with fail
          go_ret2
          exact ⟨_, rfl, Own.nil _ _ _, Below.refl _ _⟩
        · have hyz : ¬ (4194304 : Int) < (y : Int) + ((x.length : Int) + (z : Int)) := by omega
          clear SZ
          go_wp2_with fail
          go_roundw
          case rel => exact ⟨i + 1, y + (x.length + z), by omega, by go_num, by go_num, HYD.out, by omega, by first | rfl | trivial⟩
          case measure => simp [intOf]; omega
      · obtain rfl : i = l.length := by omega
        have hsm2 := HSM.out
        rw [List.drop_length] at hsm2
        simp only [Ep.jsum] at hsm2
        have hE2 := HE.out
        rw [if_neg (by omega)] at hE2
        subst hE2
        have hr := HEY.out rfl
        have hjl : (Ep.jbytes l).length ≤ 4194304 := by rw [Ep.jbytes_len]; omega
        have HJL := Lib.hid hjl
        subst hr
        clear hsm2 HEN HEY HE HSM hsm hjl
        go_wp2_with fail
        go_loopw [7, 33] (fun s u wr => ∃ (i : Nat) (acc : List UInt8), i ≤ l.length ∧ u = .int .i64 i ∧ Own wr w.heap.size 5 s acc ∧ acc ++ Ep.jbytes (l.drop i) = Ep.jbytes l ∧ Below w.heap.size w wr) (fun _ u _ => l.length - (intOf u).toNat)
        case atStart => exact ⟨0, [], by omega, rfl, Own.nil _ _ _, by simp, Below.refl _ _⟩
        case round =>
          obtain ⟨i, acc, hi, rfl, ho, hacc, hbw⟩ := hrel
          have HO := Lib.hid ho; have HACC := Lib.hid hacc; have HBW := Lib.hid hbw
          have hal : acc.length ≤ 5000000 := by have := congrArg List.length hacc; have h2 := HJL.out; simp only [List.length_append] at this; omega
          have hbs := hbw.size
          by_cases hin : i < l.length
          · have hbr : Below W.heap.size W wr := HB.out.trans (hbw.mono hWw)
            obtain ⟨ad, rfl, A', c', g1, g5⟩ := H.out.at_ i hin
            have K : ∀ a u, W.cell? a = some u → wr.cell? a = some u := fun a u hu => (World.cell?_of_block (hbr.block _ (World.block_lt_of_cell? W _ hu))).trans hu
            replace g1 := K _ _ g1
            have hst := Ep.jbytes_drop l i hin
            have hbf := HBD.out l[i] (List.getElem_mem hin)
            generalize l[i] = x at *
            have hwx : IntKind.u64.wrap (x.length : Int) = (x.length : Int) := by rw [IntKind.wrap_u64]; omega
            have hsx := sz_u64 x.length (by omega)
            unfold sz at hsx
            have hnx : acc ++ Nz.num x.length ++ x ++ Ep.jbytes (l.drop (i + 1)) = Ep.jbytes l := by rw [List.append_assoc, List.append_assoc, ← List.append_assoc (Nz.num x.length), ← hst]; exact hacc
            have AD := Lib.hid (add (base := w.heap.size) _ acc x.length (by omega) wr HO.out (by omega) (by omega))
            have hrd : ∀ w', Below w.heap.size w w' → Rd w' (.slice A' x.length c') x := fun w' h' => Vu.rd_keep (HB.out.trans (h'.mono hWw)).block g5
            have HRD := Lib.hid hrd; have HNX := Lib.hid hnx
            clear hrd hnx hst g5 hbr hbw K hacc ho
            go_wp2_with (go_at_call 9999)
            go_at_call 137
            refine AD.out.mono ?_
            rintro _ w3 ⟨v3, rfl, ho3, gr3⟩
            have hb3 := HBW.out.trans (gr3.toBelow HO.out (by omega))
            have hs3 := hb3.size
            have HO3 := Lib.hid ho3; have HB3 := Lib.hid hb3
            clear ho3 gr3 hb3 g1 hwx
            go_wp2_with (at_builtin; refine wp_app (.tmp 41) (.tmp 42) Nm.u8 rfl rfl rfl rfl HO3.out (HRD.out w3 HB3.out) (by omega) (by simp; omega) ?_; intro v5 w5 ho5 hg5 hc5)
            have HB5 := Lib.hid (HB3.out.trans (below_grown (Below.refl _ _) HO3.out (Nat.le_refl _) (by omega) hg5))
            have HO5 := Lib.hid ho5
            clear hg5 hc5 ho5
            go_wp2_with fail
            go_roundw
            case rel => exact ⟨i + 1, _, by omega, by go_num, HO5.out, HNX.out, HB5.out⟩
            case measure => simp [intOf]; omega
          · obtain rfl : i = l.length := by omega
            have hac2 := HACC.out
            rw [List.drop_length] at hac2
            simp only [Ep.jbytes, List.append_nil] at hac2
            subst hac2
            obtain ⟨A5, c5, rfl⟩ := ho.slice
            clear HACC hacc ho
            go_wp2_with fail
            go_ret2
            exact ⟨_, rfl, HO.out, HBW.out⟩
end Go.Proofs.YtinngljphjdpoaaGreatDoor.Eb
/- The reference's low, known, fits, one. -/
namespace Go.Proofs.YtinngljphjdpoaaGreatDoor.Er
open Go Go.RowKit Go.Proofs.YtinngljphjdpoaaGreatDoor.Pa Go.Proofs.YtinngljphjdpoaaGreatDoor.Pb Go.Proofs.YtinngljphjdpoaaGreatDoor.Pf Go.Proofs.YtinngljphjdpoaaGreatDoor.Nz Go.Proofs.YtinngljphjdpoaaGreatDoor.Ea Go.Proofs.YtinngljphjdpoaaGreatDoor.Eb Go.Proofs.YtinngljphjdpoaaGreatDoor.Hx
set_option linter.unusedVariables false
set_option linter.unusedSimpArgs false
set_option maxRecDepth 100000 in
theorem low (n k : Nat) (hn : n < 18446744073709551616) (hk : k ≤ 8) (w : World) :
    Calls Tryz.prog 140 #[.int .u64 n, .int .i64 (k : Int)] w fun e w' => ∃ v', e = .returned v' ∧ Own w' w.heap.size 5 v' (Ep.low n k) ∧ Below w.heap.size w w' := by
  have HN := Lib.hid hn; clear hn
  go_enter Tryz.func140, Tryz.ntmps140
  go_wp2_with fail
  go_loopw [0, 5, 6] (fun s t u wr => ∃ (i : Nat), i ≤ k ∧ u = .int .i64 i ∧ s = .int .u64 ((n / 256 ^ i : Nat) : Int) ∧ Own wr w.heap.size 5 t (Ep.low n i) ∧ Below w.heap.size w wr) (fun _ _ u _ => k - (intOf u).toNat)
  case atStart => exact ⟨0, by omega, rfl, by simp, Own.empty w w.heap.size _ (Nat.le_refl _), (Below.refl _ _).alloc (Nat.le_refl _) _⟩
  case round =>
    obtain ⟨i, hi, rfl, rfl, ho, hbw⟩ := hrel
    have hbs := hbw.size
    have hll := Ep.low_length n i
    have hsn := Ep.low_snoc i n
    have hnx : n / 256 ^ (i + 1) = n / 256 ^ i / 256 := by rw [Nat.div_div_eq_div_mul, Nat.pow_succ]
    have hlt : n / 256 ^ i < 18446744073709551616 := Nat.lt_of_le_of_lt (Nat.div_le_self _ _) HN.out
    generalize n / 256 ^ i = q at *
    have HO := Lib.hid ho; clear ho
    by_cases h : i < k
    · have HY := Lib.hid (show ((q : Int) % 256) = ((UInt8.ofNat (q % 256)).toNat : Int) by rw [← of_nat8 (by omega)]; omega)
      have hw8 : IntKind.u8.wrap ((q : Int) % 256) = (q : Int) % 256 := by rw [IntKind.wrap_u8]; omega
      have hq : IntKind.u64.wrap ((q : Int) / 256) = ((q / 256 : Nat) : Int) := by rw [wu64 (by omega) (by omega)]; omega
      have HNX := Lib.hid hnx; have HSN := Lib.hid hsn; clear hnx hsn
      go_wp2_with (at_builtin; refine wp_app (.tmp 13) (.tmp 17) Nm.u8 rfl rfl rfl rfl (HO.out.alloc _) (rd_box wr _ _ _ HY.out) (by simp; omega) (by simp; omega) ?_; intro v2 w2 ho2 hg2 hc2)
      have hb2 := Lib.hid (below_grown (hbw.alloc hbs _) (HO.out.alloc _) (Nat.le_refl _) (by simp; omega) hg2)
      clear hg2 hc2
      go_wp2
      go_roundw
      case rel => exact ⟨i + 1, by omega, by go_num, by rw [HNX.out]; first | rfl | go_num, by rw [HSN.out]; simpa using ho2, hb2.out⟩
      case measure => simp [intOf]; omega
    · obtain rfl : i = k := by omega
      go_wp2
      go_ret
      exact ⟨_, rfl, HO.out, hbw⟩
/-- Is a wire type one? -/
def kn (ty : Int) : Bool := decide (ty = 0 ∨ ty = 1 ∨ ty = 2 ∨ ty = 5)
set_option maxRecDepth 100000 in
theorem known (ty : Int) (w : World) : Calls Tryz.prog 107 #[.int .i64 ty] w fun e w' => e = .returned (.bool (kn ty)) ∧ w' = w := by
  obtain ⟨R, hR⟩ : ∃ R, R = kn ty := ⟨_, rfl⟩
  rw [← hR]
  unfold kn at hR
  by_cases t0 : ty = 0
  · subst t0
    have hr : R = true := by rw [hR]; rfl
    subst hr; clear hR
    go_enter Tryz.func107, Tryz.ntmps107
    go_wp2
    go_ret
    exact ⟨rfl, rfl⟩
  by_cases t1 : ty = 1
  · subst t1
    have hr : R = true := by rw [hR]; rfl
    subst hr; clear hR t0
    go_enter Tryz.func107, Tryz.ntmps107
    go_wp2
    go_ret
    exact ⟨rfl, rfl⟩
  by_cases t2 : ty = 2
  · subst t2
    have hr : R = true := by rw [hR]; rfl
    subst hr; clear hR t0 t1
    go_enter Tryz.func107, Tryz.ntmps107
    go_wp2
    go_ret
    exact ⟨rfl, rfl⟩
  by_cases t5 : ty = 5
  · subst t5
    have hr : R = true := by rw [hR]; rfl
    subst hr; clear hR t0 t1 t2
    go_enter Tryz.func107, Tryz.ntmps107
    go_wp2
    go_ret
    exact ⟨rfl, rfl⟩
  have hr : R = false := by rw [hR]; exact decide_eq_false (by omega)
  have t0z : (ty == 0) = false := by simpa using t0
  have t1z : (ty == 1) = false := by simpa using t1
  have t2z : (ty == 2) = false := by simpa using t2
  have t5z : (ty == 5) = false := by simpa using t5
  subst hr; clear hR t0 t1 t2 t5
  go_enter Tryz.func107, Tryz.ntmps107
  go_wp2
  go_ret
  exact ⟨rfl, rfl⟩
/-- Has a field what its type has? -/
def ft (ty : Int) (num dl : Nat) : Bool := if ty = 2 then decide (num = 0) else decide (dl = 0 ∧ (ty ≠ 5 ∨ num ≤ 4294967295))
set_option maxRecDepth 100000 in
theorem fits (no ty : Int) (num : Nat) (A : Option Addr) (dl c : Nat) (hd : dl ≤ 100000000) (w : World) :
    Calls Tryz.prog 108 #[.agg #[.int .i64 no, .int .i64 ty, .int .u64 (num : Int), .slice A dl c]] w fun e w' => e = .returned (.bool (ft ty num dl)) ∧ Below w.heap.size w w' := by
  have BB := Lib.hid (vb w (.cells #[.int .i64 no, .int .i64 ty, .int .u64 (num : Int), .slice A dl c] 140))
  obtain ⟨R, hR⟩ : ∃ R, R = ft ty num dl := ⟨_, rfl⟩
  rw [← hR]
  unfold ft at hR
  by_cases t2 : ty = 2
  · subst t2
    rw [if_pos rfl] at hR
    by_cases n0 : num = 0
    · have hr : R = true := by rw [hR]; exact decide_eq_true n0
      have nz : ((num : Int) == 0) = true := by simp; omega
      subst hr; clear hR n0
      go_enter Tryz.func108, Tryz.ntmps108
      go_wp2_with fail
      go_ret
      exact ⟨rfl, BB.out⟩
    · have hr : R = false := by rw [hR]; exact decide_eq_false n0
      have nz : ((num : Int) == 0) = false := by simp; omega
      subst hr; clear hR n0
      go_enter Tryz.func108, Tryz.ntmps108
      go_wp2_with fail
      go_ret
      exact ⟨rfl, BB.out⟩
  rw [if_neg t2] at hR
  have t2z : (ty == 2) = false := by simpa using t2
  by_cases d0 : dl = 0
  · subst d0
    by_cases t5 : ty = 5
    · subst t5
      by_cases n5 : num ≤ 4294967295
      · have hr : R = true := by rw [hR]; exact decide_eq_true ⟨rfl, .inr n5⟩
        have nz : (num : Int) ≤ 4294967295 := by omega
        subst hr; clear hR n5 t2 t2z
        go_enter Tryz.func108, Tryz.ntmps108
        go_wp2_with fail
        go_ret
        exact ⟨rfl, BB.out⟩
      · have hr : R = false := by rw [hR]; exact decide_eq_false (by omega)
        have nz : ¬ (num : Int) ≤ 4294967295 := by omega
        subst hr; clear hR n5 t2 t2z
        go_enter Tryz.func108, Tryz.ntmps108
        go_wp2_with fail
        go_ret
        exact ⟨rfl, BB.out⟩
    · have hr : R = true := by rw [hR]; exact decide_eq_true ⟨rfl, .inl t5⟩
      have t5z : (ty != 5) = true := by simpa using t5
      subst hr; clear hR t2 t5
      go_enter Tryz.func108, Tryz.ntmps108
      go_wp2_with fail
      go_ret
      exact ⟨rfl, BB.out⟩
  · have hr : R = false := by rw [hR]; exact decide_eq_false (by omega)
    have dz : ((dl : Int) == 0) = false := by simp; omega
    subst hr; clear hR t2 d0
    go_enter Tryz.func108, Tryz.ntmps108
    go_wp2_with fail
    go_ret
    exact ⟨rfl, BB.out⟩
/-- How both go together. -/
theorem wrong_ref (f : Ep.Fd) (last : Int) (h : ¬ (f.no < 1 ∨ 536870911 < f.no ∨ f.no ≤ last)) : Ep.wrong f last = if kn f.ty = false then 72 else if ft f.ty f.num f.data.length = false then 1 else 0 := by
  unfold Ep.wrong kn ft
  rw [if_neg h]
  by_cases t2 : f.ty = 2
  · by_cases n0 : f.num = 0 <;> simp [t2, n0]
  · by_cases t0 : f.ty = 0 ∨ f.ty = 1 ∨ f.ty = 5
    · have hk : f.ty = 0 ∨ f.ty = 1 ∨ f.ty = 2 ∨ f.ty = 5 := by omega
      rw [if_neg t2, if_pos t0, decide_eq_true hk]
      show (if f.data.length ≠ 0 ∨ f.ty = 5 ∧ 4294967296 ≤ f.num then (1 : Int) else 0) = (if (if f.ty = 2 then decide (f.num = 0) else decide (f.data.length = 0 ∧ (f.ty ≠ 5 ∨ f.num ≤ 4294967295))) = false then 1 else 0)
      rw [if_neg t2]
      by_cases hP : f.data.length = 0 ∧ (f.ty ≠ 5 ∨ f.num ≤ 4294967295)
      · rw [decide_eq_true hP, if_neg (by omega)]; rfl
      · rw [decide_eq_false hP, if_pos (by omega)]; rfl
    · have hk : ¬ (f.ty = 0 ∨ f.ty = 1 ∨ f.ty = 2 ∨ f.ty = 5) := by omega
      rw [if_neg t2, if_neg t0, decide_eq_false hk, if_pos rfl]
end Go.Proofs.YtinngljphjdpoaaGreatDoor.Er
