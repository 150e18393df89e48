/- The reader of a list's slot. -/
import Derived.Test.YtinngljphjdpoaaGreatDoorJOx
import Derived.Test.YtinngljphjdpoaaGreatDoorJRp
import Derived.Test.YtinngljphjdpoaaGreatDoorJRg
namespace Go.Proofs.YtinngljphjdpoaaGreatDoor.Lr
open Go Go.RowKit Go.Proofs.YtinngljphjdpoaaGreatDoor.Pa Go.Proofs.YtinngljphjdpoaaGreatDoor.Pb Go.Proofs.YtinngljphjdpoaaGreatDoor.Pf Go.Proofs.YtinngljphjdpoaaGreatDoor.Nz Go.Proofs.YtinngljphjdpoaaGreatDoor.Nm Go.Proofs.YtinngljphjdpoaaGreatDoor.Sc Go.Proofs.YtinngljphjdpoaaGreatDoor.Rs Go.Proofs.YtinngljphjdpoaaGreatDoor.Hs Go.Proofs.YtinngljphjdpoaaGreatDoor.Va Go.Proofs.YtinngljphjdpoaaGreatDoor.Vu Go.Proofs.YtinngljphjdpoaaGreatDoor.Vg Go.Proofs.YtinngljphjdpoaaGreatDoor.Vh Go.Proofs.YtinngljphjdpoaaGreatDoor.Ca Go.Proofs.YtinngljphjdpoaaGreatDoor.Ce Go.Proofs.YtinngljphjdpoaaGreatDoor.Ea Go.Proofs.YtinngljphjdpoaaGreatDoor.Gp Go.Proofs.YtinngljphjdpoaaGreatDoor.Gq Go.Proofs.YtinngljphjdpoaaGreatDoor.Gi Go.Proofs.YtinngljphjdpoaaGreatDoor.Hx Go.Proofs.YtinngljphjdpoaaGreatDoor.Ow Go.Proofs.YtinngljphjdpoaaGreatDoor.Rv Go.Proofs.YtinngljphjdpoaaGreatDoor.Rw Go.Proofs.YtinngljphjdpoaaGreatDoor.Pq Go.Proofs.YtinngljphjdpoaaGreatDoor.Rg Go.Proofs.YtinngljphjdpoaaGreatDoor.Ox
set_option linter.unusedVariables false
set_option linter.unusedSimpArgs false
theorem S_bytes : ∀ (n : Nat) (l : List UInt8) (count : Nat), l.length = n → ∃ r, l = Ep.jbytes (Sp l count).1 ++ r := by
  intro n
  induction n using Nat.strongRecOn with
  | _ n ih =>
    intro l count hn
    by_cases h0 : 0 < l.length
    · obtain ⟨e, x, k, h⟩ : ∃ e x k, itm l count = (e, x, k) := ⟨_, _, _, rfl⟩
      by_cases he : e = 0
      · subst he
        have hk := itm_ok h
        rw [Sp_step h0 h]
        obtain ⟨r, hr⟩ := ih (l.drop k).length (by simp; omega) (l.drop k) (count + 1) rfl
        refine ⟨r, ?_⟩
        simp only [Ep.jbytes]
        rw [List.append_assoc, ← hr, ← hk.2.2.2.2, List.take_append_drop]
      · rw [Sp_bad h0 h he]
        exact ⟨l, rfl⟩
    · have : l = [] := List.eq_nil_of_length_eq_zero (by omega)
      subst this
      exact ⟨[], rfl⟩
theorem S_len : ∀ (n : Nat) (l : List UInt8) (count : Nat), l.length = n → count ≤ 4096 → (Sp l count).1.length + count ≤ 4096 := by
  intro n
  induction n using Nat.strongRecOn with
  | _ n ih =>
    intro l count hn hc
    by_cases h0 : 0 < l.length
    · obtain ⟨e, x, k, h⟩ : ∃ e x k, itm l count = (e, x, k) := ⟨_, _, _, rfl⟩
      by_cases he : e = 0
      · subst he
        have hk := itm_ok h
        rw [Sp_step h0 h]
        have := ih (l.drop k).length (by simp; omega) (l.drop k) (count + 1) rfl (by omega)
        simp only [List.length_cons]
        omega
      · rw [Sp_bad h0 h he]
        simpa using hc
    · have : l = [] := List.eq_nil_of_length_eq_zero (by omega)
      subst this
      simpa [Sp_nil] using hc
theorem sAt_le (b : List UInt8) : 0 ≤ sAt b ∧ sAt b ≤ b.length := by
  obtain ⟨r, hr⟩ := S_bytes _ b 0 rfl
  have := congrArg List.length hr
  simp only [List.length_append] at this
  unfold sAt
  split
  · omega
  · split <;> omega
/-- How far the items have been read. -/
structure Iar (f : List UInt8 → Int → Flt × Vu.Va) (l : List (List UInt8)) (p0 : Int) (i : Nat) (p : Int) (vals : List Vu.Va) : Prop where
  le : i ≤ l.length
  len : vals.length = i
  at_ : p = p0 + (Ep.jbytes (l.take i)).length
  flt : (iGo f l p0).1 = (iGo f (l.drop i) p).1
  vs : (iGo f l p0).2 = vals ++ (iGo f (l.drop i) p).2
theorem Iar.zero (f : List UInt8 → Int → Flt × Vu.Va) (l : List (List UInt8)) (p0 : Int) : Iar f l p0 0 p0 [] := ⟨by omega, rfl, by simp [Ep.jbytes], rfl, rfl⟩
theorem Iar.done {f : List UInt8 → Int → Flt × Vu.Va} {l : List (List UInt8)} {p0 p : Int} {vals : List Vu.Va} (h : Iar f l p0 l.length p vals) : (iGo f l p0).1 = (0, 0, 0) ∧ (iGo f l p0).2 = vals := by
  have h1 := h.flt; have h2 := h.vs
  rw [List.drop_length] at h1 h2
  exact ⟨h1, by rw [h2]; simp [iGo]⟩
theorem Iar.bad {f : List UInt8 → Int → Flt × Vu.Va} {l : List (List UInt8)} {p0 p : Int} {i : Nat} {vals : List Vu.Va} (h : Iar f l p0 i p vals) (hi : i < l.length) (hb : (f l[i] (p + sz l[i].length)).1.2.2 ≠ 0) : (iGo f l p0).1 = (f l[i] (p + sz l[i].length)).1 := by
  have h1 := h.flt
  rw [List.drop_eq_getElem_cons hi] at h1
  simp only [iGo] at h1
  rw [if_pos hb] at h1
  exact h1
theorem Iar.step {f : List UInt8 → Int → Flt × Vu.Va} {l : List (List UInt8)} {p0 p : Int} {i : Nat} {vals : List Vu.Va} (h : Iar f l p0 i p vals) (hi : i < l.length) (hb : (f l[i] (p + sz l[i].length)).1.2.2 = 0) :
    Iar f l p0 (i + 1) (p + sz l[i].length + l[i].length) (vals ++ [(f l[i] (p + sz l[i].length)).2]) := by
  have h1 := h.flt; have h2 := h.vs; have h3 := h.at_; have h4 := h.len
  rw [List.drop_eq_getElem_cons hi] at h1 h2
  simp only [iGo] at h1 h2
  rw [if_neg (by simp [hb])] at h1 h2
  refine ⟨by omega, by simp [h4], ?_, h1, by rw [h2]; simp⟩
  rw [List.take_succ_eq_append_getElem hi, jb_snoc, h3]
  simp only [List.length_append, sz]
  push_cast
  omega
theorem jb_take : ∀ (l : List (List UInt8)) (i : Nat), (Ep.jbytes (l.take i)).length ≤ (Ep.jbytes l).length
  | [], i => by simp [Ep.jbytes]
  | x :: l, 0 => by simp [Ep.jbytes]
  | x :: l, i + 1 => by
    have := jb_take l i
    simp only [List.take_succ_cons, Ep.jbytes, List.length_append] at *
    omega
/-- What a list's slot reads as. -/
def lsv (U : List UInt8 → Bool) (n : Nat) (l : List Slot) (a b : Nat) (g : Ep.Fd) (p : Int) : Flt × Vu.Va :=
  if sErr g.data ≠ 0 then ((0, inPl g p + sAt g.data, sErr g.data), va0)
  else if Vu.within (Sp g.data 0).1.length a b ≠ 0 then ((0, p, 83), va0)
  else ((iGo (rdv U n l) (Sp g.data 0).1 (inPl g p)).1, .mk 0 [] (iGo (rdv U n l) (Sp g.data 0).1 (inPl g p)).2)
def LsEnds (U : List UInt8 → Bool) (n : Nat) (l : List Slot) (a b : Nat) (g : Ep.Fd) (p : Int) (w : World) (e : Ending) (w' : World) : Prop :=
  (((lsv U n l a b g p).1.2.2 ≠ 0 ∧ e = gave (lsv U n l a b g p).1) ∨
   ((lsv U n l a b g p).1.2.2 = 0 ∧ ∃ nv dv pv, e = .returned (.agg #[nv, dv, pv]) ∧ OwV w' (2 * n + 2) w.heap.size w.heap.size w'.heap.size nv dv pv (lsv U n l a b g p).2)) ∧ Below w.heap.size w w'
set_option maxHeartbeats 2000000 in
set_option maxRecDepth 100000 in
theorem listRead (U : List UInt8 → Bool) (n : Nat) (IH : ReadSaid U n) (S : Pl) (c j a bm : Nat) (l : List Slot) (no ty : Int) (num cd : Nat) (A : Option Addr) (data : List UInt8) (at_ : Int) (w : World) (hc : Cd w S n c l)
    (hd : Rd w (.slice A data.length cd) data) (hok : okL j l) (hT : TabU w) (h1 : 1 ≤ no) (h2 : no ≤ 536870911) (h3 : 0 ≤ ty ∧ ty ≤ 7) (hdl : data.length ≤ 4194304) (ha0 : 0 ≤ at_) (ha1 : at_ ≤ 150000000000000) (hb : 0 ≤ inPl ⟨no, ty, num, data⟩ at_ ∧ inPl ⟨no, ty, num, data⟩ at_ + data.length ≤ 150000000000000) :
    Calls Tryz.prog 128 #[.agg #[ptr c, .int .u64 (a : Int), .int .u64 (bm : Int)], .agg #[.int .i64 no, .int .i64 ty, .int .u64 (num : Int), .slice A data.length cd], .int .i64 at_] w (LsEnds U n l a bm ⟨no, ty, num, data⟩ at_ w) := by
  obtain ⟨w1, hw1⟩ : ∃ y, y = ((w.alloc (.cells #[ptr c, .int .u64 (a : Int), .int .u64 (bm : Int)] 201)).alloc (.cells #[.int .i64 no, .int .i64 ty, .int .u64 (num : Int), .slice A data.length cd] 140)).alloc (.cells #[.int .u64 0, .slice none 0 0, .slice none 0 0] 32) := ⟨_, rfl⟩
  have hb1 : Below w.heap.size w w1 := by rw [hw1]; exact Vh.b3 w _ _ _
  have hl1 : Pa.hp w1 w.heap.size = some (.cells #[ptr c, .int .u64 (a : Int), .int .u64 (bm : Int)] 201 (0, 0)) := by rw [hw1]; exact below_hp (below_hp (hp_alloc_at _ _ rfl) (vb _ _)) (vb _ _)
  have hg1 : Pa.hp w1 (w.heap.size + 1) = some (.cells #[.int .i64 no, .int .i64 ty, .int .u64 (num : Int), .slice A data.length cd] 140 (0, 0)) := by rw [hw1]; exact below_hp (hp_alloc_at _ _ (by simp)) (vb _ _)
  have hr1 : Pa.hp w1 (w.heap.size + 1 + 1) = some (.cells #[.int .u64 0, .slice none 0 0, .slice none 0 0] 32 (0, 0)) := by rw [hw1]; exact hp_alloc_at _ _ (by simp)
  obtain ⟨P0, hP0⟩ : ∃ y, y = inPl ⟨no, ty, num, data⟩ at_ := ⟨_, rfl⟩
  have INS := Lib.hid (inside no ty num A cd data at_ w1 h1 h2 h3 hdl ha0 (by omega))
  rw [← hP0] at hb INS
  have SPL := Lib.hid (fun Y (hY : Below w1.heap.size w1 Y) => split (.slice A data.length cd) data Y ((hd.below hb1).below hY))
  have HL := Lib.hid hl1; have HG := Lib.hid hg1; have HR := Lib.hid hr1; have HB1 := Lib.hid hb1; have HP0 := Lib.hid hP0
  have hcg := fun i => hp_cell hg1 i
  clear hl1 hg1 hr1 hb1 hP0
  unfold ptr at *
  go_enter Tryz.func128, Tryz.ntmps128
  go_upto_region 1 with fail
  rw [← hw1]
  clear hw1
  go_wp2_with (go_at_call 9999)
  go_at_call 126
  refine INS.out.mono ?_
  rintro _ w2 ⟨rfl, b2⟩
  have HB2 := Lib.hid b2
  have hcg2 := fun i => hp_cell (below_hp HG.out b2) i
  clear hcg b2
  go_wp2_with (go_at_call 9999)
  go_at_call 149
  refine (SPL.out w2 HB2.out).mono ?_
  rintro _ w3 ⟨v3, rfl, b3, hok3⟩
  have HB3 := Lib.hid (HB2.out.trans (b3.mono HB2.out.size))
  clear hcg2 b3
  by_cases he : sErr data = 0
  · obtain ⟨A3, c3, xs, rfl, hu⟩ := hok3 he
    have hlen : (Sp data 0).1.length ≤ 4096 := S_len _ data 0 rfl (by omega)
    have hcl3 := fun i => hp_cell (below_hp HL.out HB3.out) i
    have bad := Vh.bad_list c a bm 0 (Sp data 0).1.length (by omega) (.slice none 0 0) (.slice none 0 0) w3
    unfold ptr at bad
    have BAD := Lib.hid bad
    have HU := Lib.hid hu; have HLEN := Lib.hid hlen
    clear hok3 hu hlen bad
    go_wp2_with (go_at_call 9999)
    go_at_call 118
    refine BAD.out.mono ?_
    rintro _ w4 ⟨rfl, b4⟩
    have HB4 := Lib.hid (HB3.out.trans (b4.mono HB3.out.size))
    have HU4 := Lib.hid (HU.out.below b4)
    clear hcl3 b4
    by_cases hw : Vu.within (Sp data 0).1.length a bm = 0
    · rw [hw]
      have hlv : lsv U n l a bm ⟨no, ty, num, data⟩ at_ = ((iGo (rdv U n l) (Sp data 0).1 P0).1, .mk 0 [] (iGo (rdv U n l) (Sp data 0).1 P0).2) := by
        unfold lsv
        rw [if_neg (by simp [he]), if_neg (by simp [hw]), ← HP0.out]
      have HLV := Lib.hid hlv
      have hrd := HU4.out.row
      obtain ⟨w5, hw5⟩ : ∃ y, y = w4.alloc (.cells #[.int .u64 0, .slice none 0 0, .slice none 0 0] 32) := ⟨_, rfl⟩
      have hg5 : Pa.hp w5 w4.heap.size = some (.cells #[.int .u64 0, .slice none 0 0, .slice none 0 0] 32 (0, 0)) := by rw [hw5]; exact hp_alloc_at _ _ rfl
      have hb5 : Below w1.heap.size w1 w5 := by rw [hw5]; exact HB4.out.trans ((vb _ _).mono HB4.out.size)
      have hu5 : Uj w5 (w2.heap.size + 6) (Sp data 0).1 A3 c3 xs := HU4.out.below (by rw [hw5]; exact vb _ _)
      have hb45 : Below w4.heap.size w4 w5 := by rw [hw5]; exact vb _ _
      have HB45 := Lib.hid hb45; clear hb45
      have HG5 := Lib.hid hg5; have HB5 := Lib.hid hb5; have HU5 := Lib.hid hu5
      clear hlv hg5 hb5 hu5 hw hrd
      go_wp2_with fail
      rw [← hw5]
      clear hw5
      go_loopw [7, 45] (fun t s wr => ∃ (i : Nat) (p : Int) (vals : List Vu.Va) (Ai : Option Addr) (ci : Nat), t = .int .i64 p ∧ s = .int .i64 i ∧ Iar (rdv U n l) (Sp data 0).1 P0 i p vals ∧ Below w4.heap.size w4 wr ∧
          Pa.hp wr w4.heap.size = some (.cells #[.int .u64 0, .slice none 0 0, .slice Ai vals.length ci] 32 (0, 0)) ∧ OwP wr (2 * n + 2) (w4.heap.size + 1) (w4.heap.size + 1) wr.heap.size (.slice Ai vals.length ci) vals) (fun _ s _ => (Sp data 0).1.length - (intOf s).toNat)
      case atStart => exact ⟨0, P0, [], none, 0, rfl, rfl, Iar.zero _ _ _, HB45.out, HG5.out, OwP.nil _ (2 * n + 1) _ _ _ (Array.getElem?_eq_some_iff.1 HG5.out).1⟩
      case round =>
        obtain ⟨i, p, vals, Ai, ci, rfl, rfl, hia, hbr, hvx, hov⟩ := hrel
        have hb1r : Below w1.heap.size w1 wr := HB4.out.trans (hbr.mono HB4.out.size)
        have hcv := fun i => hp_cell hvx i
        have hrr := below_hp HR.out hb1r
        have hcr := fun i => hp_cell hrr i
        have hfr := fun i => hp_frozen hrr i
        have HIA := Lib.hid hia; have HBR := Lib.hid hb1r; have HOV := Lib.hid hov; have HRR := Lib.hid hrr
        have hile := hia.le
        by_cases hend : i = (Sp data 0).1.length
        · subst hend
          obtain ⟨q1, q2⟩ := hia.done
          have hs4 := HB4.out.size
          have hs1 : w.heap.size + 1 + 1 < w1.heap.size := (Array.getElem?_eq_some_iff.1 HR.out).1
          have HQ1 := Lib.hid q1; have HQ2 := Lib.hid q2; have HS := Lib.hid (show w.heap.size + 1 + 1 < w4.heap.size + 1 by omega)
          clear hia hbr hvx hov hb1r hrr q1 q2 hs4 hs1
          go_wp2_with fail
          refine ret_row Tryz.results128 Tryz.underlying32 rfl (by kernel_rfl) rfl (set3v HRR.out _ _ _) rfl ⟨.inr ⟨by rw [HLV.out, HQ1.out], _, _, _, rfl, ?_⟩, ?_⟩
          · rw [HLV.out, HQ2.out]
            have hs := HS.out
            have hsz := (Array.getElem?_eq_some_iff.1 HRR.out).1
            refine ⟨by simp [Vu.Va.num], rfl, Own.nil _ _ _, ?_⟩
            refine OwP.hi _ _ _ _ _ _ _ (OwP.lo _ _ _ _ _ _ _ (OwP.dlo _ _ _ _ _ _ _ (OwP.keep _ _ _ _ _ _ HOV.out (fun k hk _ => ?_)) (by omega)) (by omega)) (by simp [World.setCell])
            have hne : k ≠ w.heap.size + 1 + 1 := by omega
            rw [heap_setCell_other _ _ _ _ hne, heap_setCell_other _ _ _ _ hne, heap_setCell_other _ _ _ _ hne]
          · have h3 : Below w.heap.size w _ := HB1.out.trans (HBR.out.mono HB1.out.size)
            exact ((h3.setCell (by dsimp only; omega) _).setCell (by dsimp only; omega) _).setCell (by dsimp only; omega) _
        · have hil : i < (Sp data 0).1.length := by omega
          have hur := HU4.out.below hbr
          obtain ⟨hxl, A', c', hxs, hox, -⟩ := hur.itm i (Sp data 0).1[i] (by simp [hil])
          obtain ⟨g3, rfl⟩ : ∃ g, A3 = some ⟨g, 0, none⟩ := by
            rcases hur.row.2 with ⟨-, h0⟩ | ⟨g, cap, cur, e, -⟩
            · omega
            · simp only [Value.slice.injEq] at e
              exact ⟨g, e.1⟩
          have hce := World.ownsRow.cells hur.row (g := g3) rfl i _ hxs
          have hadd : (⟨g3, 0, none⟩ : Addr).add i = ⟨g3, i, none⟩ := by unfold Addr.add; split <;> simp_all
          rw [hadd] at hce
          clear hadd
          have hjt := jb_take (Sp data 0).1 (i + 1)
          rw [List.take_succ_eq_append_getElem hil, jb_snoc] at hjt
          have hsb : (Ep.jbytes (Sp data 0).1).length ≤ data.length := by
            obtain ⟨r, hr⟩ := S_bytes _ data 0 rfl
            have := congrArg List.length hr
            simp at this
            omega
          have hpa := hia.at_
          simp only [List.length_append] at hjt
          have hszx := sz_u64 (Sp data 0).1[i].length (by omega)
          have hjx : (Nz.num (Sp data 0).1[i].length).length = sz (Sp data 0).1[i].length := rfl
          rw [hjx] at hjt
          have hpb : 0 ≤ p ∧ p + sz (Sp data 0).1[i].length + (Sp data 0).1[i].length ≤ 150000000000000 := by omega
          have BADI := Lib.hid (fun h => hia.bad hil h)
          have STEP := Lib.hid (fun h => hia.step hil h)
          obtain ⟨x, hx⟩ : ∃ x, x = (Sp data 0).1[i] := ⟨_, rfl⟩
          rw [← hx] at hxl hxs hox hce hszx hpb BADI STEP
          have SZ := Lib.hid (fun w => Nm.size x.length (by omega) w)
          have hq5 : IntKind.u64.wrap (x.length : Int) = (x.length : Int) := by rw [IntKind.wrap_u64]; omega
          obtain ⟨z, hz⟩ : ∃ z, z = sz x.length := ⟨_, rfl⟩
          rw [← hz] at hszx hpb BADI STEP SZ
          have e1 : IntKind.i64.wrap (p + (z : Int)) = p + (z : Int) := by rw [IntKind.wrap_i64]; omega
          have e2 : IntKind.i64.wrap (p + (z : Int) + (x.length : Int)) = p + (z : Int) + (x.length : Int) := by rw [IntKind.wrap_i64]; omega
          have RDA := IH S c j l (.slice A' x.length c') x (p + z) wr.drew (hc.below ((HB1.out.trans (hb1r.mono HB1.out.size)).drew)) hox.rd.drew hok (hT.below ((HB1.out.trans (hb1r.mono HB1.out.size)).drew)) (by omega) (by omega)
          have hll := below_hp HL.out hb1r
          have hcl := fun i => hp_cell hll i
          have hlit : i < (Sp data 0).1.length := hil
          have HRDA := Lib.hid RDA; have HVX := Lib.hid hvx; have HLL := Lib.hid hll; have HBRR := Lib.hid hbr; have HLT := Lib.hid hlit
          clear hjt hsb hpa hjx RDA hvx hll hbr hov hia hb1r hrr hur hox hx hz hxs
          go_wp2_with (go_at_call 9999)
          go_at_call 112
          refine (SZ.out _).mono ?_
          rintro _ w6 ⟨rfl, rfl⟩
          go_upto_region 13 with fail
          obtain ⟨Sx, hSx⟩ : ∃ Sx : World → Prop, Sx = fun W => W.cell? ⟨w4.heap.size, 2, none⟩ = some (.slice Ai vals.length ci) ∧ W.cell? ⟨w.heap.size, 0, none⟩ = some (.pointer (some ⟨c, 0, none⟩)) := ⟨_, rfl⟩
          have sA : ∀ W, Sx W → W.cell? ⟨w4.heap.size, 2, none⟩ = some (.slice Ai vals.length ci) := fun W h => by rw [hSx] at h; exact h.1
          have sB : ∀ W, Sx W → W.cell? ⟨w.heap.size, 0, none⟩ = some (.pointer (some ⟨c, 0, none⟩)) := fun W h => by rw [hSx] at h; exact h.2
          have sI : ∀ W, W.cell? ⟨w4.heap.size, 2, none⟩ = some (.slice Ai vals.length ci) → W.cell? ⟨w.heap.size, 0, none⟩ = some (.pointer (some ⟨c, 0, none⟩)) → Sx W := fun W h k => by rw [hSx]; exact ⟨h, k⟩
          have s0 : Sx wr.drew := sI _ (hcv 2) (hcl 0)
          clear hSx
          refine wp_region_split Sx 9 (by kernel_rfl) (by kernel_rfl) ?_
          simp only [List.take_succ_cons, List.take_zero]
          refine wpAnyH_take (i := 0) (v := ?vv0) rfl (by kernel_rfl) (by kernel_rfl) (by kernel_rfl) (fun _ _ _ h => h) (Or.inl ⟨by rfl, ?hy0⟩) s0 ?rest0
          case hy0 =>
            intro W hW
            have hA := sA W hW
            have hB := sB W hW
            go_simp
            try with_reducible rfl
          try simp only [Act.put, List.setIfInBounds_toArray, List.set_cons_zero, List.set_cons_succ]
          refine wpAnyH_take (i := 1) (v := ?vv1) rfl (by kernel_rfl) (by kernel_rfl) (by kernel_rfl) (fun _ _ _ h => h) (Or.inl ⟨by rfl, ?hy1⟩) s0 ?rest1
          case hy1 =>
            intro W hW
            have hA := sA W hW
            have hB := sB W hW
            go_simp
            try with_reducible rfl
          try simp only [Act.put, List.setIfInBounds_toArray, List.set_cons_zero, List.set_cons_succ]
          refine wpAnyH_take (i := 2) (v := ?vv2) rfl (by kernel_rfl) (by kernel_rfl) (by kernel_rfl) (fun _ _ _ h => h) (Or.inl ⟨by rfl, ?hy2⟩) s0 ?rest2
          case hy2 =>
            intro W hW
            have hA := sA W hW
            have hB := sB W hW
            go_simp
            try with_reducible rfl
          try simp only [Act.put, List.setIfInBounds_toArray, List.set_cons_zero, List.set_cons_succ]
          refine wpAnyH_take (i := 3) (v := ?vv3) rfl (by kernel_rfl) (by kernel_rfl) (by kernel_rfl) (fun _ _ _ h => h) (Or.inl ⟨by rfl, ?hy3⟩) s0 ?rest3
          case hy3 =>
            intro W hW
            have hA := sA W hW
            have hB := sB W hW
            go_simp
            try with_reducible rfl
          try simp only [Act.put, List.setIfInBounds_toArray, List.set_cons_zero, List.set_cons_succ]
          refine wpAnyH_take (i := 4) (v := ?vv4) rfl (by kernel_rfl) (by kernel_rfl) (by kernel_rfl) (fun _ _ _ h => h) (Or.inl ⟨by rfl, ?hy4⟩) s0 ?rest4
          case hy4 =>
            intro W hW
            have hA := sA W hW
            have hB := sB W hW
            go_simp
            try with_reducible rfl
          try simp only [Act.put, List.setIfInBounds_toArray, List.set_cons_zero, List.set_cons_succ]
          refine wpAnyH_take (i := 5) (v := ?vv5) rfl (by kernel_rfl) (by kernel_rfl) (by kernel_rfl) (fun _ _ _ h => h) (Or.inl ⟨by rfl, ?hy5⟩) s0 ?rest5
          case hy5 =>
            intro W hW
            have hA := sA W hW
            have hB := sB W hW
            go_simp
            try with_reducible rfl
          try simp only [Act.put, List.setIfInBounds_toArray, List.set_cons_zero, List.set_cons_succ]
          refine anyH_one (i := 6) (by kernel_rfl) rfl rfl (fun K hK => ?_)
          go_simp
          go_at_call 75
          refine HRDA.out.mono ?_
          rintro _ w6 ⟨⟨hx0, rfl⟩ | ⟨hx0, nv, dv, pv, rfl, ho6⟩, b6⟩
          · have hbi := BADI.out hx0
            exact ⟨rfl, .inl ⟨by rw [HLV.out, hbi]; exact hx0, by rw [HLV.out, hbi]; rfl⟩, HB1.out.trans ((HB4.out.trans ((HBRR.out.drew.trans (b6.mono HBRR.out.size)).mono HB4.out.size)).mono HB1.out.size)⟩
          have hst := STEP.out hx0
          clear BADI STEP HRDA
          generalize (rdv U n l x (p + (z : Int))).2 = y at *
          obtain ⟨hyn, rfl, x3, x4⟩ := ho6
          obtain ⟨A1, c1, rfl⟩ := x3.slice
          obtain ⟨A2, c2, -, -, -, e2', -⟩ := id x4
          subst e2'
          have hB6 : Below w4.heap.size w4 w6 := HBRR.out.drew.trans (b6.mono HBRR.out.size)
          have hvx6 := below_hp (w := wr.drew) HVX.out b6
          have hll6 := below_hp (w := wr.drew) HLL.out b6
          have hov6 := OwP.below (OwP.keep (w' := wr.drew) _ _ _ _ _ _ HOV.out (fun k _ _ => rfl)) b6
          have hsr : wr.heap.size ≤ w6.heap.size := b6.size
          have hs4 : w4.heap.size < wr.heap.size := (Array.getElem?_eq_some_iff.1 HVX.out).1
          have hs1 : w.heap.size < w1.heap.size := (Array.getElem?_eq_some_iff.1 HL.out).1
          have hs14 := HB4.out.size
          obtain ⟨A0, c0, xs0, a0, b0, e0, hrow6, hrlt, -⟩ := id hov6
          simp only [Value.slice.injEq] at e0
          obtain ⟨rfl, -, rfl⟩ := e0
          have hvl := hst.len
          have hile2 := hst.le
          have hle96 := HLEN.out
          simp only [List.length_append, List.length_singleton] at hvl
          obtain ⟨A8, c8, w8, hap, ho8, hz8, hg8, hown8⟩ := pushV hrow6 (by omega) (by omega) (.int .u64 (y.num : Int)) (.slice A1 y.data.length c1) (.slice A2 y.parts.length c2) (by
            intro u hu
            simp only [List.mem_cons, List.not_mem_nil, or_false] at hu
            rcases hu with rfl | rfl | rfl <;> rfl)
          have hrk : ∀ k, (Value.slice Ai vals.length ci).ownBlock = some k → w4.heap.size + 1 ≤ k := fun k hk => (World.ownsRow.lt hrow6 k hk).1
          have hvx8 : Pa.hp w8 w4.heap.size = some (.cells #[.int .u64 0, .slice none 0 0, .slice Ai vals.length ci] 32 (0, 0)) := (hg8.block _ (by omega) (fun e => by have := hrk _ e.symm; omega)).trans hvx6
          have hll8 : Pa.hp w8 w.heap.size = some (.cells #[.pointer (some ⟨c, 0, none⟩), .int .u64 (a : Int), .int .u64 (bm : Int)] 201 (0, 0)) := (hg8.block _ (by omega) (fun e => by have := hrk _ e.symm; omega)).trans hll6
          have hB8 : Below w4.heap.size w4 w8 := hB6.grown hg8 (by omega) (fun k hk => by have := hrk k hk; omega)
          have hpush := OwP.push y hov6 hrow6 (Nat.le_refl _) (by omega) hsr (Nat.le_refl _) hyn (row_mono x3 (by show w4.heap.size + 1 ≤ wr.heap.size; omega)) (OwP.dlo _ _ _ _ _ _ _ x4 (by show w4.heap.size + 1 ≤ wr.heap.size; omega)) ho8 hg8 hown8
          have s6 : Sx w6 := sI _ (hp_cell hvx6 2) (hp_cell hll6 0)
          have s7 : ∀ o, Sx (w6.alloc o) := fun o => sI _ (hp_cell (below_hp hvx6 (vb _ _)) 2) (hp_cell (below_hp hll6 (vb _ _)) 0)
          have s8 : Sx w8 := sI _ (hp_cell hvx8 2) (hp_cell hll8 0)
          have hcv8 := fun i => hp_cell hvx8 i
          have hfv8 := fun i => hp_frozen hvx8 i
          have HP := Lib.hid hpush; have HVX8 := Lib.hid hvx8; have HB8 := Lib.hid hB8; have HST := Lib.hid hst
          clear hpush hvx8 hll8 hB8 hst x3 x4 hov6 hrow6 hrlt hvx6 hll6 hB6 b6 ho8 hg8 hown8 hrk hsr hcv hcl hcr hfr hce
          refine hK.out _ _ s6 ?_
          refine anyH_one (i := 7) (by kernel_rfl) rfl rfl (fun K7 hK7 => ?_)
          go_simp
          refine hK7.out _ _ (s7 _) ?_
          refine anyH_one (i := 8) (by kernel_rfl) rfl rfl (fun K8 hK8 => ?_)
          go_simp
          refine hK8.out _ _ s8 ?_
          refine wpAnyH_done (by kernel_rfl) ?_ _
          unfold tailQ
          simp only [List.drop_succ_cons, List.drop_zero]
          have hi96 : i < 4096 := by have := HLT.out; omega
          have HVI := Lib.hid (show vals.length = i by omega)
          clear hle96 hile2 hvl
          go_wp2_with fail
          go_roundw
          case rel =>
            refine ⟨i + 1, _, _, A8, c8, rfl, by go_num, HST.out, HB8.out.setCell (p := ⟨w4.heap.size, 2, none⟩) (Nat.le_refl _) _, ?_, ?_⟩
            · rw [List.length_append, HVI.out]
              exact heap_setCell_same _ w4.heap.size 2 _ _ _ HVX8.out
            · rw [List.length_append, HVI.out]
              rw [HVI.out] at HP
              refine OwP.hi _ _ _ _ _ _ _ (OwP.keep _ _ _ _ _ _ HP.out (fun k hk _ => ?_)) (by simp [World.setCell])
              exact heap_setCell_other w8 ⟨w4.heap.size, 2, none⟩ k _ (by show k ≠ w4.heap.size; omega)
          case measure => have := HLT.out; simp [intOf]; omega
    · have hlv : lsv U n l a bm ⟨no, ty, num, data⟩ at_ = ((0, at_, Vu.within (Sp data 0).1.length a bm), va0) := by
        unfold lsv
        rw [if_neg (by simp [he]), if_pos hw, Rp.within_no hw]
      have GV := Lib.hid (fun w => Vg.give 0 at_ (Vu.within (Sp data 0).1.length a bm) w)
      have HLV := Lib.hid hlv
      clear hlv
      generalize Vu.within (Sp data 0).1.length a bm = er at *
      go_wp2_with (go_at_call 9999)
      go_at_call 86
      refine (GV.out _).mono ?_
      rintro _ w5 ⟨rfl, rfl⟩
      exact ⟨rfl, .inl ⟨by rw [HLV.out]; exact hw, by rw [HLV.out]; rfl⟩, HB1.out.trans (HB4.out.mono HB1.out.size)⟩
  · have hlv : lsv U n l a bm ⟨no, ty, num, data⟩ at_ = ((0, inPl ⟨no, ty, num, data⟩ at_ + sAt data, sErr data), va0) := by unfold lsv; rw [if_pos he]
    rw [← HP0.out] at hlv
    have GV := Lib.hid (fun w => Vg.give 0 (P0 + sAt data) (sErr data) w)
    have HLV := Lib.hid hlv
    have hsb : 0 ≤ sAt data ∧ sAt data ≤ 4194304 := by
      have := sAt_le data
      omega
    have e1 : IntKind.i64.wrap (P0 + sAt data) = P0 + sAt data := by rw [IntKind.wrap_i64]; omega
    clear hlv hok3
    generalize sErr data = er at *
    generalize sAt data = sa at *
    go_wp2_with (go_at_call 9999)
    go_at_call 86
    refine (GV.out _).mono ?_
    rintro _ w4 ⟨rfl, rfl⟩
    exact ⟨rfl, .inl ⟨by rw [HLV.out]; exact he, by rw [HLV.out]; rfl⟩, HB1.out.trans (HB3.out.mono HB1.out.size)⟩
end Go.Proofs.YtinngljphjdpoaaGreatDoor.Lr
/- A slot's reader, of whatever kind. -/
namespace Go.Proofs.YtinngljphjdpoaaGreatDoor.Rk
open Go Go.RowKit Go.Proofs.YtinngljphjdpoaaGreatDoor.Pa Go.Proofs.YtinngljphjdpoaaGreatDoor.Pb Go.Proofs.YtinngljphjdpoaaGreatDoor.Pf Go.Proofs.YtinngljphjdpoaaGreatDoor.Nz Go.Proofs.YtinngljphjdpoaaGreatDoor.Nm Go.Proofs.YtinngljphjdpoaaGreatDoor.Sc Go.Proofs.YtinngljphjdpoaaGreatDoor.Rs Go.Proofs.YtinngljphjdpoaaGreatDoor.Hs Go.Proofs.YtinngljphjdpoaaGreatDoor.Va Go.Proofs.YtinngljphjdpoaaGreatDoor.Vu Go.Proofs.YtinngljphjdpoaaGreatDoor.Vg Go.Proofs.YtinngljphjdpoaaGreatDoor.Vh Go.Proofs.YtinngljphjdpoaaGreatDoor.Ca Go.Proofs.YtinngljphjdpoaaGreatDoor.Ce Go.Proofs.YtinngljphjdpoaaGreatDoor.Ea Go.Proofs.YtinngljphjdpoaaGreatDoor.Gp Go.Proofs.YtinngljphjdpoaaGreatDoor.Gq Go.Proofs.YtinngljphjdpoaaGreatDoor.Gi Go.Proofs.YtinngljphjdpoaaGreatDoor.Hx Go.Proofs.YtinngljphjdpoaaGreatDoor.Ow Go.Proofs.YtinngljphjdpoaaGreatDoor.Rv Go.Proofs.YtinngljphjdpoaaGreatDoor.Rw Go.Proofs.YtinngljphjdpoaaGreatDoor.Pq Go.Proofs.YtinngljphjdpoaaGreatDoor.Ox Go.Proofs.YtinngljphjdpoaaGreatDoor.Lr
set_option linter.unusedVariables false
set_option linter.unusedSimpArgs false
/-- How the reading of a slot's value ends. -/
def RdEnds (U : List UInt8 → Bool) (n : Nat) (t : Slot) (g : Ep.Fd) (p : Int) (D : Nat) (w : World) (e : Ending) (w' : World) : Prop :=
  (((rSlot U (rdv U n) t g p).1.2.2 ≠ 0 ∧ e = gave (rSlot U (rdv U n) t g p).1) ∨
   ((rSlot U (rdv U n) t g p).1.2.2 = 0 ∧ ∃ nv dv pv, e = .returned (.agg #[nv, dv, pv]) ∧ OwV w' (2 * n + 2) D w.heap.size w'.heap.size nv dv pv (rSlot U (rdv U n) t g p).2)) ∧ Below w.heap.size w w'
/-- What a slot's reader does. -/
def RdK (W : World) (F : FuncId) (B C : Array Value) (fv : Value) (U : List UInt8 → Bool) (n : Nat) (t : Slot) (g : Ep.Fd) (p : Int) (D : Nat) : Prop :=
  ∀ w3, Below W.heap.size W w3 → Calls Tryz.prog F (B ++ #[fv, .int .i64 p] ++ C) w3 (RdEnds U n t g p D w3)
theorem clo (U : List UInt8 → Bool) (HU : UtfSaid U) (n : Nat) (IH : ReadSaid U n) (S : Pl) (j : Nat) (t : Slot) (chk wr rd : Value) (g : Ep.Fd) (A : Option Addr) (cd D : Nat) (p : Int) (W : World) (hr : Rdy (Cd W S n) W S t chk wr rd) (hbd : bnd t = true)
    (hok : nest t = true → okL j t.sub) (hT : TabU W) (h1 : 1 ≤ g.no) (h2 : g.no ≤ 536870911) (hty : g.ty = (wt t.kind : Int)) (hn : g.num < 18446744073709551616) (hdl : g.data.length ≤ 4194304) (hg2 : g.ty = 2 → g.num = 0) (hg3 : g.ty ≠ 2 → g.data = [])
    (hd : Pb.Own W D 5 (.slice A g.data.length cd) g.data) (hD : D ≤ W.heap.size) (hp0 : 0 ≤ p) (hp1 : p ≤ 150000000000000) (hb : 0 ≤ inPl g p ∧ inPl g p + g.data.length ≤ 150000000000000) :
    ∃ F B C, rd = .func (.func F) B C ∧ (∀ (args : Array Value) (w : World), (callFunc F args).run Tryz.prog w = .ok (.enter F args) w) ∧ RdK W F B C (.agg #[.int .i64 g.no, .int .i64 g.ty, .int .u64 (g.num : Int), .slice A g.data.length cd]) U n t g p D := by
  have hwl := wt_le t.kind
  have h3 : 0 ≤ g.ty ∧ g.ty ≤ 7 := by omega
  unfold Rdy at hr
  by_cases h8 : t.kind = 8
  · rw [if_pos h8] at hr
    obtain ⟨c, b5, b9, hc, -, -, -, h9, -, -, rfl⟩ := hr
    refine ⟨_, #[], _, rfl, enters_of Tryz.func125 (by kernel_rfl) rfl, fun w3 hw => ?_⟩
    have hrs : rSlot U (rdv U n) t g p = rdv U n t.sub g.data (inPl g p) := by unfold rSlot; rw [if_pos h8]
    refine (ready8 U n IH S c j b9 t.sub g.no g.ty g.num cd A g.data p w3 (hc.below hw) (below_hp h9 hw) (hd.rd.below hw) (hok (by unfold nest; simp [h8])) (hT.below hw) h1 h2 h3 hdl hp0 hp1 hb).mono ?_
    rintro e w' ⟨h, hbb⟩
    refine ⟨?_, hbb⟩
    rw [hrs]
    rcases h with h | ⟨h0, nv, dv, pv, he, ho⟩
    · exact .inl h
    · exact .inr ⟨h0, nv, dv, pv, he, (ho.up (by omega)).dlo (Nat.le_trans hD hw.size)⟩
  · rw [if_neg h8] at hr
    obtain ⟨sh, b4, b1, sv, hsh, -, -, hb4, -, -, hr⟩ := hr
    by_cases h9 : t.kind = 9
    · rw [if_pos h9] at hr
      obtain ⟨c, hshc, -, rfl⟩ := hr
      unfold Shp at hsh
      rw [if_neg h8, if_pos h9] at hsh
      obtain ⟨c2, hc2, hsh2⟩ := hsh
      have hcc : c2 = c := by
        rw [hshc] at hsh2
        simp [ptr] at hsh2
        exact hsh2.symm
      subst hcc
      refine ⟨_, _, #[], rfl, enters_of Tryz.func128 (by kernel_rfl) rfl, fun w3 hw => ?_⟩
      have hrs : rSlot U (rdv U n) t g p = lsv U n t.sub t.least t.most g p := by unfold rSlot lsv; rw [if_neg h8, if_pos h9]
      refine (listRead U n IH S c2 j t.least t.most t.sub g.no g.ty g.num cd A g.data p w3 (hc2.below hw) (hd.rd.below hw) (hok (by unfold nest; simp [h9])) (hT.below hw) h1 h2 h3 hdl hp0 hp1 hb).mono ?_
      rintro e w' ⟨h, hbb⟩
      refine ⟨?_, hbb⟩
      rw [hrs]
      rcases h with h | ⟨h0, nv, dv, pv, he, ho⟩
      · exact .inl h
      · exact .inr ⟨h0, nv, dv, pv, he, ho.dlo (Nat.le_trans hD hw.size)⟩
    · rw [if_neg h9] at hr
      have hfl : sh = flat t := by unfold Shp at hsh; rwa [if_neg h8, if_neg h9] at hsh
      by_cases h5 : t.kind = 5 ∨ t.kind = 6
      · rw [if_pos h5] at hr
        obtain ⟨-, rfl⟩ := hr
        refine ⟨_, #[], _, rfl, enters_of Tryz.func123 (by kernel_rfl) rfl, fun w3 hw => ?_⟩
        have hw2 : wt t.kind = 2 := by rcases h5 with e | e <;> rw [e] <;> rfl
        have hnum : g.num = 0 := hg2 (by rw [hty, hw2]; rfl)
        have hfl2 : flat t = .iface 210 (.agg #[.int .u64 t.least, .int .u64 t.most, .bool (decide (t.kind = 6))]) := by
          unfold flat; rw [if_neg (by omega), if_neg (by omega), if_pos h5]
        rw [hfl, hfl2] at hb4
        have hbo : badOf pF U t (.mk g.num g.data []) 0 = (if Vu.within g.data.length t.least t.most ≠ 0 then 83 else if decide (t.kind = 6) = true ∧ U g.data = false then 84 else 0) := by
          unfold badOf
          rw [if_neg (by omega), if_neg (by omega), if_pos h5]
          simp only [Va.data, decide_eq_true_eq]
          congr
        have hrs : rSlot U (rdv U n) t g p = if badOf pF U t (.mk g.num g.data []) 0 ≠ 0 then ((0, p, badOf pF U t (.mk g.num g.data []) 0), va0) else ((0, 0, 0), .mk g.num g.data []) := by unfold rSlot; rw [if_neg h8, if_neg h9]
        refine (ready6 _ _ g.no g.ty g.num g.data.length cd b4 A p (badOf pF U t (.mk g.num g.data []) 0) w3 (below_hp hb4 hw) (fun w4 hw4 => by
          rw [hbo]
          exact bad_data HU t.least t.most 0 0 _ _ _ g.data w4 ((hd.rd.below hw).below hw4) ((hT.below hw).below hw4))).mono ?_
        rintro e w' ⟨h, hbb⟩
        refine ⟨?_, hbb⟩
        rw [hrs]
        rcases h with ⟨h0, rfl⟩ | ⟨h0, rfl⟩
        · rw [if_neg (by simp [h0])]
          refine .inr ⟨rfl, _, _, _, rfl, by simp only [Va.num]; exact hn, by simp [Va.num, hnum], ?_, OwP.nil _ (2 * n + 1) _ _ _ hbb.size⟩
          exact ((hd.below hw).below hbb)
        · rw [if_pos h0]
          exact .inl ⟨h0, rfl⟩
      · rw [if_neg h5] at hr
        obtain ⟨-, rfl⟩ := hr
        refine ⟨_, #[], _, rfl, enters_of Tryz.func120 (by kernel_rfl) rfl, fun w3 hw => ?_⟩
        have hk := bnd_kind hbd
        have hw2 : wt t.kind ≠ 2 := by
          intro hh
          unfold wt at hh
          repeat' split at hh
          all_goals omega
        have hdat : g.data = [] := hg3 (by omega)
        have hrs : rSlot U (rdv U n) t g p = if badOf pF U t (.mk g.num g.data []) 0 ≠ 0 then ((0, p, badOf pF U t (.mk g.num g.data []) 0), va0) else ((0, 0, 0), .mk g.num g.data []) := by unfold rSlot; rw [if_neg h8, if_neg h9]
        have hbad : ∃ tt sv, flat t = .iface tt sv ∧ ∀ w4, Calls Tryz.prog 118 #[.iface tt sv, .agg #[.int .u64 (g.num : Int), .slice none 0 0, .slice none 0 0], .int .i64 0] w4 fun e w2 => e = .returned (.int .i64 (badOf pF U t (.mk g.num g.data []) 0)) ∧ Below w4.heap.size w4 w2 := by
          unfold flat badOf
          by_cases h4 : t.kind = 4
          · rw [if_pos h4, if_pos h4]
            exact ⟨_, _, rfl, fun w4 => bad_number 0 1 g.num 0 _ _ w4⟩
          · rw [if_neg h4, if_neg h4]
            by_cases h7 : t.kind = 7
            · rw [if_pos h7, if_pos h7]
              exact ⟨_, _, rfl, fun w4 => bad_float g.num t.most 0 hn _ _ w4⟩
            · rw [if_neg h7, if_neg h7, if_neg h5, if_neg h5, if_neg h9, if_neg h8]
              exact ⟨_, _, rfl, fun w4 => bad_number t.least t.most g.num 0 _ _ w4⟩
        obtain ⟨tt, sv, hfe, hbc⟩ := hbad
        rw [hfl, hfe] at hb4
        refine (ready4 tt sv g.no g.ty g.num g.data.length cd b4 A p (badOf pF U t (.mk g.num g.data []) 0) w3 (below_hp hb4 hw) (fun w4 hw4 => hbc w4)).mono ?_
        rintro e w' ⟨h, hbb⟩
        refine ⟨?_, hbb⟩
        rw [hrs]
        rcases h with ⟨h0, rfl⟩ | ⟨h0, rfl⟩
        · rw [if_neg (by simp [h0])]
          refine .inr ⟨rfl, _, _, _, rfl, by simp only [Va.num]; exact hn, rfl, ?_, OwP.nil _ (2 * n + 1) _ _ _ hbb.size⟩
          simp only [Va.data]
          rw [hdat]
          exact Pb.Own.nil _ _ _
        · rw [if_pos h0]
          exact .inl ⟨h0, rfl⟩
end Go.Proofs.YtinngljphjdpoaaGreatDoor.Rk
