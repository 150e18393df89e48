/- The reference: part. -/
import Derived.Test.YtinngljphjdpoaaGreatDoorJRq
import Derived.Test.YtinngljphjdpoaaGreatDoorJKu
import Derived.Deep.DeepCutAuto
import Derived.Test.YtinngljphjdpoaaGreatDoorJCm
namespace Go.Proofs.YtinngljphjdpoaaGreatDoor.Rr
open Go Go.RowKit Go.Proofs.YtinngljphjdpoaaGreatDoor.Pa Go.Proofs.YtinngljphjdpoaaGreatDoor.Pb Go.Proofs.YtinngljphjdpoaaGreatDoor.Pf Go.Proofs.YtinngljphjdpoaaGreatDoor.Pq Go.Proofs.YtinngljphjdpoaaGreatDoor.Sc Go.Proofs.YtinngljphjdpoaaGreatDoor.Rs Go.Proofs.YtinngljphjdpoaaGreatDoor.Vu Go.Proofs.YtinngljphjdpoaaGreatDoor.Vo Go.Proofs.YtinngljphjdpoaaGreatDoor.Rp Go.Proofs.YtinngljphjdpoaaGreatDoor.Rq Go.Proofs.YtinngljphjdpoaaGreatDoor.Hx
set_option linter.unusedVariables false
set_option linter.unusedSimpArgs false
theorem retf {f g : Flt} (h : f = g) : Ending.returned (.agg #[.int .i64 f.1, .int .i64 f.2.1, .int .i64 f.2.2]) = .returned (fl g) := by rw [h]; rfl
/-- The three boxes of part. -/
def Bx (w : World) (no kind : Int) (a b : Nat) (C : Option Addr) (m c3 : Nat) (num : Nat) (Ad : Option Addr) (dl cd : Nat) (Ap : Option Addr) (pl cp : Nat) (W : World) : Prop :=
  Below w.heap.size w W ∧ w.heap.size + 3 ≤ W.heap.size ∧ hp W w.heap.size = some (.cells #[.int .i64 no, .int .i64 kind, .int .u64 (a : Int), .int .u64 (b : Int), .slice C m c3] 117 (0, 0)) ∧
  hp W (w.heap.size + 1) = some (.cells #[.int .u64 (num : Int), .slice Ad dl cd, .slice Ap pl cp] 32 (0, 0)) ∧ hp W (w.heap.size + 2) = some (.cells #[.int .i64 0, .int .i64 0, .int .i64 0] 39 (0, 0))
theorem Bx.below {w : World} {no kind : Int} {a b : Nat} {C : Option Addr} {m c3 : Nat} {num : Nat} {Ad : Option Addr} {dl cd : Nat} {Ap : Option Addr} {pl cp : Nat} {W W' : World} (h : Bx w no kind a b C m c3 num Ad dl cd Ap pl cp W) (hb : Below W.heap.size W W') : Bx w no kind a b C m c3 num Ad dl cd Ap pl cp W' :=
  ⟨h.1.trans (hb.mono h.1.size), Nat.le_trans h.2.1 hb.size, below_hp h.2.2.1 hb, below_hp h.2.2.2.1 hb, below_hp h.2.2.2.2 hb⟩
theorem bx_new (w : World) (no kind : Int) (a b : Nat) (C : Option Addr) (m c3 : Nat) (num : Nat) (Ad : Option Addr) (dl cd : Nat) (Ap : Option Addr) (pl cp : Nat) :
    Bx w no kind a b C m c3 num Ad dl cd Ap pl cp (((w.alloc (.cells #[.int .i64 no, .int .i64 kind, .int .u64 (a : Int), .int .u64 (b : Int), .slice C m c3] 117)).alloc (.cells #[.int .u64 (num : Int), .slice Ad dl cd, .slice Ap pl cp] 32)).alloc (.cells #[.int .i64 0, .int .i64 0, .int .i64 0] 39)) := by
  have h : ∀ {w' : World} (o : Obj), Below w.heap.size w w' → Below w.heap.size w (w'.alloc o) := fun o hb => hb.alloc hb.size _
  exact ⟨h _ (h _ (h _ (Below.refl _ _))), by simp, (hp_alloc_past _ _ (by simp; omega)).trans ((hp_alloc_past _ _ (by simp)).trans (hp_alloc_at _ _ rfl)), (hp_alloc_past _ _ (by simp)).trans (hp_alloc_at _ _ (by simp)), hp_alloc_at _ _ (by simp)⟩
section
variable (n : Nat) (k m : Nat) (no : Int) (a b : Nat) (sub : List Slot) (C : Option Addr) (c3 : Nat) (x : Va) (deep : Int) (W w : World)
set_option maxHeartbeats 1000000 in
set_option maxRecDepth 100000 in
/-- part of a message's slot. -/
theorem part8 (IH : RChk n) (hs : RdS W n (.slice C sub.length c3) sub) (hok : okL k sub) (nv dv pv : Value) (hx : RdV W m nv dv pv x) (hf : FewV (m + 1) x) (hB : Below W.heap.size W w) (h0 : 0 ≤ deep) (h1 : deep + n + 1 ≤ 1000000) :
    Calls Tryz.prog 87 #[.agg #[.int .i64 no, .int .i64 8, .int .u64 (a : Int), .int .u64 (b : Int), .slice C sub.length c3], .agg #[nv, dv, pv], .int .i64 deep] w fun e w' => e = .returned (fl (partOf Lib.validD n (.mk no 8 a b sub) x deep)) ∧ Below w.heap.size w w' := by
  have hcall := fun w3 (hb : Below w.heap.size w w3) => IH k m _ nv dv pv sub x (deep + 1) W w3 hs hok hx hf (hB.trans (hb.mono hB.size)) (by omega) (by omega)
  rw [show partOf Lib.validD n (.mk no 8 a b sub) x deep = chk Vh.pF Lib.validD n sub x (deep + 1) from by simp [partOf, Slot.kind, Slot.sub]]
  obtain ⟨F, hF⟩ : ∃ F, F = chk Vh.pF Lib.validD n sub x (deep + 1) := ⟨_, rfl⟩
  rw [← hF] at hcall ⊢
  obtain ⟨hnum, rfl, hdv, hpv⟩ := hx
  obtain ⟨Ad, cd, rfl, -⟩ := hdv
  obtain ⟨Ap, cp, rfl, -⟩ := hpv.slice
  obtain ⟨f1, f2, f3⟩ := F
  unfold fl at *
  have HC := Lib.hid hcall
  have hbx := bx_new w no 8 a b C sub.length c3 x.num Ad x.data.length cd Ap x.parts.length cp
  have HBX := Lib.hid hbx
  have HD := Lib.hid (show 0 ≤ deep ∧ deep ≤ 1000000 by omega)
  clear hcall hpv hs hok hF hB IH hbx hf
  have hwr : wrap64 (deep + 1) = deep + 1 := w64 (by omega) (by omega)
  clear h1
  go_enter Tryz.func87, Tryz.ntmps87
  go_wp2_with (go_at_call 9999)
  go_at_call 61
  refine (HC.out _ HBX.out.1).mono ?_
  rintro _ w4 ⟨rfl, b4⟩
  have B4 := HBX.out.below b4
  have hz := B4.2.2.2.2
  have hzc := fun i => hp_cell hz i
  have hzf := fun i => hp_frozen hz i
  have HB4 := Lib.hid B4; have HZ := Lib.hid hz
  clear b4 B4 hz
  go_wp2_with fail
  exact ret_row Tryz.results87 Tryz.underlying39 rfl (by kernel_rfl) rfl (hp_set3 HZ.out (f1, f2, f3)) rfl ⟨rfl, below_set3 HB4.out.1 (by omega) (f1, f2, f3)⟩
set_option maxHeartbeats 1000000 in
set_option maxRecDepth 100000 in
/-- part of every slot but a message's and a list's. -/
theorem partP (kind : Int) (hb : bnd (.mk no kind a b sub) = true) (h8 : kind ≠ 8) (h9 : kind ≠ 9) (nv dv pv : Value) (hx : RdV W m nv dv pv x) (hf : FewV (m + 1) x) (hB : Below W.heap.size W w) :
    Calls Tryz.prog 87 #[.agg #[.int .i64 no, .int .i64 kind, .int .u64 (a : Int), .int .u64 (b : Int), .slice C sub.length c3], .agg #[nv, dv, pv], .int .i64 deep] w fun e w' => e = .returned (fl (partOf Lib.validD n (.mk no kind a b sub) x deep)) ∧ Below w.heap.size w w' := by
  obtain ⟨hnum, rfl, hdv, hpv⟩ := hx
  obtain ⟨Ad, cd, rfl, -⟩ := id hdv
  obtain ⟨Ap, cp, rfl, -⟩ := hpv.slice
  have hcall := fun w3 (h : Below w.heap.size w w3) => rplain no kind a b sub C Ad Ap sub.length cd cp c3 x w3 hb h8 hnum hf.2.1 hf.1 (rd_keep (hB.trans (h.mono hB.size)).block hdv)
  obtain ⟨e, he⟩ : ∃ e, e = plainOf Lib.validD (.mk no kind a b sub) x := ⟨_, rfl⟩
  rw [← he] at hcall
  have hP : partOf Lib.validD n (.mk no kind a b sub) x deep = if e ≠ 0 then (deep, no, e) else (0, 0, 0) := by
    simp [partOf, Slot.kind, Slot.no, h8, h9, ← he]
  rw [hP]
  obtain ⟨⟨r1, r2, r3⟩, hR⟩ : ∃ R : Flt, R = if e ≠ 0 then (deep, no, e) else (0, 0, 0) := ⟨_, rfl⟩
  rw [← hR]
  have HR := Lib.hid hR; clear hR
  have HC := Lib.hid hcall
  have hbx := bx_new w no kind a b C sub.length c3 x.num Ad x.data.length cd Ap x.parts.length cp
  have HBX := Lib.hid hbx
  have k8 : (kind == 8) = false := by simpa using h8
  have k9 : (kind == 9) = false := by simpa using h9
  clear hcall hpv hB hbx hf hdv hb he hP h8 h9
  go_enter Tryz.func87, Tryz.ntmps87
  go_wp2_with (go_at_call 9999)
  go_at_call 101
  refine (HC.out _ HBX.out.1).mono ?_
  rintro _ w4 ⟨rfl, b4⟩
  have B4 := HBX.out.below b4
  have hz := B4.2.2.2.2
  have hzc := fun i => hp_cell hz i
  have hzf := fun i => hp_frozen hz i
  have hsc := fun i => hp_cell B4.2.2.1 i
  have HB4 := Lib.hid B4; have HZ := Lib.hid hz
  clear b4 B4 hz
  by_cases he : e = 0
  · subst he
    have h := HR.out
    rw [if_neg (by decide)] at h
    simp only [Prod.mk.injEq] at h
    obtain ⟨rfl, rfl, rfl⟩ := h
    go_wp2_with fail
    exact ret_row Tryz.results87 Tryz.underlying39 rfl (by kernel_rfl) rfl (hp_set3 HZ.out (0, 0, 0)) rfl ⟨rfl, below_set3 HB4.out.1 (by omega) (0, 0, 0)⟩
  · have h := HR.out
    rw [if_pos he] at h
    have hez : (e != 0) = true := by simpa using he
    clear he HR
    simp only [Prod.mk.injEq] at h
    obtain ⟨rfl, rfl, rfl⟩ := h
    go_wp2_with fail
    exact ret_row Tryz.results87 Tryz.underlying39 rfl (by kernel_rfl) rfl (hp_set3 HZ.out (_, _, _)) rfl ⟨rfl, below_set3 HB4.out.1 (by omega) (_, _, _)⟩
set_option maxHeartbeats 2000000 in
set_option maxRecDepth 100000 in
/-- part of a list's slot. -/
theorem part9 (IH : RChk n) (hb : bnd (.mk no 9 a b sub) = true) (hs : RdS W n (.slice C sub.length c3) sub) (hok : okL k sub) (nv dv pv : Value) (hx : RdV W m nv dv pv x) (hf : FewV (m + 1) x) (hB : Below W.heap.size W w) (h0 : 0 ≤ deep) (h1 : deep + n + 1 ≤ 1000000) :
    Calls Tryz.prog 87 #[.agg #[.int .i64 no, .int .i64 9, .int .u64 (a : Int), .int .u64 (b : Int), .slice C sub.length c3], .agg #[nv, dv, pv], .int .i64 deep] w fun e w' => e = .returned (fl (partOf Lib.validD n (.mk no 9 a b sub) x deep)) ∧ Below w.heap.size w w' := by
  obtain ⟨hnum, rfl, hdv, hpv⟩ := hx
  obtain ⟨Ad, cd, rfl, -⟩ := id hdv
  obtain ⟨Ap, cp, rfl, -⟩ := hpv.slice
  obtain ⟨m, rfl⟩ := hpv.pos
  have hcall := fun w3 (h : Below w.heap.size w w3) => rplain no 9 a b sub C Ad Ap sub.length cd cp c3 x w3 hb (by decide) hnum hf.2.1 hf.1 (rd_keep (hB.trans (h.mono hB.size)).block hdv)
  obtain ⟨e, he⟩ : ∃ e, e = plainOf Lib.validD (.mk no 9 a b sub) x := ⟨_, rfl⟩
  rw [← he] at hcall
  have hP : partOf Lib.validD n (.mk no 9 a b sub) x deep = if e ≠ 0 then (deep, no, e) else itemsGo (fun y => chk Vh.pF Lib.validD n sub y (deep + 1)) x.parts := by
    simp [partOf, Slot.kind, Slot.no, Slot.sub, ← he]
  rw [hP]
  obtain ⟨⟨r1, r2, r3⟩, hR⟩ : ∃ R : Flt, R = if e ≠ 0 then (deep, no, e) else itemsGo (fun y => chk Vh.pF Lib.validD n sub y (deep + 1)) x.parts := ⟨_, rfl⟩
  rw [← hR]
  have HR := Lib.hid hR; clear hR
  have hck := fun (i : Nat) (hi : i < x.parts.length) (nv2 dv2 pv2 : Value) (mm : Nat) (hxx : RdV W mm nv2 dv2 pv2 x.parts[i]) (hff : FewV (mm + 1) x.parts[i]) w3 (h : Below w.heap.size w w3) => IH k mm _ nv2 dv2 pv2 sub x.parts[i] (deep + 1) W w3 hs hok hxx hff (hB.trans (h.mono hB.size)) (by omega) (by omega)
  have HCK := Lib.hid hck
  have hwr : wrap64 (deep + 1) = deep + 1 := w64 (by omega) (by omega)
  have hwr2 : IntKind.i64.wrap (deep + 1) = deep + 1 := by rw [IntKind.wrap_i64]; omega
  have HC := Lib.hid hcall
  have hbx := bx_new w no 9 a b C sub.length c3 x.num Ad x.data.length cd Ap x.parts.length cp
  have HBX := Lib.hid hbx
  have hpl : x.parts.length ≤ 10000 := hf.2.1
  have HF := Lib.hid hf.2.2
  have HPV := Lib.hid hpv; have HB := Lib.hid hB
  clear hcall hpv hB hbx hf hdv hb he hP hck hs hok IH h0 h1
  go_enter Tryz.func87, Tryz.ntmps87
  go_wp2_with (go_at_call 9999)
  go_at_call 101
  refine (HC.out _ HBX.out.1).mono ?_
  rintro _ w4 ⟨rfl, b4⟩
  have B4 := HBX.out.below b4
  have hz := B4.2.2.2.2
  have hzc := fun i => hp_cell hz i
  have hzf := fun i => hp_frozen hz i
  have hsc := fun i => hp_cell B4.2.2.1 i
  have hxc := fun i => hp_cell B4.2.2.2.1 i
  have HB4 := Lib.hid B4; have HZ := Lib.hid hz
  clear b4 B4 hz HC HBX
  by_cases he : e = 0
  · subst he
    have h := HR.out
    rw [if_neg (by decide)] at h
    have HI := Lib.hid h.symm
    clear HR h
    go_wp2_with fail
    clear hzc hzf hsc hxc
    go_loopw [8] (fun s wr => ∃ (i : Nat), i ≤ x.parts.length ∧ s = .int .i64 i ∧ itemsGo (fun y => chk Vh.pF Lib.validD n sub y (deep + 1)) (x.parts.drop i) = (r1, r2, r3) ∧ Below w4.heap.size w4 wr) (fun s _ => x.parts.length - (intOf s).toNat)
    case atStart => exact ⟨0, by omega, rfl, HI.out, Below.refl _ _⟩
    case round =>
      obtain ⟨i, hi, rfl, hit, hbw⟩ := hrel
      have BW := HB4.out.below hbw
      have hz := BW.2.2.2.2
      have hzc := fun i => hp_cell hz i
      have hzf := fun i => hp_frozen hz i
      have hsc := fun i => hp_cell BW.2.2.1 i
      have hxc := fun i => hp_cell BW.2.2.2.1 i
      have HBW := Lib.hid BW; have HIT := Lib.hid hit; have HW4 := Lib.hid hbw; have HZ := Lib.hid hz
      clear BW hit hbw hz
      by_cases hin : i < x.parts.length
      · have hbr : Below W.heap.size W wr := HB.out.trans (HBW.out.1.mono HB.out.size)
        obtain ⟨ad, rfl, dv2, pv2, g1, g2, g3, g4⟩ := HPV.out.at_ i hin
        have hca := HCK.out i hin _ dv2 pv2 m g4 (HF.out _ (List.getElem_mem hin))
        have k : ∀ a u, W.cell? a = some u → wr.cell? a = some u := fun a u hu => (World.cell?_of_block (hbr.block _ (World.block_lt_of_cell? W _ hu))).trans hu
        replace g1 := k _ _ g1; replace g2 := k _ _ g2; replace g3 := k _ _ g3
        have hst := itemsGo_drop (fun y => chk Vh.pF Lib.validD n sub y (deep + 1)) x.parts i hin
        rw [HIT.out] at hst
        generalize x.parts[i] = z at *
        obtain ⟨⟨q1, q2, q3⟩, hq⟩ : ∃ F : Flt, F = chk Vh.pF Lib.validD n sub z (deep + 1) := ⟨_, rfl⟩
        simp only [← hq] at hst hca
        obtain ⟨q, hpz⟩ : ∃ q, ad.add (i * 3) = q := ⟨_, rfl⟩
        rw [add_lit _ _ _ (by omega)] at g2 g3
        rw [hpz] at g1 g2 g3
        obtain ⟨hz1, -, hz3, hz4⟩ := id g4
        obtain ⟨Ad2, cd2, rfl, -⟩ := hz3
        obtain ⟨Ap2, cp2, rfl, -⟩ := hz4.slice
        have hcw := fun w3 (h : Below wr.heap.size wr w3) => hca w3 (HBW.out.1.trans (h.mono HBW.out.1.size))
        have HCW := Lib.hid hcw; have HST := Lib.hid hst
        have hws := HBW.out.2.1
        clear hcw hst hca g4 hz1 hz4 hbr k hq
        unfold fl at HCW
        have hqb : q.block < wr.heap.size := World.block_lt_of_cell? wr _ g1
        have n1 : ¬ q.block = wr.heap.size := by omega
        have n2 : ¬ wr.heap.size = q.block := by omega
        have n3 : ¬ w.heap.size = wr.heap.size := by omega
        have n4 : ¬ wr.heap.size = w.heap.size := by omega
        have n5 : ¬ w.heap.size + 1 = wr.heap.size := by omega
        have n6 : ¬ wr.heap.size = w.heap.size + 1 := by omega
        have n7 : w.heap.size + 1 < wr.heap.size := by omega
        have n8 : w.heap.size < wr.heap.size := by omega
        have e5 : ∀ i, ((wr.alloc (.cells #[.int .i64 0, .int .i64 0, .int .i64 0] 39))).cell? ⟨w.heap.size + 1, i, none⟩ = (#[.int .u64 (x.num : Int), .slice Ad x.data.length cd, .slice (some ad) x.parts.length cp] : Array Value)[i]? := fun i => by rw [World.cell?_alloc_lt _ _ _ (by simpa using n7)]; exact hxc i
        go_upto_region 10 with fail
        go_cut [9] from 32 to 52 (fun p wx => ∃ g, p = .pointer (some ⟨g, 0, none⟩) ∧ hp wx g = some (.cells #[.int .i64 q1, .int .i64 q2, .int .i64 q3] 39 (0, 0)) ∧ Below wr.heap.size wr wx ∧ wr.heap.size ≤ g)
        case first =>
          go_region_with (go_at_call 61; (try rw [hwr2]); refine (HCW.out _ (by first | exact (Below.refl _ _).drew | exact ((Below.refl _ _).alloc (by simp) _).drew)).mono ?_; rintro _ w6 ⟨rfl, b6⟩; (first | (have hza := (b6.hp wr.heap.size (by simp)).trans (hp_alloc_at _ _ rfl); have hzac := fun i => hp_cell hza i; have hzaf := fun i => hp_frozen hza i; have HZA := Lib.hid hza; clear hza; have HB6 := Lib.hid (show Below wr.heap.size wr w6 from (((Below.refl _ _).alloc (Nat.le_refl _) _).drew).trans (b6.mono (by simp)))) | (have HB6 := Lib.hid (show Below wr.heap.size wr w6 from (Below.refl _ _).drew.trans (b6.mono (by simp))))); clear b6)
          all_goals
            go_wp2_with fail
            go_meet
            first | exact ⟨_, rfl, hp_set3 HZA.out (q1, q2, q3), below_set3 HB6.out (Nat.le_refl _) (q1, q2, q3), Nat.le_refl _⟩ | exact ⟨_, rfl, hp_alloc_at _ _ rfl, HB6.out.alloc HB6.out.size _, HB6.out.size⟩
        case rest =>
          obtain ⟨g, rfl, hg, hb6, hge⟩ := hcut
          have hgc := fun i => hp_cell hg i
          have B6 := HBW.out.below hb6
          have hz := B6.2.2.2.2
          have hzc := fun i => hp_cell hz i
          have hzf := fun i => hp_frozen hz i
          have HB6 := Lib.hid B6; have HZ6 := Lib.hid hz; have HW6 := Lib.hid (HW4.out.trans (hb6.mono HW4.out.size))
          clear hb6 B6 hz HZ g1 g2 g3 hsc hxc e5 hg
          by_cases hq3 : q3 = 0
          · subst hq3
            have hnx := HST.out
            rw [if_neg (by decide)] at hnx
            have HNX := Lib.hid hnx.symm
            clear hnx HST HIT
            go_wp2_with fail
            go_roundw
            case rel => exact ⟨i + 1, by omega, by go_num, HNX.out, HW6.out⟩
            case measure => simp [intOf]; omega
          · have hnx := HST.out
            rw [if_pos hq3] at hnx
            have hqz : (q3 != 0) = true := by simpa using hq3
            clear hq3 HST HIT HI
            simp only [Prod.mk.injEq] at hnx
            obtain ⟨rfl, rfl, rfl⟩ := hnx
            go_wp2_with fail
            exact ret_row Tryz.results87 Tryz.underlying39 rfl (by kernel_rfl) rfl (hp_set3 HZ6.out (_, _, _)) rfl ⟨rfl, below_set3 HB6.out.1 (by omega) (_, _, _)⟩
      · obtain rfl : i = x.parts.length := by omega
        have hfin := HIT.out
        rw [List.drop_length] at hfin
        have hfin2 : (0, 0, 0) = ((r1, r2, r3) : Flt) := hfin
        simp only [Prod.mk.injEq] at hfin2
        obtain ⟨rfl, rfl, rfl⟩ := hfin2
        clear hfin HIT HI
        go_wp2_with fail
        exact ret_row Tryz.results87 Tryz.underlying39 rfl (by kernel_rfl) rfl (hp_set3 HZ.out (0, 0, 0)) rfl ⟨rfl, below_set3 HBW.out.1 (by omega) (0, 0, 0)⟩
  · have h := HR.out
    rw [if_pos he] at h
    have hez : (e != 0) = true := by simpa using he
    clear he HR HCK HF HPV
    simp only [Prod.mk.injEq] at h
    obtain ⟨rfl, rfl, rfl⟩ := h
    go_wp2_with fail
    exact ret_row Tryz.results87 Tryz.underlying39 rfl (by kernel_rfl) rfl (hp_set3 HZ.out (_, _, _)) rfl ⟨rfl, below_set3 HB4.out.1 (by omega) (_, _, _)⟩
end
end Go.Proofs.YtinngljphjdpoaaGreatDoor.Rr
/- The reference: check, and Codec.Check. -/
namespace Go.Proofs.YtinngljphjdpoaaGreatDoor.Rt
open Go Go.RowKit Go.Proofs.YtinngljphjdpoaaGreatDoor.Pa Go.Proofs.YtinngljphjdpoaaGreatDoor.Pb Go.Proofs.YtinngljphjdpoaaGreatDoor.Pf Go.Proofs.YtinngljphjdpoaaGreatDoor.Pq Go.Proofs.YtinngljphjdpoaaGreatDoor.Sc Go.Proofs.YtinngljphjdpoaaGreatDoor.Rs Go.Proofs.YtinngljphjdpoaaGreatDoor.Vu Go.Proofs.YtinngljphjdpoaaGreatDoor.Vo Go.Proofs.YtinngljphjdpoaaGreatDoor.Rp Go.Proofs.YtinngljphjdpoaaGreatDoor.Rq Go.Proofs.YtinngljphjdpoaaGreatDoor.Rr Go.Proofs.YtinngljphjdpoaaGreatDoor.Hx
set_option linter.unusedVariables false
set_option linter.unusedSimpArgs false
/-- part of any slot that can be. -/
theorem partAll (n : Nat) (IH : RChk n) (k m : Nat) (no kind : Int) (a b : Nat) (sub : List Slot) (C : Option Addr) (c3 : Nat) (nv dv pv : Value) (x : Va) (deep : Int) (W w : World) (hb : bnd (.mk no kind a b sub) = true)
    (hs : nest (.mk no kind a b sub) = true → RdS W n (.slice C sub.length c3) sub ∧ okL k sub) (hx : RdV W m nv dv pv x) (hf : FewV (m + 1) x) (hB : Below W.heap.size W w) (h0 : 0 ≤ deep) (h1 : deep + n + 1 ≤ 1000000) :
    Calls Tryz.prog 87 #[.agg #[.int .i64 no, .int .i64 kind, .int .u64 (a : Int), .int .u64 (b : Int), .slice C sub.length c3], .agg #[nv, dv, pv], .int .i64 deep] w fun e w' => e = .returned (fl (partOf Lib.validD n (.mk no kind a b sub) x deep)) ∧ Below w.heap.size w w' := by
  by_cases h8 : kind = 8
  · subst h8
    obtain ⟨h2, h3⟩ := hs rfl
    exact part8 n k m no a b sub C c3 x deep W w IH h2 h3 nv dv pv hx hf hB h0 h1
  · by_cases h9 : kind = 9
    · subst h9
      obtain ⟨h2, h3⟩ := hs rfl
      exact part9 n k m no a b sub C c3 x deep W w IH hb h2 h3 nv dv pv hx hf hB h0 h1
    · exact partP n m no a b sub C c3 x deep W w kind hb h8 h9 nv dv pv hx hf hB
/-- The two boxes of check. -/
def By2 (w : World) (num : Nat) (Ad : Option Addr) (dl cd : Nat) (Ap : Option Addr) (pl cp : Nat) (W : World) : Prop :=
  Below w.heap.size w W ∧ w.heap.size + 2 ≤ W.heap.size ∧ hp W w.heap.size = some (.cells #[.int .u64 (num : Int), .slice Ad dl cd, .slice Ap pl cp] 32 (0, 0)) ∧ hp W (w.heap.size + 1) = some (.cells #[.int .i64 0, .int .i64 0, .int .i64 0] 39 (0, 0))
theorem By2.below {w : World} {num : Nat} {Ad : Option Addr} {dl cd : Nat} {Ap : Option Addr} {pl cp : Nat} {W W' : World} (h : By2 w num Ad dl cd Ap pl cp W) (hb : Below W.heap.size W W') : By2 w num Ad dl cd Ap pl cp W' :=
  ⟨h.1.trans (hb.mono h.1.size), Nat.le_trans h.2.1 hb.size, below_hp h.2.2.1 hb, below_hp h.2.2.2 hb⟩
theorem by2_new (w : World) (num : Nat) (Ad : Option Addr) (dl cd : Nat) (Ap : Option Addr) (pl cp : Nat) :
    By2 w num Ad dl cd Ap pl cp ((w.alloc (.cells #[.int .u64 (num : Int), .slice Ad dl cd, .slice Ap pl cp] 32)).alloc (.cells #[.int .i64 0, .int .i64 0, .int .i64 0] 39)) := by
  have h : ∀ {w' : World} (o : Obj), Below w.heap.size w w' → Below w.heap.size w (w'.alloc o) := fun o hb => hb.alloc hb.size _
  exact ⟨h _ (h _ (Below.refl _ _)), by simp, (hp_alloc_past _ _ (by simp)).trans (hp_alloc_at _ _ rfl), hp_alloc_at _ _ (by simp)⟩
set_option maxHeartbeats 2000000 in
set_option maxRecDepth 100000 in
theorem check (n : Nat) (IH : RChk n) : RChk (n + 1) := by
  intro k m sv nv dv pv l x deep W w hs hok hx hf hB h0 h1
  rw [chk_succ]
  obtain ⟨C, c, rfl, hlc, hcm⟩ := hs.slice
  clear hlc hcm
  obtain ⟨hnum, rfl, hdv, hpv⟩ := hx
  obtain ⟨Ad, cd, rfl, -⟩ := id hdv
  obtain ⟨Ap, cp, rfl, -⟩ := hpv.slice
  obtain ⟨m, rfl⟩ := hpv.pos
  obtain ⟨k, rfl⟩ : ∃ j, k = j + 1 := by cases k with
    | zero => exact hok.elim
    | succ k => exact ⟨k, rfl⟩
  obtain ⟨h16, hall⟩ := hok
  obtain ⟨hf1, hf2, hf3⟩ := hf
  obtain ⟨⟨r1, r2, r3⟩, hR⟩ : ∃ R : Flt, R = (if x.num ≠ 0 ∨ x.data.length ≠ 0 then (deep, 0, 84) else if x.parts.length ≠ l.length then (deep, 0, 81) else chkGo (fun t x => partOf Lib.validD n t x deep) l x.parts) := ⟨_, rfl⟩
  rw [← hR]
  have HR := Lib.hid hR; clear hR
  have hbx := by2_new w x.num Ad x.data.length cd Ap x.parts.length cp
  obtain ⟨w2, hw2⟩ : ∃ y, y = (w.alloc (.cells #[.int .u64 (x.num : Int), .slice Ad x.data.length cd, .slice Ap x.parts.length cp] 32)).alloc (.cells #[.int .i64 0, .int .i64 0, .int .i64 0] 39) := ⟨_, rfl⟩
  rw [← hw2] at hbx
  have hxc := fun i => hp_cell hbx.2.2.1 i
  have hzc := fun i => hp_cell hbx.2.2.2 i
  have hzf := fun i => hp_frozen hbx.2.2.2 i
  have HBX := Lib.hid hbx; have HIH := Lib.hid IH; have HS := Lib.hid hs; have HA := Lib.hid hall; have HF := Lib.hid hf3; have HPV := Lib.hid hpv; have HB := Lib.hid hB; have HD := Lib.hid (And.intro h0 h1)
  clear hbx IH hs hall hf3 hpv hB hdv h0 h1 hf1
  go_enter Tryz.func61, Tryz.ntmps61
  go_upto_region 1 with fail
  rw [← hw2]
  clear hw2
  by_cases g1 : x.num ≠ 0 ∨ x.data.length ≠ 0
  · have h := HR.out
    rw [if_pos g1] at h
    simp only [Prod.mk.injEq] at h
    obtain ⟨rfl, rfl, rfl⟩ := h
    clear HR HIH HS HA HF HPV
    by_cases g2 : x.num = 0
    · have g3 : (0 : Int) < (x.data.length : Int) := by omega
      have g2z : ((x.num : Int) != 0) = false := by simp; omega
      clear g1 g2
      go_wp2_with fail
      exact ret_row Tryz.results61 Tryz.underlying39 rfl (by kernel_rfl) rfl (hp_set3 HBX.out.2.2.2 (_, _, _)) rfl ⟨rfl, below_set3 HBX.out.1 (by omega) (_, _, _)⟩
    · have g2z : ((x.num : Int) != 0) = true := by simp; omega
      clear g1 g2
      go_wp2_with fail
      exact ret_row Tryz.results61 Tryz.underlying39 rfl (by kernel_rfl) rfl (hp_set3 HBX.out.2.2.2 (_, _, _)) rfl ⟨rfl, below_set3 HBX.out.1 (by omega) (_, _, _)⟩
  · have h := HR.out
    rw [if_neg g1] at h
    have g2z : ((x.num : Int) != 0) = false := by simp; omega
    have g3 : ¬ (0 : Int) < (x.data.length : Int) := by omega
    clear g1
    by_cases g4 : x.parts.length ≠ l.length
    · rw [if_pos g4] at h
      simp only [Prod.mk.injEq] at h
      obtain ⟨rfl, rfl, rfl⟩ := h
      have g4z : ((x.parts.length : Int) != (l.length : Int)) = true := by simp; omega
      clear g4 HR HIH HS HA HF HPV
      go_wp2_with fail
      exact ret_row Tryz.results61 Tryz.underlying39 rfl (by kernel_rfl) rfl (hp_set3 HBX.out.2.2.2 (_, _, _)) rfl ⟨rfl, below_set3 HBX.out.1 (by omega) (_, _, _)⟩
    · rw [if_neg g4] at h
      have g4z : ((x.parts.length : Int) != (l.length : Int)) = false := by simp; omega
      have hpl : x.parts.length = l.length := by omega
      have HPL := Lib.hid hpl
      have HI := Lib.hid h.symm
      clear g4 h HR hpl
      go_wp2_with fail
      clear hxc hzc hzf g3 g2z g4z
      go_loopw [7] (fun s wr => ∃ (i : Nat), i ≤ l.length ∧ s = .int .i64 i ∧ chkGo (fun t x => partOf Lib.validD n t x deep) (l.drop i) (x.parts.drop i) = (r1, r2, r3) ∧ Below w2.heap.size w2 wr) (fun s _ => l.length - (intOf s).toNat)
      case atStart => exact ⟨0, by omega, rfl, HI.out, Below.refl _ _⟩
      case round =>
        obtain ⟨i, hi, rfl, hit, hbw⟩ := hrel
        have BW := HBX.out.below hbw
        have hz := BW.2.2.2
        have hzc := fun i => hp_cell hz i
        have hzf := fun i => hp_frozen hz i
        have hxc := fun i => hp_cell BW.2.2.1 i
        have HBW := Lib.hid BW; have HIT := Lib.hid hit; have HW4 := Lib.hid hbw; have HZ := Lib.hid hz
        clear BW hit hbw hz
        by_cases hin : i < l.length
        · have hin2 : i < x.parts.length := by have := HPL.out; omega
          have hbr : Below W.heap.size W wr := HB.out.trans (HBW.out.1.mono HB.out.size)
          obtain ⟨ad1, rfl, hwf, sv, hsl, hrd⟩ := HS.out.at_ i hin
          obtain ⟨ad, rfl, dv2, pv2, g1, g2, g3, g4⟩ := HPV.out.at_ i hin2
          have K : ∀ a u, W.cell? a = some u → wr.cell? a = some u := fun a u hu => (World.cell?_of_block (hbr.block _ (World.block_lt_of_cell? W _ hu))).trans hu
          replace g1 := K _ _ g1; replace g2 := K _ _ g2; replace g3 := K _ _ g3
          replace hsl := hsl.keep (hbr.block _ hsl.lt)
          have hst := chkGo_drop (fun t x => partOf Lib.validD n t x deep) l x.parts i hin2 hin
          rw [HIT.out] at hst
          have hti := HA.out l[i] (List.getElem_mem hin)
          have hft := HF.out x.parts[i] (List.getElem_mem hin2)
          generalize x.parts[i] = z at *
          generalize l[i] = t at *
          obtain ⟨no, kind, least, most, sub⟩ := t
          obtain ⟨i1, i2, i3, i4, i5⟩ := hti
          obtain ⟨c0, c1, c2, c3, c4⟩ := hsl
          simp only [Slot.no, Slot.kind, Slot.least, Slot.most, Slot.sub] at c0 c1 c2 c3 c4 hrd i1 i2 i4 i5
          obtain ⟨C2, cc2, rfl, -⟩ := hrd.slice
          obtain ⟨hz1, -, hz3, hz4⟩ := id g4
          obtain ⟨Ad2, cd2, rfl, -⟩ := hz3
          obtain ⟨Ap2, cp2, rfl, -⟩ := hz4.slice
          have hcw := fun w3 (h : Below wr.heap.size wr w3) => partAll n HIH.out k m no kind least most sub C2 cc2 _ _ _ z deep W w3 i3 (fun hn => ⟨hrd, i4 hn⟩) g4 hft (hbr.trans (h.mono hbr.size)) HD.out.1 (by have := HD.out.2; omega)
          obtain ⟨⟨q1, q2, q3⟩, hq⟩ : ∃ F : Flt, F = partOf Lib.validD n (.mk no kind least most sub) z deep := ⟨_, rfl⟩
          simp only [← hq] at hst hcw
          obtain ⟨q, hpz⟩ : ∃ q, ad.add (i * 3) = q := ⟨_, rfl⟩
          rw [add_lit _ _ _ (by omega)] at g2 g3
          rw [hpz] at g1 g2 g3
          obtain ⟨p, hpp⟩ : ∃ p, ad1.add (i * 5) = p := ⟨_, rfl⟩
          rw [hpp] at c0 c1 c2 c3 c4
          have HCW := Lib.hid hcw; have HST := Lib.hid hst
          unfold fl at HCW
          have hws := HBW.out.2.1
          have hqb : q.block < wr.heap.size := World.block_lt_of_cell? wr _ g1
          have hpb : p.block < wr.heap.size := World.block_lt_of_cell? wr _ c0
          clear hcw hst g4 hz1 hz4 hbr K hq hrd i1 i2 i3 i4 i5 hwf hft
          have n1 : ¬ q.block = wr.heap.size := by omega
          have n2 : ¬ wr.heap.size = q.block := by omega
          have n3 : ¬ w.heap.size = wr.heap.size := by omega
          have n4 : ¬ wr.heap.size = w.heap.size := by omega
          have n5 : ¬ p.block = wr.heap.size := by omega
          have n6 : ¬ wr.heap.size = p.block := by omega
          have n8 : w.heap.size < wr.heap.size := by omega
          have e5 : ∀ i, ((wr.alloc (.cells #[.int .i64 0, .int .i64 0, .int .i64 0] 39))).cell? ⟨w.heap.size, i, none⟩ = (#[.int .u64 (x.num : Int), .slice Ad x.data.length cd, .slice (some ad) x.parts.length cp] : Array Value)[i]? := fun i => by rw [World.cell?_alloc_lt _ _ _ (by simpa using n8)]; exact hxc i
          go_upto_region 8 with fail
          go_cut [8] from 28 to 48 (fun p wx => ∃ g, p = .pointer (some ⟨g, 0, none⟩) ∧ hp wx g = some (.cells #[.int .i64 q1, .int .i64 q2, .int .i64 q3] 39 (0, 0)) ∧ Below wr.heap.size wr wx ∧ wr.heap.size ≤ g)
          case first =>
            go_region_with (go_at_call 87; refine (HCW.out _ (by first | exact (Below.refl _ _).drew | exact ((Below.refl _ _).alloc (by simp) _).drew)).mono ?_; rintro _ w6 ⟨rfl, b6⟩; (first | (have hza := (b6.hp wr.heap.size (by simp)).trans (hp_alloc_at _ _ rfl); have hzac := fun i => hp_cell hza i; have hzaf := fun i => hp_frozen hza i; have HZA := Lib.hid hza; clear hza; have HB6 := Lib.hid (show Below wr.heap.size wr w6 from (((Below.refl _ _).alloc (Nat.le_refl _) _).drew).trans (b6.mono (by simp)))) | (have HB6 := Lib.hid (show Below wr.heap.size wr w6 from (Below.refl _ _).drew.trans (b6.mono (by simp))))); clear b6)
            all_goals
              go_wp2_with fail
              go_meet
              first | exact ⟨_, rfl, hp_set3 HZA.out (q1, q2, q3), below_set3 HB6.out (Nat.le_refl _) (q1, q2, q3), Nat.le_refl _⟩ | exact ⟨_, rfl, hp_alloc_at _ _ rfl, HB6.out.alloc HB6.out.size _, HB6.out.size⟩
          case rest =>
            obtain ⟨g, rfl, hg, hb6, hge⟩ := hcut
            have hgc := fun i => hp_cell hg i
            have B6 := HBW.out.below hb6
            have hz := B6.2.2.2
            have hzc := fun i => hp_cell hz i
            have hzf := fun i => hp_frozen hz i
            have HB6 := Lib.hid B6; have HZ6 := Lib.hid hz; have HW6 := Lib.hid (HW4.out.trans (hb6.mono HW4.out.size))
            clear hb6 B6 hz HZ g1 g2 g3 hxc e5 hg c0 c1 c2 c3 c4
            by_cases hq3 : q3 = 0
            · subst hq3
              have hnx := HST.out
              rw [if_neg (by decide)] at hnx
              have HNX := Lib.hid hnx.symm
              clear hnx HST HIT
              go_wp2_with fail
              go_roundw
              case rel => exact ⟨i + 1, by omega, by go_num, HNX.out, HW6.out⟩
              case measure => simp [intOf]; omega
            · have hnx := HST.out
              rw [if_pos hq3] at hnx
              have hqz : (q3 != 0) = true := by simpa using hq3
              clear hq3 HST HIT HI
              simp only [Prod.mk.injEq] at hnx
              obtain ⟨rfl, rfl, rfl⟩ := hnx
              go_wp2_with fail
              exact ret_row Tryz.results61 Tryz.underlying39 rfl (by kernel_rfl) rfl (hp_set3 HZ6.out (_, _, _)) rfl ⟨rfl, below_set3 HB6.out.1 (by omega) (_, _, _)⟩
        · obtain rfl : i = l.length := by omega
          have hfin := HIT.out
          rw [List.drop_length] at hfin
          have hfin2 : (0, 0, 0) = ((r1, r2, r3) : Flt) := hfin
          simp only [Prod.mk.injEq] at hfin2
          obtain ⟨rfl, rfl, rfl⟩ := hfin2
          clear hfin HIT HI
          go_wp2_with fail
          exact ret_row Tryz.results61 Tryz.underlying39 rfl (by kernel_rfl) rfl (hp_set3 HZ.out (0, 0, 0)) rfl ⟨rfl, below_set3 HBW.out.1 (by omega) (0, 0, 0)⟩
theorem checkAll : ∀ n, RChk n := by
  intro n
  induction n with
  | zero => exact fun k m sv nv dv pv l x deep W w h => h.elim
  | succ n ih => exact check n ih
end Go.Proofs.YtinngljphjdpoaaGreatDoor.Rt
