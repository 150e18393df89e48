/- The reference: part. -/
import Derived.Test.YtpfckpaokoifhaaGreatDoorJRq
import Derived.Test.YtpfckpaokoifhaaGreatDoorJHw
import Derived.Deep.DeepCutAuto
namespace Go.Proofs.YtpfckpaokoifhaaGreatDoor.Rr
open Go Go.RowKit Go.Proofs.YtpfckpaokoifhaaGreatDoor.Pa Go.Proofs.YtpfckpaokoifhaaGreatDoor.Pb Go.Proofs.YtpfckpaokoifhaaGreatDoor.Pf Go.Proofs.YtpfckpaokoifhaaGreatDoor.Pq Go.Proofs.YtpfckpaokoifhaaGreatDoor.Sc Go.Proofs.YtpfckpaokoifhaaGreatDoor.Rs Go.Proofs.YtpfckpaokoifhaaGreatDoor.Vu Go.Proofs.YtpfckpaokoifhaaGreatDoor.Vo Go.Proofs.YtpfckpaokoifhaaGreatDoor.Rp Go.Proofs.YtpfckpaokoifhaaGreatDoor.Rq Go.Proofs.YtpfckpaokoifhaaGreatDoor.Hx
set_option linter.unusedVariables false
set_option linter.unusedSimpArgs false
theorem retf {f g : Flt} (h : f = g) : Ending.returned (.agg #[.int .i64 f.1, .int .i64 f.2.1, .int .i64 f.2.2]) = .returned (fl g) := by rw [h]; rfl
/-- The three boxes of part. -/
def Bx (w : World) (no kind : Int) (a b : Nat) (C : Option Addr) (m c3 : Nat) (num : Nat) (Ad : Option Addr) (dl cd : Nat) (Ap : Option Addr) (pl cp : Nat) (W : World) : Prop :=
  Below w.heap.size w W ∧ w.heap.size + 3 ≤ W.heap.size ∧ hp W w.heap.size = some (.cells #[.int .i64 no, .int .i64 kind, .int .u64 (a : Int), .int .u64 (b : Int), .slice C m c3] 70 (0, 0)) ∧
  hp W (w.heap.size + 1) = some (.cells #[.int .u64 (num : Int), .slice Ad dl cd, .slice Ap pl cp] 27 (0, 0)) ∧ hp W (w.heap.size + 2) = some (.cells #[.int .i64 0, .int .i64 0, .int .i64 0] 41 (0, 0))
theorem Bx.below {w : World} {no kind : Int} {a b : Nat} {C : Option Addr} {m c3 : Nat} {num : Nat} {Ad : Option Addr} {dl cd : Nat} {Ap : Option Addr} {pl cp : Nat} {W W' : World} (h : Bx w no kind a b C m c3 num Ad dl cd Ap pl cp W) (hb : Below W.heap.size W W') : Bx w no kind a b C m c3 num Ad dl cd Ap pl cp W' :=
  ⟨h.1.trans (hb.mono h.1.size), Nat.le_trans h.2.1 hb.size, below_hp h.2.2.1 hb, below_hp h.2.2.2.1 hb, below_hp h.2.2.2.2 hb⟩
theorem bx_new (w : World) (no kind : Int) (a b : Nat) (C : Option Addr) (m c3 : Nat) (num : Nat) (Ad : Option Addr) (dl cd : Nat) (Ap : Option Addr) (pl cp : Nat) :
    Bx w no kind a b C m c3 num Ad dl cd Ap pl cp (((w.alloc (.cells #[.int .i64 no, .int .i64 kind, .int .u64 (a : Int), .int .u64 (b : Int), .slice C m c3] 70)).alloc (.cells #[.int .u64 (num : Int), .slice Ad dl cd, .slice Ap pl cp] 27)).alloc (.cells #[.int .i64 0, .int .i64 0, .int .i64 0] 41)) := by
  have h : ∀ {w' : World} (o : Obj), Below w.heap.size w w' → Below w.heap.size w (w'.alloc o) := fun o hb => hb.alloc hb.size _
  exact ⟨h _ (h _ (h _ (Below.refl _ _))), by simp, (hp_alloc_past _ _ (by simp; omega)).trans ((hp_alloc_past _ _ (by simp)).trans (hp_alloc_at _ _ rfl)), (hp_alloc_past _ _ (by simp)).trans (hp_alloc_at _ _ (by simp)), hp_alloc_at _ _ (by simp)⟩
section
variable (n : Nat) (k m : Nat) (no : Int) (a b : Nat) (sub : List Slot) (C : Option Addr) (c3 : Nat) (x : Va) (deep : Int) (W w : World)
set_option maxHeartbeats 1000000 in
set_option maxRecDepth 100000 in
/-- part of a message's slot. -/
theorem part8 (IH : RChk n) (hs : RdS W n (.slice C sub.length c3) sub) (hok : okL k sub) (nv dv pv : Value) (hx : RdV W m nv dv pv x) (hf : FewV (m + 1) x) (hB : Below W.heap.size W w) (h0 : 0 ≤ deep) (h1 : deep + n + 1 ≤ 1000000) :
    Calls Tryz.prog 37 #[.agg #[.int .i64 no, .int .i64 8, .int .u64 (a : Int), .int .u64 (b : Int), .slice C sub.length c3], .agg #[nv, dv, pv], .int .i64 deep] w fun e w' => e = .returned (fl (partOf Lib.validD n (.mk no 8 a b sub) x deep)) ∧ Below w.heap.size w w' := by
  have hcall := fun w3 (hb : Below w.heap.size w w3) => IH k m _ nv dv pv sub x (deep + 1) W w3 hs hok hx hf (hB.trans (hb.mono hB.size)) (by omega) (by omega)
  rw [show partOf Lib.validD n (.mk no 8 a b sub) x deep = chk Vh.pF Lib.validD n sub x (deep + 1) from by simp [partOf, Slot.kind, Slot.sub]]
  obtain ⟨F, hF⟩ : ∃ F, F = chk Vh.pF Lib.validD n sub x (deep + 1) := ⟨_, rfl⟩
  rw [← hF] at hcall ⊢
  obtain ⟨hnum, rfl, hdv, hpv⟩ := hx
  obtain ⟨Ad, cd, rfl, -⟩ := hdv
  obtain ⟨Ap, cp, rfl, -⟩ := hpv.slice
  obtain ⟨f1, f2, f3⟩ := F
  unfold fl at *
  have HC := Lib.hid hcall
  have hbx := bx_new w no 8 a b C sub.length c3 x.num Ad x.data.length cd Ap x.parts.length cp
  have HBX := Lib.hid hbx
  have HD := Lib.hid (show 0 ≤ deep ∧ deep ≤ 1000000 by omega)
  clear hcall hpv hs hok hF hB IH hbx hf
  have hwr : wrap64 (deep + 1) = deep + 1 := w64 (by omega) (by omega)
  clear h1
  go_enter Tryz.func37, Tryz.ntmps37
  go_wp2_with (go_at_call 9999)
  go_at_call 25
  refine (HC.out _ HBX.out.1).mono ?_
  rintro _ w4 ⟨rfl, b4⟩
  have B4 := HBX.out.below b4
  have hz := B4.2.2.2.2
  have hzc := fun i => hp_cell hz i
  have hzf := fun i => hp_frozen hz i
  have HB4 := Lib.hid B4; have HZ := Lib.hid hz
  clear b4 B4 hz
  go_wp2_with fail
  exact ret_row Tryz.results37 Tryz.underlying41 rfl (by kernel_rfl) rfl (hp_set3 HZ.out (f1, f2, f3)) rfl ⟨rfl, below_set3 HB4.out.1 (by omega) (f1, f2, f3)⟩
set_option maxHeartbeats 1000000 in
set_option maxRecDepth 100000 in
/-- part of every slot but a message's and a list's. -/
theorem partP (kind : Int) (hb : bnd (.mk no kind a b sub) = true) (h8 : kind ≠ 8) (h9 : kind ≠ 9) (nv dv pv : Value) (hx : RdV W m nv dv pv x) (hf : FewV (m + 1) x) (hB : Below W.heap.size W w) :
    Calls Tryz.prog 37 #[.agg #[.int .i64 no, .int .i64 kind, .int .u64 (a : Int), .int .u64 (b : Int), .slice C sub.length c3], .agg #[nv, dv, pv], .int .i64 deep] w fun e w' => e = .returned (fl (partOf Lib.validD n (.mk no kind a b sub) x deep)) ∧ Below w.heap.size w w' := by
  obtain ⟨hnum, rfl, hdv, hpv⟩ := hx
  obtain ⟨Ad, cd, rfl, -⟩ := id hdv
  obtain ⟨Ap, cp, rfl, -⟩ := hpv.slice
  have hcall := fun w3 (h : Below w.heap.size w w3) => rplain no kind a b sub C Ad Ap sub.length cd cp c3 x w3 hb h8 hnum hf.2.1 hf.1 (rd_keep (hB.trans (h.mono hB.size)).block hdv)
  obtain ⟨e, he⟩ : ∃ e, e = plainOf Lib.validD (.mk no kind a b sub) x := ⟨_, rfl⟩
  rw [← he] at hcall
  have hP : partOf Lib.validD n (.mk no kind a b sub) x deep = if e ≠ 0 then (deep, no, e) else (0, 0, 0) := by
    simp [partOf, Slot.kind, Slot.no, h8, h9, ← he]
  rw [hP]
  obtain ⟨⟨r1, r2, r3⟩, hR⟩ : ∃ R : Flt, R = if e ≠ 0 then (deep, no, e) else (0, 0, 0) := ⟨_, rfl⟩
  rw [← hR]
  have HR := Lib.hid hR; clear hR
  have HC := Lib.hid hcall
  have hbx := bx_new w no kind a b C sub.length c3 x.num Ad x.data.length cd Ap x.parts.length cp
  have HBX := Lib.hid hbx
  have k8 : (kind == 8) = false := by simpa using h8
  have k9 : (kind == 9) = false := by simpa using h9
  clear hcall hpv hB hbx hf hdv hb he hP h8 h9
  go_enter Tryz.func37, Tryz.ntmps37
  go_wp2_with (go_at_call 9999)
  go_at_call 50
  refine (HC.out _ HBX.out.1).mono ?_
  rintro _ w4 ⟨rfl, b4⟩
  have B4 := HBX.out.below b4
  have hz := B4.2.2.2.2
  have hzc := fun i => hp_cell hz i
  have hzf := fun i => hp_frozen hz i
  have hsc := fun i => hp_cell B4.2.2.1 i
  have HB4 := Lib.hid B4; have HZ := Lib.hid hz
  clear b4 B4 hz
  by_cases he : e = 0
  · subst he
    have h := HR.out
    rw [if_neg (by decide)] at h
    simp only [Prod.mk.injEq] at h
    obtain ⟨rfl, rfl, rfl⟩ := h
    go_wp2_with fail
    exact ret_row Tryz.results37 Tryz.underlying41 rfl (by kernel_rfl) rfl (hp_set3 HZ.out (0, 0, 0)) rfl ⟨rfl, below_set3 HB4.out.1 (by omega) (0, 0, 0)⟩
  · have h := HR.out
    rw [if_pos he] at h
    have hez : (e != 0) = true := by simpa using he
    clear he HR
    simp only [Prod.mk.injEq] at h
    obtain ⟨rfl, rfl, rfl⟩ := h
    go_wp2_with fail
    exact ret_row Tryz.results37 Tryz.underlying41 rfl (by kernel_rfl) rfl (hp_set3 HZ.out (_, _, _)) rfl ⟨rfl, below_set3 HB4.out.1 (by omega) (_, _, _)⟩
set_option maxHeartbeats 2000000 in
set_option maxRecDepth 100000 in
/-- part of a list's slot. -/
theorem part9 (IH : RChk n) (hb : bnd (.mk no 9 a b sub) = true) (hs : RdS W n (.slice C sub.length c3) sub) (hok : okL k sub) (nv dv pv : Value) (hx : RdV W m nv dv pv x) (hf : FewV (m + 1) x) (hB : Below W.heap.size W w) (h0 : 0 ≤ deep) (h1 : deep + n + 1 ≤ 1000000) :
    Calls Tryz.prog 37 #[.agg #[.int .i64 no, .int .i64 9, .int .u64 (a : Int), .int .u64 (b : Int), .slice C sub.length c3], .agg #[nv, dv, pv], .int .i64 deep] w fun e w' => e = .returned (fl (partOf Lib.validD n (.mk no 9 a b sub) x deep)) ∧ Below w.heap.size w w' := by
  obtain ⟨hnum, rfl, hdv, hpv⟩ := hx
  obtain ⟨Ad, cd, rfl, -⟩ := id hdv
  obtain ⟨Ap, cp, rfl, -⟩ := hpv.slice
  obtain ⟨m, rfl⟩ := hpv.pos
  have hcall := fun w3 (h : Below w.heap.size w w3) => rplain no 9 a b sub C Ad Ap sub.length cd cp c3 x w3 hb (by decide) hnum hf.2.1 hf.1 (rd_keep (hB.trans (h.mono hB.size)).block hdv)
  obtain ⟨e, he⟩ : ∃ e, e = plainOf Lib.validD (.mk no 9 a b sub) x := ⟨_, rfl⟩
  rw [← he] at hcall
  have hP : partOf Lib.validD n (.mk no 9 a b sub) x deep = if e ≠ 0 then (deep, no, e) else itemsGo (fun y => chk Vh.pF Lib.validD n sub y (deep + 1)) x.parts := by
    simp [partOf, Slot.kind, Slot.no, Slot.sub, ← he]
  rw [hP]
  obtain ⟨⟨r1, r2, r3⟩, hR⟩ : ∃ R : Flt, R = if e ≠ 0 then (deep, no, e) else itemsGo (fun y => chk Vh.pF Lib.validD n sub y (deep + 1)) x.parts := ⟨_, rfl⟩
  rw [← hR]
  have HR := Lib.hid hR; clear hR
  have hck := fun (i : Nat) (hi : i < x.parts.length) (nv2 dv2 pv2 : Value) (mm : Nat) (hxx : RdV W mm nv2 dv2 pv2 x.parts[i]) (hff : FewV (mm + 1) x.parts[i]) w3 (h : Below w.heap.size w w3) => IH k mm _ nv2 dv2 pv2 sub x.parts[i] (deep + 1) W w3 hs hok hxx hff (hB.trans (h.mono hB.size)) (by omega) (by omega)
  have HCK := Lib.hid hck
  have hwr : wrap64 (deep + 1) = deep + 1 := w64 (by omega) (by omega)
  have hwr2 : IntKind.i64.wrap (deep + 1) = deep + 1 := by rw [IntKind.wrap_i64]; omega
  have HC := Lib.hid hcall
  have hbx := bx_new w no 9 a b C sub.length c3 x.num Ad x.data.length cd Ap x.parts.length cp
  have HBX := Lib.hid hbx
  have hpl : x.parts.length ≤ 10000 := hf.2.1
  have HF := Lib.hid hf.2.2
  have HPV := Lib.hid hpv; have HB := Lib.hid hB
  clear hcall hpv hB hbx hf hdv hb he hP hck hs hok IH h0 h1
  go_enter Tryz.func37, Tryz.ntmps37
  go_wp2_with (go_at_call 9999)
  go_at_call 50
  refine (HC.out _ HBX.out.1).mono ?_
  rintro _ w4 ⟨rfl, b4⟩
  have B4 := HBX.out.below b4
  have hz := B4.2.2.2.2
  have hzc := fun i => hp_cell hz i
  have hzf := fun i => hp_frozen hz i
  have hsc := fun i => hp_cell B4.2.2.1 i
  have hxc := fun i => hp_cell B4.2.2.2.1 i
  have HB4 := Lib.hid B4; have HZ := Lib.hid hz
  clear b4 B4 hz HC HBX
  by_cases he : e = 0
  · subst he
    have h := HR.out
    rw [if_neg (by decide)] at h
    have HI := Lib.hid h.symm
    clear HR h
    go_wp2_with fail
    clear hzc hzf hsc hxc
    go_loopw [8] (fun s wr => ∃ (i : Nat), i ≤ x.parts.length ∧ s = .int .i64 i ∧ itemsGo (fun y => chk Vh.pF Lib.validD n sub y (deep + 1)) (x.parts.drop i) = (r1, r2, r3) ∧ Below w4.heap.size w4 wr) (fun s _ => x.parts.length - (intOf s).toNat)
    case atStart => exact ⟨0, by omega, rfl, HI.out, Below.refl _ _⟩
    case round =>
      obtain ⟨i, hi, rfl, hit, hbw⟩ := hrel
      have BW := HB4.out.below hbw
      have hz := BW.2.2.2.2
      have hzc := fun i => hp_cell hz i
      have hzf := fun i => hp_frozen hz i
      have hsc := fun i => hp_cell BW.2.2.1 i
      have hxc := fun i => hp_cell BW.2.2.2.1 i
      have HBW := Lib.hid BW; have HIT := Lib.hid hit; have HW4 := Lib.hid hbw; have HZ := Lib.hid hz
      clear BW hit hbw hz
      by_cases hin : i < x.parts.length
      · have hbr : Below W.heap.size W wr := HB.out.trans (HBW.out.1.mono HB.out.size)
        obtain ⟨ad, rfl, dv2, pv2, g1, g2, g3, g4⟩ := HPV.out.at_ i hin
        have hca := HCK.out i hin _ dv2 pv2 m g4 (HF.out _ (List.getElem_mem hin))
        have k : ∀ a u, W.cell? a = some u → wr.cell? a = some u := fun a u hu => (World.cell?_of_block (hbr.block _ (World.block_lt_of_cell? W _ hu))).trans hu
        replace g1 := k _ _ g1; replace g2 := k _ _ g2; replace g3 := k _ _ g3
        have hst := itemsGo_drop (fun y => chk Vh.pF Lib.validD n sub y (deep + 1)) x.parts i hin
        rw [HIT.out] at hst
        generalize x.parts[i] = z at *
        obtain ⟨⟨q1, q2, q3⟩, hq⟩ : ∃ F : Flt, F = chk Vh.pF Lib.validD n sub z (deep + 1) := ⟨_, rfl⟩
        simp only [← hq] at hst hca
        obtain ⟨q, hpz⟩ : ∃ q, ad.add (i * 3) = q := ⟨_, rfl⟩
        rw [add_lit _ _ _ (by omega)] at g2 g3
        rw [hpz] at g1 g2 g3
        obtain ⟨hz1, -, hz3, hz4⟩ := id g4
        obtain ⟨Ad2, cd2, rfl, -⟩ := hz3
        obtain ⟨Ap2, cp2, rfl, -⟩ := hz4.slice
        have hcw := fun w3 (h : Below wr.heap.size wr w3) => hca w3 (HBW.out.1.trans (h.mono HBW.out.1.size))
        have HCW := Lib.hid hcw; have HST := Lib.hid hst
        have hws := HBW.out.2.1
        clear hcw hst hca g4 hz1 hz4 hbr k hq
        unfold fl at HCW
        have hqb : q.block < wr.heap.size := World.block_lt_of_cell? wr _ g1
        have n1 : ¬ q.block = wr.heap.size := by omega
        have n2 : ¬ wr.heap.size = q.block := by omega
        have n3 : ¬ w.heap.size = wr.heap.size := by omega
        have n4 : ¬ wr.heap.size = w.heap.size := by omega
        have n5 : ¬ w.heap.size + 1 = wr.heap.size := by omega
        have n6 : ¬ wr.heap.size = w.heap.size + 1 := by omega
        have n7 : w.heap.size + 1 < wr.heap.size := by omega
        have n8 : w.heap.size < wr.heap.size := by omega
        have e5 : ∀ i, ((wr.alloc (.cells #[.int .i64 0, .int .i64 0, .int .i64 0] 41))).cell? ⟨w.heap.size + 1, i, none⟩ = (#[.int .u64 (x.num : Int), .slice Ad x.data.length cd, .slice (some ad) x.parts.length cp] : Array Value)[i]? := fun i => by rw [World.cell?_alloc_lt _ _ _ (by simpa using n7)]; exact hxc i
        go_upto_region 10 with fail
        go_cut [9] from 32 to 52 (fun p wx => ∃ g, p = .pointer (some ⟨g, 0, none⟩) ∧ hp wx g = some (.cells #[.int .i64 q1, .int .i64 q2, .int .i64 q3] 41 (0, 0)) ∧ Below wr.heap.size wr wx ∧ wr.heap.size ≤ g)
        case first =>
          go_region_with (go_at_call 25; (try rw [hwr2]); refine (HCW.out _ (by first | exact (Below.refl _ _).drew | exact ((Below.refl _ _).alloc (by simp) _).drew)).mono ?_; rintro _ w6 ⟨rfl, b6⟩; (first | (have hza := (b6.hp wr.heap.size (by simp)).trans (hp_alloc_at _ _ rfl); have hzac := fun i => hp_cell hza i; have hzaf := fun i => hp_frozen hza i; have HZA := Lib.hid hza; clear hza; have HB6 := Lib.hid (show Below wr.heap.size wr w6 from (((Below.refl _ _).alloc (Nat.le_refl _) _).drew).trans (b6.mono (by simp)))) | (have HB6 := Lib.hid (show Below wr.heap.size wr w6 from (Below.refl _ _).drew.trans (b6.mono (by simp))))); clear b6)
          all_goals
            go_wp2_with fail
            go_meet
            first | exact ⟨_, rfl, hp_set3 HZA.out (q1, q2, q3), below_set3 HB6.out (Nat.le_refl _) (q1, q2, q3), Nat.le_refl _⟩ | exact ⟨_, rfl, hp_alloc_at _ _ rfl, HB6.out.alloc HB6.out.size _, HB6.out.size⟩
        case rest =>
          obtain ⟨g, rfl, hg, hb6, hge⟩ := hcut
          have hgc := fun i => hp_cell hg i
          have B6 := HBW.out.below hb6
          have hz := B6.2.2.2.2
          have hzc := fun i => hp_cell hz i
          have hzf := fun i => hp_frozen hz i
          have HB6 := Lib.hid B6; have HZ6 := Lib.hid hz; have HW6 := Lib.hid (HW4.out.trans (hb6.mono HW4.out.size))
          clear hb6 B6 hz HZ g1 g2 g3 hsc hxc e5 hg
          by_cases hq3 : q3 = 0
          · subst hq3
            have hnx := HST.out
            rw [if_neg (by decide)] at hnx
            have HNX := Lib.hid hnx.symm
            clear hnx HST HIT
            go_wp2_with fail
            go_roundw
            case rel => exact ⟨i + 1, by omega, by go_num, HNX.out, HW6.out⟩
            case measure => simp [intOf]; omega
          · have hnx := HST.out
            rw [if_pos hq3] at hnx
            have hqz : (q3 != 0) = true := by simpa using hq3
            clear hq3 HST HIT HI
            simp only [Prod.mk.injEq] at hnx
            obtain ⟨rfl, rfl, rfl⟩ := hnx
            go_wp2_with fail
            exact ret_row Tryz.results37 Tryz.underlying41 rfl (by kernel_rfl) rfl (hp_set3 HZ6.out (_, _, _)) rfl ⟨rfl, below_set3 HB6.out.1 (by omega) (_, _, _)⟩
      · obtain rfl : i = x.parts.length := by omega
        have hfin := HIT.out
        rw [List.drop_length] at hfin
        have hfin2 : (0, 0, 0) = ((r1, r2, r3) : Flt) := hfin
        simp only [Prod.mk.injEq] at hfin2
        obtain ⟨rfl, rfl, rfl⟩ := hfin2
        clear hfin HIT HI
        go_wp2_with fail
        exact ret_row Tryz.results37 Tryz.underlying41 rfl (by kernel_rfl) rfl (hp_set3 HZ.out (0, 0, 0)) rfl ⟨rfl, below_set3 HBW.out.1 (by omega) (0, 0, 0)⟩
  · have h := HR.out
    rw [if_pos he] at h
    have hez : (e != 0) = true := by simpa using he
    clear he HR HCK HF HPV
    simp only [Prod.mk.injEq] at h
    obtain ⟨rfl, rfl, rfl⟩ := h
    go_wp2_with fail
    exact ret_row Tryz.results37 Tryz.underlying41 rfl (by kernel_rfl) rfl (hp_set3 HZ.out (_, _, _)) rfl ⟨rfl, below_set3 HB4.out.1 (by omega) (_, _, _)⟩
end
end Go.Proofs.YtpfckpaokoifhaaGreatDoor.Rr
