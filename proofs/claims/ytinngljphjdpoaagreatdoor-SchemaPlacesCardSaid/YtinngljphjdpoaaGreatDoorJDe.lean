/- Codec.Encode on both sides. -/
import Derived.Test.YtinngljphjdpoaaGreatDoorJEx
import Derived.Test.YtinngljphjdpoaaGreatDoorJRa
import Derived.BigRegion
import Derived.Deep.RegionHeld3
import Derived.Test.YtinngljphjdpoaaGreatDoorJRd
namespace Go.Proofs.YtinngljphjdpoaaGreatDoor.Ey
open Go Go.RowKit Go.Proofs.YtinngljphjdpoaaGreatDoor.Pa Go.Proofs.YtinngljphjdpoaaGreatDoor.Pb Go.Proofs.YtinngljphjdpoaaGreatDoor.Pf Go.Proofs.YtinngljphjdpoaaGreatDoor.Pq Go.Proofs.YtinngljphjdpoaaGreatDoor.Sc Go.Proofs.YtinngljphjdpoaaGreatDoor.Rs Go.Proofs.YtinngljphjdpoaaGreatDoor.Hs Go.Proofs.YtinngljphjdpoaaGreatDoor.Va Go.Proofs.YtinngljphjdpoaaGreatDoor.Ca Go.Proofs.YtinngljphjdpoaaGreatDoor.Cb Go.Proofs.YtinngljphjdpoaaGreatDoor.Cm Go.Proofs.YtinngljphjdpoaaGreatDoor.Ea Go.Proofs.YtinngljphjdpoaaGreatDoor.Es Go.Proofs.YtinngljphjdpoaaGreatDoor.Ew Go.Proofs.YtinngljphjdpoaaGreatDoor.Ex Go.Proofs.YtinngljphjdpoaaGreatDoor.Hx Go.Proofs.YtinngljphjdpoaaGreatDoor.Vo
set_option linter.unusedVariables false
set_option linter.unusedSimpArgs false
/-- What the program's Encode hands back. -/
def PEnc (F : Vu.Flt) (R : List UInt8) (w : World) (e : Ending) (w' : World) : Prop :=
  (∃ v, F.2.2 ≠ 0 ∧ e = .returned (.tuple #[.slice none 0 0, v]) ∧ Vj.ErrOf F w.heap.size v w' ∧ Below w.heap.size w w') ∨
  (∃ A c, F.2.2 = 0 ∧ e = .returned (.tuple #[.slice A R.length c, .nilIface]) ∧ Pb.Own w' w.heap.size 5 (.slice A R.length c) R ∧ Below w.heap.size w w')
set_option maxHeartbeats 1000000 in
set_option maxRecDepth 100000 in
theorem pEnc (S : Pl) (g k j n : Nat) (l : List Slot) (nv dv pv : Value) (x : Vu.Va) (w : World) (hc : Cd w S n g l) (hok : okL j l) (hx : Vu.RdV w k nv dv pv x) (hf : FewV (k + 1) x) (hT : Vh.TabU w) (hn : n ≤ 999999) :
    Calls Tryz.prog 26 #[.pointer (some ⟨g, 0, none⟩), .agg #[nv, dv, pv]] w (PEnc (Vu.chk Vh.pF Lib.validD n l x 1) (encW n l x) w) := by
  have hchk := fun w2 (h : Below w.heap.size w w2) => Vj.pCheck Lib.validD Uv.utf S g k n l nv dv pv x w2 (hc.below h) (hx.below h) (hT.below h) hn
  have hwr := fun w2 (h : Below w.heap.size w w2) (hk : (Vu.chk Vh.pF Lib.validD n l x 1).2.2 = 0) => writeAll n S k j g l nv dv pv x 1 Lib.validD w w2 hc hx hf hok h hk
  obtain ⟨hnum, rfl, hdv, hpv⟩ := hx
  obtain ⟨Ad, cd, rfl, -⟩ := hdv
  obtain ⟨Ap, cp, rfl, -⟩ := hpv.slice
  obtain ⟨w2, hw2⟩ : ∃ y, y = w.alloc (.cells #[.int .u64 x.num, .slice Ad x.data.length cd, .slice Ap x.parts.length cp] 32) := ⟨_, rfl⟩
  have hb2 : Below w.heap.size w w2 := by rw [hw2]; exact vb _ _
  have hx2 : hp w2 w.heap.size = some (.cells #[.int .u64 x.num, .slice Ad x.data.length cd, .slice Ap x.parts.length cp] 32 (0, 0)) := by rw [hw2]; exact hp_alloc_at _ _ rfl
  have hxc := fun i => hp_cell hx2 i
  obtain ⟨F, hF⟩ : ∃ F, F = Vu.chk Vh.pF Lib.validD n l x 1 := ⟨_, rfl⟩
  rw [← hF] at hchk hwr ⊢
  obtain ⟨R, hR⟩ : ∃ R, R = encW n l x := ⟨_, rfl⟩
  rw [← hR] at hwr ⊢
  have HCHK := Lib.hid hchk; have HWR := Lib.hid hwr; have HB2 := Lib.hid hb2; have HX2 := Lib.hid hx2
  clear hchk hwr hb2 hx2 hc hpv hF hR hT hf
  unfold PEnc
  unfold ptr at HCHK
  go_enter Tryz.func26, Tryz.ntmps26
  go_wp2_with (go_at_call 9999)
  rw [← hw2]
  clear hw2
  go_at_call 28
  refine (HCHK.out w2 HB2.out).mono ?_
  rintro _ w3 ⟨v3, rfl, he3, b3⟩
  have hb3 := HB2.out.trans (b3.mono HB2.out.size)
  have hx3 := below_hp HX2.out b3
  have hx3c := fun i => hp_cell hx3 i
  have HB3 := Lib.hid hb3
  rcases he3 with ⟨h0, rfl⟩ | ⟨h0, b, hbb, rfl, hbc⟩
  · have WR := Lib.hid (HWR.out w3 HB3.out h0)
    have H0 := Lib.hid h0
    clear b3 hb3 hx3 h0 hxc
    go_wp2_with (go_at_call 9999)
    go_at_call 57
    refine WR.out.mono ?_
    rintro _ w4 ⟨v4, rfl, ho4, b4⟩
    obtain ⟨A4, c4, rfl⟩ := ho4.slice
    have HO4 := Lib.hid (ho4.mono (base' := w.heap.size) HB3.out.size); have HB4 := Lib.hid (HB3.out.trans (b4.mono HB3.out.size))
    clear ho4 b4
    go_wp2_with fail
    go_ret2
    exact .inr ⟨A4, c4, H0.out, rfl, HO4.out, HB4.out⟩
  · have H0 := Lib.hid h0; have HBC := Lib.hid hbc
    have hs := HB2.out.size
    clear b3 hb3 hx3 h0 hbc hxc
    unfold ptr
    go_wp2_with fail
    go_ret2
    exact .inl ⟨_, H0.out, rfl, .inr ⟨H0.out, b, by omega, rfl, HBC.out⟩, HB3.out⟩
theorem results_tmp_cell {P : Program} {fn : Func} {q p : Tmp} {ty : TypeId} (h : fn.results = #[.tmp q, .cell p ty]) (tmps : Array Value) (w : World) (g : Nat) (t : TypeId) (cs : Array Value) (fr : Nat × Nat) (d : TypeDesc)
    (hp : tmps.getD p undef = .pointer (some ⟨g, 0, none⟩)) (hg : w.heap[g]? = some (.cells cs t fr))
    (hu : P.underlying ty = some d) (hd : (match d with | .struct _ | .array _ _ => true | _ => false) = true) (hi : (P.info? ty).map (·.size) = some cs.size) :
    (results fn tmps).run P w = .ok (.tuple #[tmps.getD q undef, .agg cs]) w := by
  have hp' : tmps[p]?.getD undef = .pointer (some ⟨g, 0, none⟩) := by simpa using hp
  simp [results, h, hp', asAddr, run_loadVar_row w g t ty cs fr d hg hu hd hi]
theorem ret_two {P : Program} {fn : Func} {R : Ending → World → Prop} {a : Act} {w : World} {q p : Tmp} {ty t : TypeId} {g : Nat} {cs : Array Value} {fr : Nat × Nat} {d : TypeDesc} {v : Value} (h : fn.results = #[.tmp q, .cell p ty])
    (hu : P.underlying ty = some d) (hd : (match d with | .struct _ | .array _ _ => true | _ => false) = true) (hi : (P.info? ty).map (·.size) = some cs.size)
    (ht : a.tmps.getD p undef = .pointer (some ⟨g, 0, none⟩)) (hv : a.tmps.getD q undef = v) (hg : hp w g = some (.cells cs t fr)) (hdf : a.defers = []) (hR : R (.returned (.tuple #[v, .agg cs])) w) : bodyPost P fn R .ret a w := by
  subst hv
  exact bodyPost_ret (v := .tuple #[a.tmps.getD q undef, .agg cs]) (results_tmp_cell h a.tmps w g t cs fr d ht hg hu hd hi) hdf hR
/-- What the reference's Encode hands back. -/
def REncSaid (F : Vu.Flt) (R : List UInt8) (w : World) (e : Ending) (w' : World) : Prop :=
  ((F.2.2 ≠ 0 ∧ e = .returned (.tuple #[.slice none 0 0, .agg #[.int .i64 F.1, .int .i64 F.2.1, .int .i64 F.2.2]])) ∨
   (∃ A c, F.2.2 = 0 ∧ e = .returned (.tuple #[.slice A R.length c, .agg #[.int .i64 F.1, .int .i64 F.2.1, .int .i64 F.2.2]]) ∧ Pb.Own w' w.heap.size 5 (.slice A R.length c) R)) ∧ Below w.heap.size w w'
set_option maxHeartbeats 1000000 in
set_option maxRecDepth 100000 in
theorem rEnc {w : World} {S : Pl} {n m g : Nat} {l : List Slot} {nv dv pv : Value} {x : Vu.Va} (h : Rc w S n g l) (hok : okL 6 l) (hn : n ≤ 900000) (hx : Vu.RdV w m nv dv pv x) (hf : FewV (m + 1) x) :
    Calls Tryz.prog 27 #[.pointer (some ⟨g, 0, none⟩), .agg #[nv, dv, pv]] w (REncSaid (Vu.chk Vh.pF Lib.validD n l x 1) (encW n l x) w) := by
  have hchk := fun w2 (hb : Below w.heap.size w w2) => Ck.rCheck (w := w2) (m := m) (Rc.keep (S' := S) (fun _ h => h) (fun q _ hq => hb.block q hq) h) hok hn (hx.below hb) hf
  obtain ⟨-, sv, h2, h3⟩ := h
  have hrd := Tw.Tw.rd n sv l h3
  have henc := fun w2 (hb : Below w.heap.size w w2) (hk : (Vu.chk Vh.pF Lib.validD n l x 1).2.2 = 0) => encodeAll n m 6 sv nv dv pv l x 1 Lib.validD w w2 hrd hok hx hf hb hk
  obtain ⟨C, c, rfl, -⟩ := hrd.slice
  obtain ⟨hnum, rfl, hdv, hpv⟩ := hx
  obtain ⟨Ad, cd, rfl, -⟩ := hdv
  obtain ⟨Ap, cp, rfl, -⟩ := hpv.slice
  obtain ⟨F, hF⟩ : ∃ F, F = Vu.chk Vh.pF Lib.validD n l x 1 := ⟨_, rfl⟩
  rw [← hF] at hchk henc ⊢
  obtain ⟨R, hR⟩ : ∃ R, R = encW n l x := ⟨_, rfl⟩
  rw [← hR] at henc ⊢
  obtain ⟨F1, F2, F3⟩ := F
  unfold Rq.fl ptr at hchk
  have hbx := Rt.by2_new w x.num Ad x.data.length cd Ap x.parts.length cp
  obtain ⟨w2, hw2⟩ : ∃ y, y = (w.alloc (.cells #[.int .u64 (x.num : Int), .slice Ad x.data.length cd, .slice Ap x.parts.length cp] 32)).alloc (.cells #[.int .i64 0, .int .i64 0, .int .i64 0] 39) := ⟨_, rfl⟩
  rw [← hw2] at hbx
  have hxc := fun i => hp_cell hbx.2.2.1 i
  have HCHK := Lib.hid hchk; have HENC := Lib.hid henc; have HBX := Lib.hid hbx; have HG := Lib.hid h2
  clear hchk henc hbx h2 h3 hrd hpv hF hR hf
  unfold REncSaid
  go_enter Tryz.func27, Tryz.ntmps27
  go_wp2_with (go_at_call 9999)
  rw [← hw2]
  clear hw2
  go_at_call 29
  refine (HCHK.out w2 HBX.out.1).mono ?_
  rintro _ w3 ⟨rfl, b3⟩
  have hx3 := HBX.out.below b3
  obtain ⟨w4, hw4⟩ : ∃ y, y = w3.alloc (.cells #[.int .i64 F1, .int .i64 F2, .int .i64 F3] 39) := ⟨_, rfl⟩
  have hb4 : Below w3.heap.size w3 w4 := by rw [hw4]; exact vb _ _
  have hf4 : hp w4 w3.heap.size = some (.cells #[.int .i64 F1, .int .i64 F2, .int .i64 F3] 39 (0, 0)) := by rw [hw4]; exact hp_alloc_at _ _ rfl
  have hx4 := hx3.below hb4
  have hf4c := fun i => hp_cell hf4 i
  have hz4c := fun i => hp_cell hx4.2.2.2 i
  have hz4f := fun i => hp_frozen hx4.2.2.2 i
  have hv4c := fun i => hp_cell hx4.2.2.1 i
  have hg4 := below_hp HG.out hx4.1
  have hg4c := fun i => hp_cell hg4 i
  have hs3 := hx3.2.1
  have hglt : g < w.heap.size := (Array.getElem?_eq_some_iff.1 HG.out).1
  have m1 : ¬ w3.heap.size = w.heap.size + 1 := by omega
  have m2 : ¬ w.heap.size + 1 = w3.heap.size := by omega
  have m3 : ¬ g = w.heap.size + 1 := by omega
  have m4 : ¬ w.heap.size + 1 = g := by omega
  have HX4 := Lib.hid hx4
  go_upto_region 2 with fail
  rw [← hw4]
  clear hw4 b3 hx3 hx4 hb4 hg4 hxc
  by_cases h0 : F3 = 0
  · subst h0
    have c0 : w4.cell? ⟨g, 0, none⟩ = some (.slice C l.length c) := by rw [hg4c]; rfl
    have v0 : w4.cell? ⟨w.heap.size, 0, none⟩ = some (.int .u64 (x.num : Int)) := by rw [hv4c]; rfl
    have v1 : w4.cell? ⟨w.heap.size, 1, none⟩ = some (.slice Ad x.data.length cd) := by rw [hv4c]; rfl
    have v2 : w4.cell? ⟨w.heap.size, 2, none⟩ = some (.slice Ap x.parts.length cp) := by rw [hv4c]; rfl
    have f0 : w4.cell? ⟨w3.heap.size, 0, none⟩ = some (.int .i64 F1) := by rw [hf4c]; rfl
    have f1 : w4.cell? ⟨w3.heap.size, 1, none⟩ = some (.int .i64 F2) := by rw [hf4c]; rfl
    have f2 : w4.cell? ⟨w3.heap.size, 2, none⟩ = some (.int .i64 0) := by rw [hf4c]; rfl
    have l3 : w3.heap.size < w4.heap.size := (Array.getElem?_eq_some_iff.1 hf4).1
    have hfl : ∀ {w6 : World}, Below w4.drew.heap.size w4.drew w6 → ∀ a u, a.block < w4.heap.size → w4.cell? a = some u → w6.cell? a = some u := fun b6 a u ha hu => (World.cell?_of_block (b6.block _ ha)).trans hu
    have EN := Lib.hid (HENC.out w4.drew HX4.out.1.drew rfl)
    clear hg4c hv4c hf4c hf4 HENC HCHK hz4c hz4f
    go_wp2_with fail
    go_region_held3 (fun w' => w'.cell? ⟨g, 0, none⟩ = some (.slice C l.length c) ∧ w'.cell? ⟨w.heap.size, 0, none⟩ = some (.int .u64 (x.num : Int)) ∧ w'.cell? ⟨w.heap.size, 1, none⟩ = some (.slice Ad x.data.length cd) ∧ w'.cell? ⟨w.heap.size, 2, none⟩ = some (.slice Ap x.parts.length cp) ∧ w'.cell? ⟨w3.heap.size, 0, none⟩ = some (.int .i64 F1) ∧ w'.cell? ⟨w3.heap.size, 1, none⟩ = some (.int .i64 F2) ∧ w'.cell? ⟨w3.heap.size, 2, none⟩ = some (.int .i64 0)) (go_keep) (first | (go_at_call 58; refine EN.out.mono ?_; rintro _ w6 ⟨v6, rfl, ho6, b6⟩; obtain ⟨A6, c6, rfl⟩ := ho6.slice; have j0 := hfl b6 ⟨g, 0, none⟩ _ (show g < _ by omega) c0; have j1 := hfl b6 ⟨w.heap.size, 0, none⟩ _ (show w.heap.size < _ by omega) v0; have j2 := hfl b6 ⟨w.heap.size, 1, none⟩ _ (show w.heap.size < _ by omega) v1; have j3 := hfl b6 ⟨w.heap.size, 2, none⟩ _ (show w.heap.size < _ by omega) v2; have j4 := hfl b6 ⟨w3.heap.size, 0, none⟩ _ l3 f0; have j5 := hfl b6 ⟨w3.heap.size, 1, none⟩ _ l3 f1; have j6 := hfl b6 ⟨w3.heap.size, 2, none⟩ _ l3 f2; have hx6 := (HX4.out.below (Below.refl w4.heap.size w4).drew).below b6; have hz6c := fun i => hp_cell hx6.2.2.2 i; have hz6f := fun i => hp_frozen hx6.2.2.2 i; have HO6 := Lib.hid ho6; have HX6 := Lib.hid hx6; clear ho6 b6 hx6))
    all_goals
      go_wp2_with fail
      refine ret_two (v := .slice A6 R.length c6) Tryz.results27 Tryz.underlying39 rfl (by kernel_rfl) rfl rfl (Rq.hp_set3 (f := (F1, F2, 0)) HX6.out.2.2.2) rfl ⟨⟨A6, c6, rfl, ?_⟩, Rq.below_set3 HX6.out.1 (by omega) (F1, F2, 0)⟩
      refine (Own.chg (S := fun k => k = w.heap.size + 1) HO6.out (((Chg.store w6 ⟨w.heap.size + 1, 0, none⟩ (.int .i64 F1)).trans (Chg.store _ ⟨w.heap.size + 1, 1, none⟩ (.int .i64 F2))).trans (Chg.store _ ⟨w.heap.size + 1, 2, none⟩ (.int .i64 0))) (fun k e1 e2 => by have := (HO6.out.lt k e1).1; simp at this; omega)).mono (by simp; omega)
  · have h0z : (F3 != 0) = true := by simpa using h0
    have H0 := Lib.hid h0
    clear h0 HENC hg4c hv4c
    go_wp2_with fail
    go_region
    all_goals
      go_wp2_with fail
      exact ret_two Tryz.results27 Tryz.underlying39 rfl (by kernel_rfl) rfl rfl (Rq.hp_set3 (f := (F1, F2, F3)) ((hp_drew _).trans HX4.out.2.2.2)) rfl ⟨.inl ⟨H0.out, rfl⟩, Rq.below_set3 HX4.out.1.drew (by omega) (F1, F2, F3)⟩
end Go.Proofs.YtinngljphjdpoaaGreatDoor.Ey
/- The program's Codec.Decode. -/
namespace Go.Proofs.YtinngljphjdpoaaGreatDoor.De
open Go Go.RowKit Go.Proofs.YtinngljphjdpoaaGreatDoor.Pa Go.Proofs.YtinngljphjdpoaaGreatDoor.Pb Go.Proofs.YtinngljphjdpoaaGreatDoor.Pf Go.Proofs.YtinngljphjdpoaaGreatDoor.Sc Go.Proofs.YtinngljphjdpoaaGreatDoor.Hs Go.Proofs.YtinngljphjdpoaaGreatDoor.Vu Go.Proofs.YtinngljphjdpoaaGreatDoor.Vg Go.Proofs.YtinngljphjdpoaaGreatDoor.Vh Go.Proofs.YtinngljphjdpoaaGreatDoor.Vj Go.Proofs.YtinngljphjdpoaaGreatDoor.Ca Go.Proofs.YtinngljphjdpoaaGreatDoor.Ea Go.Proofs.YtinngljphjdpoaaGreatDoor.Hx Go.Proofs.YtinngljphjdpoaaGreatDoor.Ow Go.Proofs.YtinngljphjdpoaaGreatDoor.Rv Go.Proofs.YtinngljphjdpoaaGreatDoor.Rw Go.Proofs.YtinngljphjdpoaaGreatDoor.Ox
set_option linter.unusedVariables false
set_option linter.unusedSimpArgs false
/-- What decode leaves. -/
def DecIn (F : Flt) (x : Va) (n q : Nat) (w : World) (e : Ending) (w' : World) : Prop :=
  ∃ v, e = .returned v ∧ w.grownBy w' (some q) ∧ ErrOf F w.heap.size v w' ∧ (F.2.2 = 0 → ∃ nv dv pv, Pa.hp w' q = some (.cells #[nv, dv, pv] 32 (0, 0)) ∧ OwV w' (2 * n + 1) w.heap.size w.heap.size w'.heap.size nv dv pv x)
set_option maxHeartbeats 1000000 in
set_option maxRecDepth 100000 in
theorem decode (U : List UInt8 → Bool) (HU : UtfSaid U) (S : Pl) (g j n q : Nat) (l : List Slot) (bv : Value) (b : List UInt8) (z0 z1 z2 : Value) (w : World) (hc : Cd w S n g l) (hv : Rd w bv b) (hok : okL j l) (hT : TabU w) (hb : b.length ≤ 150000000000000)
    (hvb : Pa.hp w q = some (.cells #[z0, z1, z2] 32 (0, 0))) :
    Calls Tryz.prog 49 #[.pointer (some ⟨g, 0, none⟩), bv, .pointer (some ⟨q, 0, none⟩)] w (DecIn (rdv U n l b 0).1 (rdv U n l b 0).2 n q w) := by
  obtain ⟨w2, hw2⟩ : ∃ y, y = w.alloc (.cells #[.nilIface] 34) := ⟨_, rfl⟩
  have hb2 : Below w.heap.size w w2 := by rw [hw2]; exact vb _ _
  have hs2 : w2.heap.size = w.heap.size + 1 := by rw [hw2]; simp
  have he2 : Pa.hp w2 w.heap.size = some (.cells #[.nilIface] 34 (0, 0)) := by rw [hw2]; exact hp_alloc_at _ _ rfl
  have hvlt : q < w.heap.size := (Array.getElem?_eq_some_iff.1 hvb).1
  have RDA := Lib.hid (Go.Proofs.YtinngljphjdpoaaGreatDoor.Rd.readAll U HU n S g j l bv b 0 w2 (hc.below hb2) (hv.below hb2) hok (hT.below hb2) (by omega) (by omega))
  have hvb2 := below_hp hvb hb2
  have HB2 := Lib.hid hb2; have HS2 := Lib.hid hs2; have HE2 := Lib.hid he2; have HVB2 := Lib.hid hvb2
  obtain ⟨A, c, rfl, -⟩ := hv
  clear hc hT hb2 hs2 he2 hvb2 hvb
  unfold ReadEnds at RDA
  generalize (rdv U n l b 0).1 = f at *
  generalize (rdv U n l b 0).2 = x at *
  go_enter_defers Tryz.func49, Tryz.ntmps49
  go_wp2_with (go_at_call 9999)
  rw [← hw2]
  clear hw2
  go_at_call 75
  refine RDA.out.mono ?_
  rintro e w3 ⟨⟨h0, rfl⟩ | ⟨h0, nv, dv, pv, rfl, ho⟩, b3⟩
  · have he3 : Pa.hp w3 w.heap.size = some (.cells #[.nilIface] 34 (0, 0)) := below_hp HE2.out b3
    refine leaves_cons (f := 59) (args := #[.pointer (some ⟨w.heap.size, 0, none⟩)]) (by simp) (by simp [go_sem]) ?_
    refine (caught_panic w.heap.size f.1 f.2.1 f.2.2 w3 he3).mono ?_
    rintro e u' w'' ⟨rfl, rfl, rfl⟩
    have hb3 := HB2.out.trans (b3.mono HB2.out.size)
    have hc3 := fun i => hp_cell he3 i
    have hb4 := (hb3.setCell (p := ⟨w.heap.size, 0, none⟩) (Nat.le_refl _) (.iface 76 (.pointer (some ⟨w3.heap.size, 0, none⟩)))).alloc (by simp [World.setCell]; exact hb3.size) (.cells #[.int .i64 f.1, .int .i64 f.2.1, .int .i64 f.2.2] 39)
    have hs3 := hb3.size
    have hs4 : w.heap.size < w3.heap.size := by have := HS2.out; have := b3.size; omega
    have hcell : ((w3.setCell ⟨w.heap.size, 0, none⟩ (.iface 76 (.pointer (some ⟨w3.heap.size, 0, none⟩)))).alloc (.cells #[.int .i64 f.1, .int .i64 f.2.1, .int .i64 f.2.2] 39)).cell? ⟨w.heap.size, 0, none⟩ = some (.iface 76 (.pointer (some ⟨w3.heap.size, 0, none⟩))) := by
      have h1 : Pa.hp (w3.setCell ⟨w.heap.size, 0, none⟩ (.iface 76 (.pointer (some ⟨w3.heap.size, 0, none⟩)))) w.heap.size = some (.cells #[.iface 76 (.pointer (some ⟨w3.heap.size, 0, none⟩))] 34 (0, 0)) := heap_setCell_same _ _ 0 _ _ _ he3
      exact hp_cell ((hp_alloc_past _ _ (by simp [World.setCell]; omega)).trans h1) 0
    have hq : Pa.hp ((w3.setCell ⟨w.heap.size, 0, none⟩ (.iface 76 (.pointer (some ⟨w3.heap.size, 0, none⟩)))).alloc (.cells #[.int .i64 f.1, .int .i64 f.2.1, .int .i64 f.2.2] 39)) w3.heap.size = some (.cells #[.int .i64 f.1, .int .i64 f.2.1, .int .i64 f.2.2] 39 (0, 0)) := hp_alloc_at _ _ (by simp [World.setCell])
    simp [Leaves, settle, results, Tryz.results49, go_sem, hc3, hcell]
    exact ⟨_, rfl, grown_below hb4 _, .inr ⟨h0, _, hs3, rfl, hq⟩, fun h => absurd h h0⟩
  · obtain ⟨hyn, rfl, x3, x4⟩ := ho
    obtain ⟨A1, c1, rfl⟩ := x3.slice
    obtain ⟨A2, c2, -, -, -, e2', -⟩ := id x4
    subst e2'
    have he3 : Pa.hp w3 w.heap.size = some (.cells #[.nilIface] 34 (0, 0)) := below_hp HE2.out b3
    have hv3 := below_hp HVB2.out b3
    have hcv := fun i => hp_cell hv3 i
    have hfv := fun i => hp_frozen hv3 i
    have hce := fun i => hp_cell he3 i
    have hfe := fun i => hp_frozen he3 i
    have hne : ¬ w.heap.size = q := by omega
    have hne2 : ¬ q = w.heap.size := by omega
    have H0 := Lib.hid h0; have HB3 := Lib.hid (HB2.out.trans (b3.mono HB2.out.size)); have HV3 := Lib.hid hv3; have HX3 := Lib.hid x3; have HX4 := Lib.hid x4; have HE3 := Lib.hid he3
    clear h0 b3 hv3 x3 x4 he3
    go_wp2_with fail
    refine leaves_cons (f := 59) (args := #[.pointer (some ⟨w.heap.size, 0, none⟩)]) (by simp) (by simp [go_sem]) ?_
    refine (caught_idle w.heap.size _).mono ?_
    rintro e u' w'' ⟨rfl, rfl, rfl⟩
    obtain ⟨w4, hw4⟩ : ∃ y, y = (((w3.setCell ⟨q, 0, none⟩ (.int .u64 (x.num : Int))).setCell ⟨q, 1, none⟩ (.slice A1 x.data.length c1)).setCell ⟨q, 2, none⟩ (.slice A2 x.parts.length c2)) := ⟨_, rfl⟩
    rw [← hw4]
    have hq4 : Pa.hp w4 q = some (.cells #[.int .u64 (x.num : Int), .slice A1 x.data.length c1, .slice A2 x.parts.length c2] 32 (0, 0)) := by rw [hw4]; exact set3v HV3.out _ _ _
    have ho4 : ∀ k, k ≠ q → w4.heap[k]? = w3.heap[k]? := fun k hk => by
      rw [hw4, heap_setCell_other _ _ _ _ hk, heap_setCell_other _ _ _ _ hk, heap_setCell_other _ _ _ _ hk]
    have hz4 : w4.heap.size = w3.heap.size := by rw [hw4]; simp [World.setCell]
    have hk4 : w4.os = w3.os ∧ w4.tape = w3.tape ∧ w4.output = w3.output := by rw [hw4]; exact ⟨rfl, rfl, rfl⟩
    clear hw4
    have he4 : Pa.hp w4 w.heap.size = some (.cells #[.nilIface] 34 (0, 0)) := (ho4 _ hne).trans HE3.out
    have he5 : Pa.hp (w4.setCell ⟨w.heap.size, 0, none⟩ .nilIface) w.heap.size = some (.cells #[.nilIface] 34 (0, 0)) := heap_setCell_same _ _ 0 _ _ _ he4
    have hc5 := hp_cell he5 0
    have ho5 : ∀ k, k ≠ q → k ≠ w.heap.size → (w4.setCell ⟨w.heap.size, 0, none⟩ .nilIface).heap[k]? = w3.heap[k]? := fun k h1 h2 => (heap_setCell_other w4 ⟨w.heap.size, 0, none⟩ k _ h2).trans (ho4 k h1)
    have hq5 : Pa.hp (w4.setCell ⟨w.heap.size, 0, none⟩ .nilIface) q = some (.cells #[.int .u64 (x.num : Int), .slice A1 x.data.length c1, .slice A2 x.parts.length c2] 32 (0, 0)) := (heap_setCell_other w4 ⟨w.heap.size, 0, none⟩ q _ hne2).trans hq4
    have hz5 : (w4.setCell ⟨w.heap.size, 0, none⟩ .nilIface).heap.size = w3.heap.size := by rw [← hz4]; simp [World.setCell]
    have hs2 := HS2.out
    have hres : (results Tryz.f49 #[Value.pointer (some ⟨g, 0, none⟩), .slice A b.length c, .pointer (some ⟨q, 0, none⟩), undef, undef, undef, .pointer (some ⟨w.heap.size, 0, none⟩), .pointer (some ⟨q, 0, none⟩), .pointer (some ⟨g, 0, none⟩), .slice A b.length c, .agg #[.int .u64 (x.num : Int), .slice A1 x.data.length c1, .slice A2 x.parts.length c2], .pointer (some ⟨q, 0, none⟩)]).run Tryz.prog (w4.setCell ⟨w.heap.size, 0, none⟩ .nilIface) = .ok .nilIface (w4.setCell ⟨w.heap.size, 0, none⟩ .nilIface) := by
      simp [results, Tryz.results49, go_sem, hc5]
    refine ⟨_, hres, _, rfl, ⟨hk4.1.trans HB3.out.os, hk4.2.1.trans HB3.out.tape, hk4.2.2.trans HB3.out.output, by rw [hz5]; exact HB3.out.size, fun k hk hne' => (ho5 k (fun e => hne' (by rw [e])) (by omega)).trans (HB3.out.block k hk)⟩, .inl ⟨H0.out, rfl⟩, fun _ => ⟨_, _, _, hq5, hyn, rfl, ?_, ?_⟩⟩
    · exact row_mono (row_keep HX3.out (fun k hk => ho5 k (by have := (World.ownsRow.lt HX3.out k hk).1; omega) (by have := (World.ownsRow.lt HX3.out k hk).1; omega))) (by omega)
    · rw [hz5]
      exact OwP.lo _ _ _ _ _ _ _ (OwP.dlo _ _ _ _ _ _ _ (OwP.keep _ _ _ _ _ _ HX4.out (fun k hk _ => ho5 k (by omega) (by omega))) (by omega)) (by omega)
theorem results_cell1 {P : Program} {fn : Func} {q p : Tmp} {ty : TypeId} (h : fn.results = #[.cell p ty, .tmp q]) (tmps : Array Value) (w : World) (g : Nat) (t : TypeId) (cs : Array Value) (fr : Nat × Nat) (d : TypeDesc)
    (hp : tmps.getD p undef = .pointer (some ⟨g, 0, none⟩)) (hg : w.heap[g]? = some (.cells cs t fr))
    (hu : P.underlying ty = some d) (hd : (match d with | .struct _ | .array _ _ => true | _ => false) = true) (hi : (P.info? ty).map (·.size) = some cs.size) :
    (results fn tmps).run P w = .ok (.tuple #[.agg cs, tmps.getD q undef]) w := by
  have hp' : tmps[p]?.getD undef = .pointer (some ⟨g, 0, none⟩) := by simpa using hp
  simp [results, h, hp', asAddr, run_loadVar_row w g t ty cs fr d hg hu hd hi]
theorem ret_cell1 {P : Program} {fn : Func} {R : Ending → World → Prop} {a : Act} {w : World} {q p : Tmp} {ty t : TypeId} {g : Nat} {cs : Array Value} {fr : Nat × Nat} {d : TypeDesc} {v : Value} (h : fn.results = #[.cell p ty, .tmp q])
    (hu : P.underlying ty = some d) (hd : (match d with | .struct _ | .array _ _ => true | _ => false) = true) (hi : (P.info? ty).map (·.size) = some cs.size)
    (ht : a.tmps.getD p undef = .pointer (some ⟨g, 0, none⟩)) (hv : a.tmps.getD q undef = v) (hg : Pa.hp w g = some (.cells cs t fr)) (hdf : a.defers = []) (hR : R (.returned (.tuple #[.agg cs, v])) w) : bodyPost P fn R .ret a w := by
  subst hv
  exact bodyPost_ret (v := .tuple #[.agg cs, a.tmps.getD q undef]) (results_cell1 h a.tmps w g t cs fr d ht hg hu hd hi) hdf hR
/-- What Decode hands back. -/
def PDec (F : Flt) (x : Va) (n : Nat) (w : World) (e : Ending) (w' : World) : Prop :=
  ((F.2.2 ≠ 0 ∧ ∃ v, e = .returned (.tuple #[.agg #[.int .u64 0, .slice none 0 0, .slice none 0 0], v]) ∧ ErrOf F w.heap.size v w') ∨
   (F.2.2 = 0 ∧ ∃ nv dv pv, e = .returned (.tuple #[.agg #[nv, dv, pv], .nilIface]) ∧ OwV w' (2 * n + 1) w.heap.size w.heap.size w'.heap.size nv dv pv x)) ∧ Below w.heap.size w w'
theorem ErrOf.up {f : Flt} {b b' : Nat} {v : Value} {w : World} (h : ErrOf f b v w) (hb : b' ≤ b) : ErrOf f b' v w := by
  rcases h with h | ⟨h0, k, hk, r⟩
  · exact .inl h
  · exact .inr ⟨h0, k, by omega, r⟩
set_option maxHeartbeats 1000000 in
set_option maxRecDepth 100000 in
theorem pDec (U : List UInt8 → Bool) (HU : UtfSaid U) (S : Pl) (g j n : Nat) (l : List Slot) (bv : Value) (b : List UInt8) (w : World) (hc : Cd w S n g l) (hv : Rd w bv b) (hok : okL j l) (hT : TabU w) (hb : b.length ≤ 150000000000000) :
    Calls Tryz.prog 12 #[.pointer (some ⟨g, 0, none⟩), bv] w (PDec (rdv U n l b 0).1 (rdv U n l b 0).2 n w) := by
  obtain ⟨w2, hw2⟩ : ∃ y, y = (w.alloc (.cells #[.int .u64 0, .slice none 0 0, .slice none 0 0] 32)).alloc (.cells #[.int .u64 0, .slice none 0 0, .slice none 0 0] 32) := ⟨_, rfl⟩
  have hb2 : Below w.heap.size w w2 := by rw [hw2]; exact Vh.b2 w _ _
  have hs2 : w2.heap.size = w.heap.size + 2 := by rw [hw2]; simp
  have hr2 : Pa.hp w2 w.heap.size = some (.cells #[.int .u64 0, .slice none 0 0, .slice none 0 0] 32 (0, 0)) := by rw [hw2]; exact below_hp (hp_alloc_at _ _ rfl) (vb _ _)
  have hq2 : Pa.hp w2 (w.heap.size + 1) = some (.cells #[.int .u64 0, .slice none 0 0, .slice none 0 0] 32 (0, 0)) := by rw [hw2]; exact hp_alloc_at _ _ (by simp)
  have DEC := Lib.hid (decode U HU S g j n (w.heap.size + 1) l bv b _ _ _ w2 (hc.below hb2) (hv.below hb2) hok (hT.below hb2) hb hq2)
  have HB2 := Lib.hid hb2; have HS2 := Lib.hid hs2; have HR2 := Lib.hid hr2
  obtain ⟨A, c, rfl, -⟩ := hv
  clear hc hT hb2 hs2 hr2 hq2
  unfold DecIn at DEC
  generalize (rdv U n l b 0).1 = f at *
  generalize (rdv U n l b 0).2 = x at *
  go_enter Tryz.func12, Tryz.ntmps12
  go_upto_region 2 with fail
  rw [← hw2]
  clear hw2
  go_wp2_with (go_at_call 9999)
  go_at_call 49
  refine DEC.out.mono ?_
  rintro _ w3 ⟨v, rfl, hg3, he3, hk3⟩
  have hs2 := HS2.out
  have hr3 : Pa.hp w3 w.heap.size = some (.cells #[.int .u64 0, .slice none 0 0, .slice none 0 0] 32 (0, 0)) := (hg3.block _ (by omega) (fun e => by simp only [Option.some.injEq] at e; omega)).trans HR2.out
  have hB3 : Below w.heap.size w w3 := HB2.out.grown hg3 (by omega) (fun k e => by simp only [Option.some.injEq] at e; omega)
  have hcr := fun i => hp_cell hr3 i
  have hfr := fun i => hp_frozen hr3 i
  have HR3 := Lib.hid hr3; have HB3 := Lib.hid hB3
  have hs3 := hg3.size
  clear hr3 hB3 hg3 hs2
  rcases he3 with ⟨h0, rfl⟩ | ⟨h0, k, hk, rfl, hkc⟩
  · obtain ⟨nv, dv, pv, hq3, ho3⟩ := hk3 h0
    obtain ⟨hyn, rfl, x3, x4⟩ := ho3
    obtain ⟨A1, c1, rfl⟩ := x3.slice
    obtain ⟨A2, c2, -, -, -, e2', -⟩ := id x4
    subst e2'
    have hcq := fun i => hp_cell hq3 i
    have H0 := Lib.hid h0; have HX3 := Lib.hid x3; have HX4 := Lib.hid x4
    clear h0 x3 x4 hk3 hq3
    go_wp2_with fail
    refine ret_cell1 Tryz.results12 Tryz.underlying32 rfl (by kernel_rfl) rfl rfl (set3v HR3.out _ _ _) rfl ⟨.inr ⟨H0.out, _, _, _, rfl, hyn, rfl, ?_, ?_⟩, ?_⟩
    · have hs2 := HS2.out
      exact row_mono (row_keep HX3.out (fun k hk => by
        have := (World.ownsRow.lt HX3.out k hk).1
        have hne : k ≠ w.heap.size := by omega
        rw [heap_setCell_other _ _ _ _ hne, heap_setCell_other _ _ _ _ hne, heap_setCell_other _ _ _ _ hne])) (by omega)
    · have hs2 := HS2.out
      refine OwP.hi _ _ _ _ _ _ _ (OwP.lo _ _ _ _ _ _ _ (OwP.dlo _ _ _ _ _ _ _ (OwP.keep _ _ _ _ _ _ HX4.out (fun k hk _ => ?_)) (by omega)) (by omega)) (by simp [World.setCell])
      have hne : k ≠ w.heap.size := by omega
      rw [heap_setCell_other _ _ _ _ hne, heap_setCell_other _ _ _ _ hne, heap_setCell_other _ _ _ _ hne]
    · exact ((HB3.out.setCell (by dsimp only; omega) _).setCell (by dsimp only; omega) _).setCell (by dsimp only; omega) _
  · have H0 := Lib.hid h0; have HKC := Lib.hid hkc
    clear h0 hk3 hkc
    unfold ptr
    go_wp2_with fail
    refine ret_cell1 Tryz.results12 Tryz.underlying32 rfl (by kernel_rfl) rfl rfl (set3v HR3.out _ _ _) rfl ⟨.inl ⟨H0.out, _, rfl, .inr ⟨H0.out, k, ?_, rfl, ?_⟩⟩, ?_⟩
    · have hs2 := HS2.out; omega
    · have hs2 := HS2.out
      have hne : k ≠ w.heap.size := by omega
      exact (heap_setCell_other _ _ _ _ hne).trans ((heap_setCell_other _ _ _ _ hne).trans ((heap_setCell_other _ _ _ _ hne).trans HKC.out))
    · exact ((HB3.out.setCell (by dsimp only; omega) _).setCell (by dsimp only; omega) _).setCell (by dsimp only; omega) _
end Go.Proofs.YtinngljphjdpoaaGreatDoor.De
