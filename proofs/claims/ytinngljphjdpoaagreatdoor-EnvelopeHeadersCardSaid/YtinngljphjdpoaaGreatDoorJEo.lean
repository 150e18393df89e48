/- Codec.Encode on both sides. -/
import Derived.Test.YtinngljphjdpoaaGreatDoorJEx
import Derived.Test.YtinngljphjdpoaaGreatDoorJCr
import Derived.BigRegion
import Derived.Deep.RegionHeld3
namespace Go.Proofs.YtinngljphjdpoaaGreatDoor.Ey
open Go Go.RowKit Go.Proofs.YtinngljphjdpoaaGreatDoor.Pa Go.Proofs.YtinngljphjdpoaaGreatDoor.Pb Go.Proofs.YtinngljphjdpoaaGreatDoor.Pf Go.Proofs.YtinngljphjdpoaaGreatDoor.Pq Go.Proofs.YtinngljphjdpoaaGreatDoor.Sc Go.Proofs.YtinngljphjdpoaaGreatDoor.Rs Go.Proofs.YtinngljphjdpoaaGreatDoor.Hs Go.Proofs.YtinngljphjdpoaaGreatDoor.Va Go.Proofs.YtinngljphjdpoaaGreatDoor.Ca Go.Proofs.YtinngljphjdpoaaGreatDoor.Cb Go.Proofs.YtinngljphjdpoaaGreatDoor.Cm Go.Proofs.YtinngljphjdpoaaGreatDoor.Ea Go.Proofs.YtinngljphjdpoaaGreatDoor.Es Go.Proofs.YtinngljphjdpoaaGreatDoor.Ew Go.Proofs.YtinngljphjdpoaaGreatDoor.Ex Go.Proofs.YtinngljphjdpoaaGreatDoor.Hx Go.Proofs.YtinngljphjdpoaaGreatDoor.Vo
set_option linter.unusedVariables false
set_option linter.unusedSimpArgs false
/-- What the program's Encode hands back. -/
def PEnc (F : Vu.Flt) (R : List UInt8) (w : World) (e : Ending) (w' : World) : Prop :=
  (∃ v, F.2.2 ≠ 0 ∧ e = .returned (.tuple #[.slice none 0 0, v]) ∧ Vj.ErrOf F w.heap.size v w' ∧ Below w.heap.size w w') ∨
  (∃ A c, F.2.2 = 0 ∧ e = .returned (.tuple #[.slice A R.length c, .nilIface]) ∧ Own w' w.heap.size 5 (.slice A R.length c) R ∧ Below w.heap.size w w')
set_option maxHeartbeats 1000000 in
set_option maxRecDepth 100000 in
theorem pEnc (S : Pl) (g k j n : Nat) (l : List Slot) (nv dv pv : Value) (x : Vu.Va) (w : World) (hc : Cd w S n g l) (hok : okL j l) (hx : Vu.RdV w k nv dv pv x) (hf : FewV (k + 1) x) (hT : Vh.TabU w) (hn : n ≤ 999999) :
    Calls Tryz.prog 26 #[.pointer (some ⟨g, 0, none⟩), .agg #[nv, dv, pv]] w (PEnc (Vu.chk Vh.pF Lib.validD n l x 1) (encW n l x) w) := by
  have hchk := fun w2 (h : Below w.heap.size w w2) => Vj.pCheck Lib.validD Uv.utf S g k n l nv dv pv x w2 (hc.below h) (hx.below h) (hT.below h) hn
  have hwr := fun w2 (h : Below w.heap.size w w2) (hk : (Vu.chk Vh.pF Lib.validD n l x 1).2.2 = 0) => writeAll n S k j g l nv dv pv x 1 Lib.validD w w2 hc hx hf hok h hk
  obtain ⟨hnum, rfl, hdv, hpv⟩ := hx
  obtain ⟨Ad, cd, rfl, -⟩ := hdv
  obtain ⟨Ap, cp, rfl, -⟩ := hpv.slice
  obtain ⟨w2, hw2⟩ : ∃ y, y = w.alloc (.cells #[.int .u64 x.num, .slice Ad x.data.length cd, .slice Ap x.parts.length cp] 32) := ⟨_, rfl⟩
  have hb2 : Below w.heap.size w w2 := by rw [hw2]; exact vb _ _
  have hx2 : hp w2 w.heap.size = some (.cells #[.int .u64 x.num, .slice Ad x.data.length cd, .slice Ap x.parts.length cp] 32 (0, 0)) := by rw [hw2]; exact hp_alloc_at _ _ rfl
  have hxc := fun i => hp_cell hx2 i
  obtain ⟨F, hF⟩ : ∃ F, F = Vu.chk Vh.pF Lib.validD n l x 1 := ⟨_, rfl⟩
  rw [← hF] at hchk hwr ⊢
  obtain ⟨R, hR⟩ : ∃ R, R = encW n l x := ⟨_, rfl⟩
  rw [← hR] at hwr ⊢
  have HCHK := Lib.hid hchk; have HWR := Lib.hid hwr; have HB2 := Lib.hid hb2; have HX2 := Lib.hid hx2
  clear hchk hwr hb2 hx2 hc hpv hF hR hT hf
  unfold PEnc
  unfold ptr at HCHK
  go_enter Tryz.func26, Tryz.ntmps26
  go_wp2_with (go_at_call 9999)
  rw [← hw2]
  clear hw2
  go_at_call 28
  refine (HCHK.out w2 HB2.out).mono ?_
  rintro _ w3 ⟨v3, rfl, he3, b3⟩
  have hb3 := HB2.out.trans (b3.mono HB2.out.size)
  have hx3 := below_hp HX2.out b3
  have hx3c := fun i => hp_cell hx3 i
  have HB3 := Lib.hid hb3
  rcases he3 with ⟨h0, rfl⟩ | ⟨h0, b, hbb, rfl, hbc⟩
  · have WR := Lib.hid (HWR.out w3 HB3.out h0)
    have H0 := Lib.hid h0
    clear b3 hb3 hx3 h0 hxc
    go_wp2_with (go_at_call 9999)
    go_at_call 57
    refine WR.out.mono ?_
    rintro _ w4 ⟨v4, rfl, ho4, b4⟩
    obtain ⟨A4, c4, rfl⟩ := ho4.slice
    have HO4 := Lib.hid (ho4.mono (base' := w.heap.size) HB3.out.size); have HB4 := Lib.hid (HB3.out.trans (b4.mono HB3.out.size))
    clear ho4 b4
    go_wp2_with fail
    go_ret2
    exact .inr ⟨A4, c4, H0.out, rfl, HO4.out, HB4.out⟩
  · have H0 := Lib.hid h0; have HBC := Lib.hid hbc
    have hs := HB2.out.size
    clear b3 hb3 hx3 h0 hbc hxc
    unfold ptr
    go_wp2_with fail
    go_ret2
    exact .inl ⟨_, H0.out, rfl, .inr ⟨H0.out, b, by omega, rfl, HBC.out⟩, HB3.out⟩
theorem results_tmp_cell {P : Program} {fn : Func} {q p : Tmp} {ty : TypeId} (h : fn.results = #[.tmp q, .cell p ty]) (tmps : Array Value) (w : World) (g : Nat) (t : TypeId) (cs : Array Value) (fr : Nat × Nat) (d : TypeDesc)
    (hp : tmps.getD p undef = .pointer (some ⟨g, 0, none⟩)) (hg : w.heap[g]? = some (.cells cs t fr))
    (hu : P.underlying ty = some d) (hd : (match d with | .struct _ | .array _ _ => true | _ => false) = true) (hi : (P.info? ty).map (·.size) = some cs.size) :
    (results fn tmps).run P w = .ok (.tuple #[tmps.getD q undef, .agg cs]) w := by
  have hp' : tmps[p]?.getD undef = .pointer (some ⟨g, 0, none⟩) := by simpa using hp
  simp [results, h, hp', asAddr, run_loadVar_row w g t ty cs fr d hg hu hd hi]
theorem ret_two {P : Program} {fn : Func} {R : Ending → World → Prop} {a : Act} {w : World} {q p : Tmp} {ty t : TypeId} {g : Nat} {cs : Array Value} {fr : Nat × Nat} {d : TypeDesc} {v : Value} (h : fn.results = #[.tmp q, .cell p ty])
    (hu : P.underlying ty = some d) (hd : (match d with | .struct _ | .array _ _ => true | _ => false) = true) (hi : (P.info? ty).map (·.size) = some cs.size)
    (ht : a.tmps.getD p undef = .pointer (some ⟨g, 0, none⟩)) (hv : a.tmps.getD q undef = v) (hg : hp w g = some (.cells cs t fr)) (hdf : a.defers = []) (hR : R (.returned (.tuple #[v, .agg cs])) w) : bodyPost P fn R .ret a w := by
  subst hv
  exact bodyPost_ret (v := .tuple #[a.tmps.getD q undef, .agg cs]) (results_tmp_cell h a.tmps w g t cs fr d ht hg hu hd hi) hdf hR
/-- What the reference's Encode hands back. -/
def REncSaid (F : Vu.Flt) (R : List UInt8) (w : World) (e : Ending) (w' : World) : Prop :=
  ((F.2.2 ≠ 0 ∧ e = .returned (.tuple #[.slice none 0 0, .agg #[.int .i64 F.1, .int .i64 F.2.1, .int .i64 F.2.2]])) ∨
   (∃ A c, F.2.2 = 0 ∧ e = .returned (.tuple #[.slice A R.length c, .agg #[.int .i64 F.1, .int .i64 F.2.1, .int .i64 F.2.2]]) ∧ Own w' w.heap.size 5 (.slice A R.length c) R)) ∧ Below w.heap.size w w'
set_option maxHeartbeats 1000000 in
set_option maxRecDepth 100000 in
theorem rEnc {w : World} {S : Pl} {n m g : Nat} {l : List Slot} {nv dv pv : Value} {x : Vu.Va} (h : Rc w S n g l) (hok : okL 6 l) (hn : n ≤ 900000) (hx : Vu.RdV w m nv dv pv x) (hf : FewV (m + 1) x) :
    Calls Tryz.prog 27 #[.pointer (some ⟨g, 0, none⟩), .agg #[nv, dv, pv]] w (REncSaid (Vu.chk Vh.pF Lib.validD n l x 1) (encW n l x) w) := by
  have hchk := fun w2 (hb : Below w.heap.size w w2) => Ck.rCheck (w := w2) (m := m) (Rc.keep (S' := S) (fun _ h => h) (fun q _ hq => hb.block q hq) h) hok hn (hx.below hb) hf
  obtain ⟨-, sv, h2, h3⟩ := h
  have hrd := Tw.Tw.rd n sv l h3
  have henc := fun w2 (hb : Below w.heap.size w w2) (hk : (Vu.chk Vh.pF Lib.validD n l x 1).2.2 = 0) => encodeAll n m 6 sv nv dv pv l x 1 Lib.validD w w2 hrd hok hx hf hb hk
  obtain ⟨C, c, rfl, -⟩ := hrd.slice
  obtain ⟨hnum, rfl, hdv, hpv⟩ := hx
  obtain ⟨Ad, cd, rfl, -⟩ := hdv
  obtain ⟨Ap, cp, rfl, -⟩ := hpv.slice
  obtain ⟨F, hF⟩ : ∃ F, F = Vu.chk Vh.pF Lib.validD n l x 1 := ⟨_, rfl⟩
  rw [← hF] at hchk henc ⊢
  obtain ⟨R, hR⟩ : ∃ R, R = encW n l x := ⟨_, rfl⟩
  rw [← hR] at henc ⊢
  obtain ⟨F1, F2, F3⟩ := F
  unfold Rq.fl ptr at hchk
  have hbx := Rt.by2_new w x.num Ad x.data.length cd Ap x.parts.length cp
  obtain ⟨w2, hw2⟩ : ∃ y, y = (w.alloc (.cells #[.int .u64 (x.num : Int), .slice Ad x.data.length cd, .slice Ap x.parts.length cp] 32)).alloc (.cells #[.int .i64 0, .int .i64 0, .int .i64 0] 39) := ⟨_, rfl⟩
  rw [← hw2] at hbx
  have hxc := fun i => hp_cell hbx.2.2.1 i
  have HCHK := Lib.hid hchk; have HENC := Lib.hid henc; have HBX := Lib.hid hbx; have HG := Lib.hid h2
  clear hchk henc hbx h2 h3 hrd hpv hF hR hf
  unfold REncSaid
  go_enter Tryz.func27, Tryz.ntmps27
  go_wp2_with (go_at_call 9999)
  rw [← hw2]
  clear hw2
  go_at_call 29
  refine (HCHK.out w2 HBX.out.1).mono ?_
  rintro _ w3 ⟨rfl, b3⟩
  have hx3 := HBX.out.below b3
  obtain ⟨w4, hw4⟩ : ∃ y, y = w3.alloc (.cells #[.int .i64 F1, .int .i64 F2, .int .i64 F3] 39) := ⟨_, rfl⟩
  have hb4 : Below w3.heap.size w3 w4 := by rw [hw4]; exact vb _ _
  have hf4 : hp w4 w3.heap.size = some (.cells #[.int .i64 F1, .int .i64 F2, .int .i64 F3] 39 (0, 0)) := by rw [hw4]; exact hp_alloc_at _ _ rfl
  have hx4 := hx3.below hb4
  have hf4c := fun i => hp_cell hf4 i
  have hz4c := fun i => hp_cell hx4.2.2.2 i
  have hz4f := fun i => hp_frozen hx4.2.2.2 i
  have hv4c := fun i => hp_cell hx4.2.2.1 i
  have hg4 := below_hp HG.out hx4.1
  have hg4c := fun i => hp_cell hg4 i
  have hs3 := hx3.2.1
  have hglt : g < w.heap.size := (Array.getElem?_eq_some_iff.1 HG.out).1
  have m1 : ¬ w3.heap.size = w.heap.size + 1 := by omega
  have m2 : ¬ w.heap.size + 1 = w3.heap.size := by omega
  have m3 : ¬ g = w.heap.size + 1 := by omega
  have m4 : ¬ w.heap.size + 1 = g := by omega
  have HX4 := Lib.hid hx4
  go_upto_region 2 with fail
  rw [← hw4]
  clear hw4 b3 hx3 hx4 hb4 hg4 hxc
  by_cases h0 : F3 = 0
  · subst h0
    have c0 : w4.cell? ⟨g, 0, none⟩ = some (.slice C l.length c) := by rw [hg4c]; rfl
    have v0 : w4.cell? ⟨w.heap.size, 0, none⟩ = some (.int .u64 (x.num : Int)) := by rw [hv4c]; rfl
    have v1 : w4.cell? ⟨w.heap.size, 1, none⟩ = some (.slice Ad x.data.length cd) := by rw [hv4c]; rfl
    have v2 : w4.cell? ⟨w.heap.size, 2, none⟩ = some (.slice Ap x.parts.length cp) := by rw [hv4c]; rfl
    have f0 : w4.cell? ⟨w3.heap.size, 0, none⟩ = some (.int .i64 F1) := by rw [hf4c]; rfl
    have f1 : w4.cell? ⟨w3.heap.size, 1, none⟩ = some (.int .i64 F2) := by rw [hf4c]; rfl
    have f2 : w4.cell? ⟨w3.heap.size, 2, none⟩ = some (.int .i64 0) := by rw [hf4c]; rfl
    have l3 : w3.heap.size < w4.heap.size := (Array.getElem?_eq_some_iff.1 hf4).1
    have hfl : ∀ {w6 : World}, Below w4.drew.heap.size w4.drew w6 → ∀ a u, a.block < w4.heap.size → w4.cell? a = some u → w6.cell? a = some u := fun b6 a u ha hu => (World.cell?_of_block (b6.block _ ha)).trans hu
    have EN := Lib.hid (HENC.out w4.drew HX4.out.1.drew rfl)
    clear hg4c hv4c hf4c hf4 HENC HCHK hz4c hz4f
    go_wp2_with fail
    go_region_held3 (fun w' => w'.cell? ⟨g, 0, none⟩ = some (.slice C l.length c) ∧ w'.cell? ⟨w.heap.size, 0, none⟩ = some (.int .u64 (x.num : Int)) ∧ w'.cell? ⟨w.heap.size, 1, none⟩ = some (.slice Ad x.data.length cd) ∧ w'.cell? ⟨w.heap.size, 2, none⟩ = some (.slice Ap x.parts.length cp) ∧ w'.cell? ⟨w3.heap.size, 0, none⟩ = some (.int .i64 F1) ∧ w'.cell? ⟨w3.heap.size, 1, none⟩ = some (.int .i64 F2) ∧ w'.cell? ⟨w3.heap.size, 2, none⟩ = some (.int .i64 0)) (go_keep) (first | (go_at_call 58; refine EN.out.mono ?_; rintro _ w6 ⟨v6, rfl, ho6, b6⟩; obtain ⟨A6, c6, rfl⟩ := ho6.slice; have j0 := hfl b6 ⟨g, 0, none⟩ _ (show g < _ by omega) c0; have j1 := hfl b6 ⟨w.heap.size, 0, none⟩ _ (show w.heap.size < _ by omega) v0; have j2 := hfl b6 ⟨w.heap.size, 1, none⟩ _ (show w.heap.size < _ by omega) v1; have j3 := hfl b6 ⟨w.heap.size, 2, none⟩ _ (show w.heap.size < _ by omega) v2; have j4 := hfl b6 ⟨w3.heap.size, 0, none⟩ _ l3 f0; have j5 := hfl b6 ⟨w3.heap.size, 1, none⟩ _ l3 f1; have j6 := hfl b6 ⟨w3.heap.size, 2, none⟩ _ l3 f2; have hx6 := (HX4.out.below (Below.refl w4.heap.size w4).drew).below b6; have hz6c := fun i => hp_cell hx6.2.2.2 i; have hz6f := fun i => hp_frozen hx6.2.2.2 i; have HO6 := Lib.hid ho6; have HX6 := Lib.hid hx6; clear ho6 b6 hx6))
    all_goals
      go_wp2_with fail
      refine ret_two (v := .slice A6 R.length c6) Tryz.results27 Tryz.underlying39 rfl (by kernel_rfl) rfl rfl (Rq.hp_set3 (f := (F1, F2, 0)) HX6.out.2.2.2) rfl ⟨⟨A6, c6, rfl, ?_⟩, Rq.below_set3 HX6.out.1 (by omega) (F1, F2, 0)⟩
      refine (Own.chg (S := fun k => k = w.heap.size + 1) HO6.out (((Chg.store w6 ⟨w.heap.size + 1, 0, none⟩ (.int .i64 F1)).trans (Chg.store _ ⟨w.heap.size + 1, 1, none⟩ (.int .i64 F2))).trans (Chg.store _ ⟨w.heap.size + 1, 2, none⟩ (.int .i64 0))) (fun k e1 e2 => by have := (HO6.out.lt k e1).1; simp at this; omega)).mono (by simp; omega)
  · have h0z : (F3 != 0) = true := by simpa using h0
    have H0 := Lib.hid h0
    clear h0 HENC hg4c hv4c
    go_wp2_with fail
    go_region
    all_goals
      go_wp2_with fail
      exact ret_two Tryz.results27 Tryz.underlying39 rfl (by kernel_rfl) rfl rfl (Rq.hp_set3 (f := (F1, F2, F3)) ((hp_drew _).trans HX4.out.2.2.2)) rfl ⟨.inl ⟨H0.out, rfl⟩, Rq.below_set3 HX4.out.1.drew (by omega) (F1, F2, F3)⟩
end Go.Proofs.YtinngljphjdpoaaGreatDoor.Ey
/- Both Encodes in one form. -/
namespace Go.Proofs.YtinngljphjdpoaaGreatDoor.Ez
open Go Go.RowKit Go.Proofs.YtinngljphjdpoaaGreatDoor.Pa Go.Proofs.YtinngljphjdpoaaGreatDoor.Pb Go.Proofs.YtinngljphjdpoaaGreatDoor.Pc Go.Proofs.YtinngljphjdpoaaGreatDoor.Pf Go.Proofs.YtinngljphjdpoaaGreatDoor.Pq Go.Proofs.YtinngljphjdpoaaGreatDoor.Sc Go.Proofs.YtinngljphjdpoaaGreatDoor.Rs Go.Proofs.YtinngljphjdpoaaGreatDoor.Sl Go.Proofs.YtinngljphjdpoaaGreatDoor.Hs Go.Proofs.YtinngljphjdpoaaGreatDoor.Va Go.Proofs.YtinngljphjdpoaaGreatDoor.Ca Go.Proofs.YtinngljphjdpoaaGreatDoor.Cb Go.Proofs.YtinngljphjdpoaaGreatDoor.Cm Go.Proofs.YtinngljphjdpoaaGreatDoor.Md Go.Proofs.YtinngljphjdpoaaGreatDoor.Rq Go.Proofs.YtinngljphjdpoaaGreatDoor.Rr Go.Proofs.YtinngljphjdpoaaGreatDoor.Rt Go.Proofs.YtinngljphjdpoaaGreatDoor.Hx Go.Proofs.YtinngljphjdpoaaGreatDoor.Vo Go.Proofs.YtinngljphjdpoaaGreatDoor.Hv Go.Proofs.YtinngljphjdpoaaGreatDoor.Fz Go.Proofs.YtinngljphjdpoaaGreatDoor.Ck Go.Proofs.YtinngljphjdpoaaGreatDoor.Ey Go.Proofs.YtinngljphjdpoaaGreatDoor.Es
set_option linter.unusedVariables false
set_option linter.unusedSimpArgs false
/-- The bytes of an Encode: none beside a fault. -/
def RR (F : Vu.Flt) (R : List UInt8) : List UInt8 := if F.2.2 = 0 then R else []
theorem rr_len (F : Vu.Flt) (n : Nat) (s : List Slot) (x : Vu.Va) : (RR F (encW n s x)).length ≤ 4194304 := by
  unfold RR; split
  · exact encW_len n s x
  · simp
theorem pOne {F : Vu.Flt} {R : List UInt8} {w : World} {e : Ending} {w' : World} (h : PEnc F R w e w') :
    ∃ A c v, e = .returned (.tuple #[.slice A (RR F R).length c, v]) ∧ Own w' w.heap.size 5 (.slice A (RR F R).length c) (RR F R) ∧ Vj.ErrOf F w.heap.size v w' ∧ Below w.heap.size w w' := by
  rcases h with ⟨v, h0, rfl, he, hb⟩ | ⟨A, c, h0, rfl, ho, hb⟩
  · have hr : RR F R = [] := by unfold RR; rw [if_neg h0]
    rw [hr]
    exact ⟨none, 0, v, rfl, Own.nil _ _ _, he, hb⟩
  · have hr : RR F R = R := by unfold RR; rw [if_pos h0]
    rw [hr]
    exact ⟨A, c, .nilIface, rfl, ho, .inl ⟨h0, rfl⟩, hb⟩
theorem rOne {F : Vu.Flt} {R : List UInt8} {w : World} {e : Ending} {w' : World} (h : REncSaid F R w e w') :
    ∃ A c, e = .returned (.tuple #[.slice A (RR F R).length c, .agg #[.int .i64 F.1, .int .i64 F.2.1, .int .i64 F.2.2]]) ∧ Own w' w.heap.size 5 (.slice A (RR F R).length c) (RR F R) ∧ Below w.heap.size w w' := by
  obtain ⟨⟨h0, rfl⟩ | ⟨A, c, h0, rfl, ho⟩, hb⟩ := h
  · have hr : RR F R = [] := by unfold RR; rw [if_neg h0]
    rw [hr]
    exact ⟨none, 0, rfl, Own.nil _ _ _, hb⟩
  · have hr : RR F R = R := by unfold RR; rw [if_pos h0]
    rw [hr]
    exact ⟨A, c, rfl, ho, hb⟩
end Go.Proofs.YtinngljphjdpoaaGreatDoor.Ez
