/- The program's walk through a message's fields, by a closure. -/
import Derived.Test.YtinngljphjdpoaaGreatDoorJGv
import Derived.Test.YtinngljphjdpoaaGreatDoorJYa
import Derived.WalkMore
import Derived.Test.YtinngljphjdpoaaGreatDoorJEq
import Derived.Deep.DeepCutAuto
namespace Go.Proofs.YtinngljphjdpoaaGreatDoor.Gw
open Go Go.RowKit Go.Proofs.YtinngljphjdpoaaGreatDoor.Pa Go.Proofs.YtinngljphjdpoaaGreatDoor.Pb Go.Proofs.YtinngljphjdpoaaGreatDoor.Pf Go.Proofs.YtinngljphjdpoaaGreatDoor.Nz Go.Proofs.YtinngljphjdpoaaGreatDoor.Nm Go.Proofs.YtinngljphjdpoaaGreatDoor.Ea Go.Proofs.YtinngljphjdpoaaGreatDoor.Gp Go.Proofs.YtinngljphjdpoaaGreatDoor.Gn Go.Proofs.YtinngljphjdpoaaGreatDoor.Gh Go.Proofs.YtinngljphjdpoaaGreatDoor.Gs Go.Proofs.YtinngljphjdpoaaGreatDoor.Gv Go.Proofs.YtinngljphjdpoaaGreatDoor.Hp Go.Proofs.YtinngljphjdpoaaGreatDoor.Hq
set_option linter.unusedVariables false
set_option linter.unusedSimpArgs false
/-- What is wrong with a message, and where. -/
def wErr (b : List UInt8) : Int := if 4194304 < b.length then 2 else (D b 0 0).err
def wAt (b : List UInt8) : Int := if 4194304 < b.length then 0 else if (D b 0 0).err = 0 then 0 else (((Ep.bytes (D b 0 0).fs).length + (D b 0 0).off : Nat) : Int)
theorem fld_bad1 {l : List UInt8} {count : Nat} {last e1 : Int} {no ty k1 : Nat} (h : Gp.head l count last = (e1, no, ty, k1)) (h1 : e1 ≠ 0) : fld l count last = (e1, 0, ⟨0, 0, 0, []⟩, 0) := by
  simp only [Gp.fld, h]; rw [if_pos h1]
theorem fld_bad2 {l : List UInt8} {count : Nat} {last e2 : Int} {no ty k1 num k2 : Nat} {data : List UInt8} (h : Gp.head l count last = (0, no, ty, k1)) (h2 : Gp.val ty (l.drop k1) = (e2, num, data, k2)) (he : e2 ≠ 0) : fld l count last = (e2, k1, ⟨0, 0, 0, []⟩, 0) := by
  simp only [Gp.fld, h, h2]; rw [if_neg (by simp), if_pos he]
theorem fld_good {l : List UInt8} {count : Nat} {last : Int} {no ty k1 num k2 : Nat} {data : List UInt8} (h : Gp.head l count last = (0, no, ty, k1)) (h2 : Gp.val ty (l.drop k1) = (0, num, data, k2)) : fld l count last = (0, 0, ⟨(no : Int), (ty : Int), num, data⟩, k1 + k2) := by
  simp only [Gp.fld, h, h2]; rw [if_neg (by simp), if_neg (by simp)]
/-- How far a walk has come. -/
structure Far (b : List UInt8) (p : Nat) (pre : List Ep.Fd) (last : Int) : Prop where
  le : p ≤ b.length
  cnt : pre.length ≤ 64
  l0 : 0 ≤ last
  l1 : last ≤ 536870911
  at_ : p = (Ep.bytes pre).length
  fs : (D b 0 0).fs = pre ++ (D (b.drop p) pre.length last).fs
  off : (D b 0 0).off = (D (b.drop p) pre.length last).off
  err : (D b 0 0).err = (D (b.drop p) pre.length last).err
theorem Far.zero (b : List UInt8) : Far b 0 [] 0 := ⟨by omega, by simp, by omega, by omega, rfl, rfl, rfl, rfl⟩
theorem Far.done {b : List UInt8} {pre : List Ep.Fd} {last : Int} (h : Far b b.length pre last) : (D b 0 0).fs = pre ∧ (D b 0 0).err = 0 := by
  have h1 := h.fs; have h2 := h.err
  rw [List.drop_length] at h1 h2
  exact ⟨by rw [h1, D_nil]; simp, by rw [h2, D_nil]⟩
theorem Far.bad {b : List UInt8} {p : Nat} {pre : List Ep.Fd} {last e : Int} {o k : Nat} {f : Ep.Fd} (h : Far b p pre last) (hp : p < b.length) (hf : fld (b.drop p) pre.length last = (e, o, f, k)) (he : e ≠ 0) :
    (D b 0 0).fs = pre ∧ (D b 0 0).err = e ∧ (Ep.bytes (D b 0 0).fs).length + (D b 0 0).off = p + o := by
  have h1 := h.fs; have h2 := h.err; have h3 := h.off
  rw [D_bad (by simp; omega) hf he] at h1 h2 h3
  simp only [List.append_nil] at h1
  exact ⟨h1, h2, by rw [h1, h3, ← h.at_]⟩
theorem Far.step {b : List UInt8} {p : Nat} {pre : List Ep.Fd} {last : Int} {o k : Nat} {f : Ep.Fd} (h : Far b p pre last) (hp : p < b.length) (hb : b.length ≤ 100000000) (hf : fld (b.drop p) pre.length last = (0, o, f, k)) :
    Far b (p + k) (pre ++ [f]) f.no ∧ 0 < k := by
  have hs := fld_ok (o := 0) hf (by simp; omega)
  have hd := D_step (by simp; omega) hf (by simp; omega)
  have h1 := h.fs; have h2 := h.err; have h3 := h.off
  rw [hd] at h1 h2 h3
  simp only [List.length_drop] at hs
  have hbl : (Ep.bytes (pre ++ [f])).length = (Ep.bytes pre).length + k := by
    have hk : (Ep.one f).length = k := by rw [← hs.2.2.2.1]; simp; omega
    clear h1 h2 h3 hd hs hf h hp
    induction pre with
    | nil => simp [Ep.bytes, hk]
    | cons x t ih => simp only [List.cons_append, Ep.bytes, List.length_append, ih]; omega
  have hcnt := h.cnt
  refine ⟨⟨by omega, ?_, by omega, by omega, by rw [hbl, ← h.at_], ?_, ?_, ?_⟩, hs.2.1⟩
  · simp; omega
  · rw [h1, List.drop_drop]; simp
  · rw [h3, List.drop_drop]; simp
  · rw [h2, List.drop_drop]; simp
def fval (f : Ep.Fd) (dv : Value) : Value := .agg #[.int .i64 f.no, .int .i64 f.ty, .int .u64 (f.num : Int), dv]
/-- What a round of the closure does. -/
def TellD (B : Nat) (J : List Ep.Fd → World → Prop) : Prop :=
  ∀ (pre : List Ep.Fd) (f : Ep.Fd) (dv : Value) (wr w3 : World) (g : Nat), J pre wr → Below wr.heap.size wr w3 → wr.heap.size ≤ g →
    Pa.hp w3 g = some (.cells #[.int .i64 f.no, .int .i64 f.ty, .int .u64 (f.num : Int), dv] 140 (0, 0)) → pre.length < 64 → f.num < 18446744073709551616 → f.data.length ≤ 4194304 →
    Own w3 wr.heap.size 5 dv f.data → dv.ownBlock ≠ some g →
    Calls Tryz.prog 131 #[.int .i64 ((Ep.bytes pre).length : Int), fval f dv, .pointer (some ⟨B, 0, none⟩)] w3 fun e w4 => e = .returned (.bool true) ∧ J (pre ++ [f]) w4 ∧ Pa.hp w4 g = Pa.hp w3 g ∧ w3.heap.size ≤ w4.heap.size
set_option maxHeartbeats 2000000 in
set_option maxRecDepth 100000 in
theorem walkD (v : Value) (b : List UInt8) (B : Nat) (J : List Ep.Fd → World → Prop) (hJb : ∀ pre w w', J pre w → Below w.heap.size w w' → J pre w') (hJr : ∀ pre w, J pre w → Rd w v b) (hT : TellD B J) (w : World) (h0 : J [] w) (hb : b.length ≤ 150000000000000) :
    Calls Tryz.prog 130 #[v, .func (.func 131) #[] #[.pointer (some ⟨B, 0, none⟩)]] w fun e' w' => e' = .returned (.tuple #[.int .i64 (wAt b), .int .i64 (wErr b)]) ∧
      ((4194304 < b.length ∧ J [] w') ∨ (b.length ≤ 4194304 ∧ ∃ wz, J (D b 0 0).fs wz ∧ Below wz.heap.size wz w')) := by
  obtain ⟨A, c, rfl, -⟩ := id (hJr [] w h0)
  obtain ⟨er, hE⟩ : ∃ y, y = wErr b := ⟨_, rfl⟩
  obtain ⟨pl, hP⟩ : ∃ y, y = wAt b := ⟨_, rfl⟩
  rw [← hE, ← hP]
  have HE := Lib.hid hE; have HP := Lib.hid hP; have HJ := Lib.hid h0; have HT := Lib.hid hT; have HJB := Lib.hid hJb; have HJR := Lib.hid hJr; have HBL := Lib.hid hb
  clear hE hP h0 hT hJb hJr
  by_cases hlong : 4194304 < b.length
  · have hE : er = 2 := by rw [HE.out]; unfold wErr; rw [if_pos hlong]
    have hP : pl = 0 := by rw [HP.out]; unfold wAt; rw [if_pos hlong]
    subst hE hP
    have hl : 4194304 < (b.length : Int) := by omega
    go_enter Tryz.func130, Tryz.ntmps130
    go_wp2_with fail
    go_step3
    go_wp2_with fail
    rw [Exit.noGoto_ret]
    go_ret2
    exact ⟨rfl, .inl ⟨hlong, HJ.out⟩⟩
  · have hE : er = (D b 0 0).err := by rw [HE.out]; unfold wErr; rw [if_neg hlong]
    have hP : pl = if (D b 0 0).err = 0 then 0 else (((Ep.bytes (D b 0 0).fs).length + (D b 0 0).off : Nat) : Int) := by rw [HP.out]; unfold wAt; rw [if_neg hlong]
    have HE := Lib.hid hE; have HP := Lib.hid hP; clear hE hP
    have hl : (b.length : Int) ≤ 4194304 := by omega
    have HL := Lib.hid hlong; clear hlong
    have HBL := Lib.hid (show b.length ≤ 100000000 by have := HL.out; omega)
    go_enter Tryz.func130, Tryz.ntmps130
    go_wp2_with fail
    go_step3
    go_wp2_with fail
    go_step3
    go_wp2_with fail
    go_loopw [6, 7, 8] (fun t s u wr => ∃ (p : Nat) (pre : List Ep.Fd) (last : Int), t = .int .i64 pre.length ∧ s = .int .i64 last ∧ u = .int .i64 p ∧ Far b p pre last ∧ J pre wr) (fun _ _ u _ => b.length - (intOf u).toNat)
    case atStart => exact ⟨0, [], 0, rfl, rfl, rfl, Far.zero b, HJ.out⟩
    case round =>
      obtain ⟨p, pre, last, rfl, rfl, rfl, hfar, hj⟩ := hrel
      have FAR := Lib.hid hfar; have HJW := Lib.hid hj
      have hpl := hfar.le
      clear hfar hj
      by_cases hend : p = b.length
      · subst hend
        obtain ⟨hfs, herr⟩ := FAR.out.done
        have hE : er = 0 := by rw [HE.out, herr]
        have hP : pl = 0 := by rw [HP.out, if_pos herr]
        subst hE hP
        have HFS := Lib.hid hfs
        clear hfs herr HE HP
        go_wp2_with fail
        rw [Exit.noGoto_ret]
        go_ret2
        exact ⟨rfl, .inr ⟨by omega, wr, by rw [HFS.out]; exact HJW.out, Below.refl _ _⟩⟩
      · have hlt : p < b.length := by omega
        have hlti : (p : Int) < (b.length : Int) := by omega
        obtain ⟨e1, no, ty, k1, hh⟩ : ∃ e1 no ty k1, Gp.head (b.drop p) pre.length last = (e1, no, ty, k1) := ⟨_, _, _, _, rfl⟩
        have HEAD := Lib.hid (head _ b p wr (HJR.out pre wr HJW.out) hpl HBL.out pre.length FAR.out.cnt last FAR.out.l0 FAR.out.l1 e1 no ty k1 hh)
        have HH := Lib.hid hh
        clear hh hend
        go_wp2_with (go_at_call 9999)
        go_at_call 150
        refine HEAD.out.mono ?_
        rintro _ w1 ⟨rfl, b1⟩
        have HB1 := Lib.hid b1; clear b1 HEAD
        by_cases h1 : e1 = 0
        · subst h1
          have hq : headEnd 0 p k1 = ((p + k1 : Nat) : Int) := rfl
          rw [hq]
          clear hq
          have hok := head_ok HH.out
          simp only [List.length_drop] at hok
          obtain ⟨w2, hw2⟩ : ∃ y, y = w1.alloc (.cells #[.int .i64 (no : Int), .int .i64 (ty : Int), .int .u64 0, .slice none 0 0] 140) := ⟨_, rfl⟩
          have hg2 : Pa.hp w2 w1.heap.size = some (.cells #[.int .i64 (no : Int), .int .i64 (ty : Int), .int .u64 0, .slice none 0 0] 140 (0, 0)) := by rw [hw2]; exact hp_alloc_at _ _ rfl
          have hb2 : Below wr.heap.size wr w2 := by rw [hw2]; exact HB1.out.trans ((vb _ _).mono HB1.out.size)
          have hs2 : w2.heap.size = w1.heap.size + 1 := by rw [hw2]; simp
          obtain ⟨e2, num, data, k2, hv⟩ : ∃ e2 num data k2, Gp.val ty ((b.drop p).drop k1) = (e2, num, data, k2) := ⟨_, _, _, _, rfl⟩
          have hvg : (Value.slice A b.length c).ownBlock ≠ some w1.heap.size := by
            intro e
            obtain ⟨ad, rfl, hc⟩ := (HJR.out pre wr HJW.out).at_ p hlt
            simp only [Value.ownBlock, Option.some.injEq] at e
            have := World.block_lt_of_cell? wr _ hc
            rw [show (ad.add p).block = ad.block by unfold Addr.add; split <;> rfl] at this
            have := HB1.out.size
            omega
          have VAL := Lib.hid (value ty hok.2.2.2.2.1 _ b (p + k1) w1.heap.size (no : Int) w2 ((HJR.out pre wr HJW.out).below hb2) (by omega) HBL.out hvg hg2 e2 num data k2 (by rw [← List.drop_drop]; exact hv))
          have HV := Lib.hid hv; have HG2 := Lib.hid hg2; have HB2 := Lib.hid hb2; have HS2 := Lib.hid hs2; have HOK := Lib.hid hok
          clear hv hg2 hb2 hs2 hvg hok
          unfold hv4
          go_wp2_with (go_at_call 9999)
          rw [← hw2]
          clear hw2
          go_at_call 151
          refine VAL.out.mono ?_
          rintro _ w3 ⟨rfl, hgr, hok3⟩
          have hb3 : Below wr.heap.size wr w3 := HB2.out.grown hgr HB2.out.size (fun k e => by cases e; exact HB1.out.size)
          have HB3 := Lib.hid hb3
          by_cases h2 : e2 = 0
          · subst h2
            obtain ⟨dv, hg3, ho3⟩ := hok3 rfl
            have hf := fld_good HH.out HV.out
            obtain ⟨hfar, hk⟩ := FAR.out.step hlt HBL.out hf
            have hfo := fld_ok (o := 0) hf (by simp; have := HBL.out; omega)
            simp only [List.length_drop] at hfo
            have hs2 := HS2.out
            have hs1 := HB1.out.size
            have hdg : dv.ownBlock ≠ some w1.heap.size := fun e => by have := (ho3.lt _ e).1; omega
            have TELL := Lib.hid (HT.out pre ⟨(no : Int), (ty : Int), num, data⟩ dv wr w3 w1.heap.size HJW.out hb3 hs1 hg3 (by have := FAR.out.cnt; omega) hfo.2.2.2.2.2.2.2.2.2.1 (by have := hfo.2.2.2.2.2.2.2.2.2.2.1; simp only at this ⊢; omega) (ho3.mono (by omega)) hdg)
            have hat : ((Ep.bytes pre).length : Int) = (p : Int) := by rw [← FAR.out.at_]
            rw [hat] at TELL
            have hc3 := fun i => hp_cell hg3 i
            have hz : numEnd 0 (p + k1) k2 = ((p + k1 + k2 : Nat) : Int) := rfl
            have HG3 := Lib.hid hg3; have HFAR := Lib.hid hfar; have HK := Lib.hid hk; have HFO := Lib.hid hfo.2.2.1
            rw [hz]
            clear hz hgr hok3 ho3 hf hfar hk hfo hb3 hs2 hs1 hdg hat hg3
            unfold fval at TELL
            go_wp2_with (go_at_call 9999)
            go_at_call 131
            refine TELL.out.mono ?_
            rintro _ w4 ⟨rfl, hj4, hg4, hs4⟩
            have hc4 := fun i => hp_cell (hg4.trans HG3.out) i
            have HJ4 := Lib.hid hj4
            clear hc3 hj4 hg4
            go_wp2_with fail
            go_region
            all_goals go_wp2_with fail
            have hcnt := FAR.out.cnt
            have hk := HK.out
            have hkl := HFO.out
            refine ⟨⟨p + (k1 + k2), pre ++ [⟨(no : Int), (ty : Int), num, data⟩], (no : Int), ?_, rfl, ?_, HFAR.out, HJB.out _ _ _ HJ4.out (Below.refl _ _).drew⟩, ?_⟩
            · rw [w64 (by omega) (by omega)]
              simp
            · push_cast; rw [Int.add_assoc]
            · simp only [intOf]; omega
          · have hf := fld_bad2 HH.out HV.out h2
            obtain ⟨hfs, herr, hpo⟩ := FAR.out.bad hlt hf h2
            have hE : er = e2 := by rw [HE.out, herr]
            have hP : pl = ((p + k1 : Nat) : Int) := by rw [HP.out, herr, if_neg h2, hpo]
            subst hE hP
            have HFS := Lib.hid hfs
            generalize numEnd er (p + k1) k2 = z
            clear hfs herr HE HP hf hpo hgr hok3 hb3
            go_wp2_with fail
            all_goals (rw [Exit.noGoto_ret])
            all_goals go_ret2
            all_goals exact ⟨by simp, .inr ⟨by omega, wr, by rw [HFS.out]; exact HJW.out, HB3.out⟩⟩
        · have hf := fld_bad1 HH.out h1
          obtain ⟨hfs, herr, hpo⟩ := FAR.out.bad hlt hf h1
          have hE : er = e1 := by rw [HE.out, herr]
          have hP : pl = (p : Int) := by rw [HP.out, herr, if_neg h1, hpo]; simp
          have hq : headEnd e1 p k1 = (p : Int) := by unfold headEnd; rw [if_neg h1]
          rw [hq]
          subst hE hP
          unfold hv4
          have HFS := Lib.hid hfs
          clear hfs herr HE HP hq hf hpo
          go_wp2_with fail
          all_goals (rw [Exit.noGoto_ret])
          all_goals go_ret2
          all_goals exact ⟨rfl, .inr ⟨by omega, wr, by rw [HFS.out]; exact HJW.out, HB1.out.trans ((vb _ _).mono HB1.out.size)⟩⟩
end Go.Proofs.YtinngljphjdpoaaGreatDoor.Gw
/- The program's wire.Decode. -/
namespace Go.Proofs.YtinngljphjdpoaaGreatDoor.Gd
open Go Go.RowKit Go.Proofs.YtinngljphjdpoaaGreatDoor.Pa Go.Proofs.YtinngljphjdpoaaGreatDoor.Pb Go.Proofs.YtinngljphjdpoaaGreatDoor.Pf Go.Proofs.YtinngljphjdpoaaGreatDoor.Nz Go.Proofs.YtinngljphjdpoaaGreatDoor.Nm Go.Proofs.YtinngljphjdpoaaGreatDoor.Ce Go.Proofs.YtinngljphjdpoaaGreatDoor.Ea Go.Proofs.YtinngljphjdpoaaGreatDoor.Eb Go.Proofs.YtinngljphjdpoaaGreatDoor.Eq Go.Proofs.YtinngljphjdpoaaGreatDoor.Gp Go.Proofs.YtinngljphjdpoaaGreatDoor.Gh Go.Proofs.YtinngljphjdpoaaGreatDoor.Gs Go.Proofs.YtinngljphjdpoaaGreatDoor.Hp Go.Proofs.YtinngljphjdpoaaGreatDoor.Hq Go.Proofs.YtinngljphjdpoaaGreatDoor.Gw
set_option linter.unusedVariables false
set_option linter.unusedSimpArgs false
/-- Fields in a row of the call's own, each field's bytes the call's own too. -/
structure Ud (w : World) (g : Nat) (l : List Ep.Fd) (A : Option Addr) (c : Nat) (xs : List Value) : Prop where
  row : w.ownsRow g 140 4 (.slice A l.length c) l.length xs
  fld : ∀ j f, l[j]? = some f → (f.num < 18446744073709551616 ∧ f.data.length ≤ 5000000) ∧ ∃ A' c', xs[j * 4]? = some (.int .i64 f.no) ∧ xs[j * 4 + 1]? = some (.int .i64 f.ty) ∧ xs[j * 4 + 2]? = some (.int .u64 (f.num : Int)) ∧ xs[j * 4 + 3]? = some (.slice A' f.data.length c') ∧
    Own w g 5 (.slice A' f.data.length c') f.data ∧ ∀ k, (Value.slice A' f.data.length c').ownBlock = some k → (Value.slice A l.length c).ownBlock ≠ some k
theorem Ud.nil (w : World) (g : Nat) : Ud w g [] none 0 [] := ⟨World.ownsRow_nil _ _ _ _, fun j f h => by simp at h⟩
theorem Ud.grown {w w' : World} {g : Nat} {l : List Ep.Fd} {A : Option Addr} {c : Nat} {xs : List Value} {row : Option Nat} (h : Ud w g l A c xs) (hg : w.grownBy w' row) (hr : ∀ k, row = some k → k < g) : Ud w' g l A c xs := by
  have hne : ∀ (v : Value), (∀ k, v.ownBlock = some k → g ≤ k) → v.ownBlock = none ∨ v.ownBlock ≠ row := fun v hv => by
    cases hvb : v.ownBlock with
    | none => exact .inl rfl
    | some b => exact .inr (fun e => by have := hv b hvb; have := hr b e.symm; omega)
  refine ⟨h.row.kept hg (hne _ fun k e => (World.ownsRow.lt h.row k e).1), fun j f hf => ?_⟩
  obtain ⟨g0, A', c', g1, g2, g3, g4, g5, g6⟩ := h.fld j f hf
  exact ⟨g0, A', c', g1, g2, g3, g4, g5.kept hg (hne _ fun k e => (g5.lt k e).1), g6⟩
theorem Ud.below {w w' : World} {g : Nat} {l : List Ep.Fd} {A : Option Addr} {c : Nat} {xs : List Value} (h : Ud w g l A c xs) (hb : Below w.heap.size w w') : Ud w' g l A c xs := h.grown (grown_below hb none) (fun k e => by cases e)
theorem Ud.step {w6 w8 : World} {g : Nat} {l : List Ep.Fd} {A A' : Option Addr} {c c' : Nat} {xs : List Value} (h : Ud w6 g l A c xs) (f : Ep.Fd) (Af : Option Addr) (cf : Nat) (hf : f.num < 18446744073709551616 ∧ f.data.length ≤ 5000000)
    (hd : Own w6 g 5 (.slice Af f.data.length cf) f.data) (hdr : ∀ k, (Value.slice Af f.data.length cf).ownBlock = some k → (Value.slice A l.length c).ownBlock ≠ some k)
    (h8 : w8.ownsRow g 140 4 (.slice A' (l.length + 1) c') (l.length + 1) (xs ++ [.int .i64 f.no, .int .i64 f.ty, .int .u64 (f.num : Int), .slice Af f.data.length cf]))
    (h68 : w6.grownBy w8 (Value.slice A l.length c).ownBlock) (hown : (Value.slice A' (l.length + 1) c').ownBlock = (Value.slice A l.length c).ownBlock ∨ (Value.slice A' (l.length + 1) c').ownBlock = some (w6.heap.size + 1)) :
    Ud w8 g (l ++ [f]) A' c' (xs ++ [.int .i64 f.no, .int .i64 f.ty, .int .u64 (f.num : Int), .slice Af f.data.length cf]) := by
  have hlen : xs.length = l.length * 4 := h.row.1
  have hl1 : (l ++ [f]).length = l.length + 1 := by simp
  have keep : ∀ (v : Value) (d : List UInt8), Own w6 g 5 v d → (∀ k, v.ownBlock = some k → (Value.slice A l.length c).ownBlock ≠ some k) → Own w8 g 5 v d ∧ ∀ k, v.ownBlock = some k → (Value.slice A' (l.length + 1) c').ownBlock ≠ some k := fun v d ho hne => by
    constructor
    · refine ho.kept h68 ?_
      cases hvb : v.ownBlock with
      | none => exact .inl rfl
      | some b => exact .inr (fun e => hne b hvb e.symm)
    · intro k hk e
      rcases hown with h1 | h1
      · exact hne k hk (h1 ▸ e)
      · rw [h1] at e
        cases e
        have := (ho.lt _ hk).2
        omega
  refine ⟨by rw [hl1]; exact h8, fun j u hu => ?_⟩
  rw [hl1]
  by_cases hji : j = l.length
  · subst hji
    obtain rfl : u = f := by simpa using hu.symm
    have e : ∀ q, q < 4 → (xs ++ [Value.int .i64 u.no, .int .i64 u.ty, .int .u64 (u.num : Int), .slice Af u.data.length cf])[l.length * 4 + q]? = [Value.int .i64 u.no, .int .i64 u.ty, .int .u64 (u.num : Int), .slice Af u.data.length cf][q]? := fun q hq => by
      rw [List.getElem?_append_right (by omega)]; congr 1; omega
    obtain ⟨k1, k2⟩ := keep _ _ hd hdr
    exact ⟨hf, Af, cf, e 0 (by omega), e 1 (by omega), e 2 (by omega), e 3 (by omega), k1, k2⟩
  · have hjl : j < l.length := by
      have := (List.getElem?_eq_some_iff.1 hu).1
      simp at this
      omega
    rw [List.getElem?_append_left hjl] at hu
    obtain ⟨g0, Aj, cj, g1, g2, g3, g4, g5, g6⟩ := h.fld j u hu
    have e : ∀ q v, q < 4 → xs[j * 4 + q]? = some v → (xs ++ [Value.int .i64 f.no, .int .i64 f.ty, .int .u64 (f.num : Int), .slice Af f.data.length cf])[j * 4 + q]? = some v := fun q v hq hv => by
      rw [List.getElem?_append_left (by omega)]; exact hv
    obtain ⟨k1, k2⟩ := keep _ _ g5 g6
    exact ⟨g0, Aj, cj, e 0 _ (by omega) g1, e 1 _ (by omega) g2, e 2 _ (by omega) g3, e 3 _ (by omega) g4, k1, k2⟩
/-- Between two rounds of Decode's closure. -/
def JD (W : World) (B : Nat) (pre : List Ep.Fd) (w : World) : Prop :=
  Below W.heap.size W w ∧ ∃ A c xs, Pa.hp w B = some (.cells #[.slice A pre.length c] 135 (0, 0)) ∧ Ud w (B + 1) pre A c xs
theorem JD.below {W : World} {B : Nat} {pre : List Ep.Fd} {w w' : World} (h : JD W B pre w) (hb : Below w.heap.size w w') : JD W B pre w' := by
  obtain ⟨h1, A, c, xs, h2, h3⟩ := h
  exact ⟨h1.trans (hb.mono h1.size), A, c, xs, Gh.below_hp h2 hb, h3.below hb⟩
set_option maxHeartbeats 2000000 in
set_option maxRecDepth 100000 in
theorem tell (W : World) (B : Nat) (hB : W.heap.size ≤ B) : TellD B (JD W B) := by
  intro pre f dv wr w3 g hj hb hg hc hlen hn hd ho hdg
  obtain ⟨hW, A, c, xs, hbx, hu⟩ := hj
  have hBr : B < wr.heap.size := (Array.getElem?_eq_some_iff.1 hbx).1
  have hs3 := hb.size
  have hbx3 := Gh.below_hp hbx hb
  have hu3 := hu.below hb
  have hW3 := hW.trans (hb.mono hW.size)
  have hrow : ∀ k, (Value.slice A pre.length c).ownBlock = some k → B + 1 ≤ k ∧ k < wr.heap.size := fun k e => World.ownsRow.lt hu.row k e
  obtain ⟨Ad, cd, rfl⟩ := ho.slice
  obtain ⟨w5, hw5⟩ : ∃ y, y = w3.alloc (.cells #[.int .i64 f.no, .int .i64 f.ty, .int .u64 (f.num : Int), .slice Ad f.data.length cd] 140) := ⟨_, rfl⟩
  have hb5 : Below w3.heap.size w3 w5 := by rw [hw5]; exact vb _ _
  have hs5 : w5.heap.size = w3.heap.size + 1 := by rw [hw5]; simp
  have hf5 : Pa.hp w5 w3.heap.size = some (.cells #[.int .i64 f.no, .int .i64 f.ty, .int .u64 (f.num : Int), .slice Ad f.data.length cd] 140 (0, 0)) := by rw [hw5]; exact hp_alloc_at _ _ rfl
  have hbx5 := Gh.below_hp hbx3 hb5
  obtain ⟨A', c', w8, hap, hrow8, hs8, hos, htp, hou, hk8, hown8⟩ := pushF (hu3.row.kept (grown_below hb5 none) (by cases (Value.slice A pre.length c).ownBlock <;> simp)) (by omega) (by omega) (.int .i64 f.no) (.int .i64 f.ty) (.int .u64 (f.num : Int)) (.slice Ad f.data.length cd) (by intro u hu; simp at hu; rcases hu with rfl | rfl | rfl | rfl <;> rfl)
  have hg58 : w5.grownBy w8 (Value.slice A pre.length c).ownBlock := ⟨hos, htp, hou, by omega, fun b hb hne => hk8 b hb (fun e => hne e.symm)⟩
  have hu5 := hu3.below hb5
  have hud := hu5.step f Ad cd ⟨hn, by omega⟩ ((ho.below hb5).mono (by omega)) (fun k hk e => by have := (ho.lt k hk).1; have := (hrow k e).2; omega) hrow8 hg58 hown8
  have hbx8 : Pa.hp w8 B = some (.cells #[.slice A pre.length c] 135 (0, 0)) := (hk8 B (by omega) (fun e => by have := (hrow B e).1; omega)).trans hbx5
  have hfin : JD W B (pre ++ [f]) (w8.setCell ⟨B, 0, none⟩ (.slice A' (pre.length + 1) c')) := by
    have hg := grown_set w8 B 0 (.slice A' (pre.length + 1) c')
    refine ⟨?_, A', c', _, ?_, hud.grown hg (fun k e => by cases e; omega)⟩
    · have h1 : Below W.heap.size W w8 := (hW3.trans (hb5.mono hW3.size)).grown hg58 (by have := hW3.size; omega) (fun k e => by have := (hrow k e).1; omega)
      exact h1.setCell hB _
    · rw [List.length_append, List.length_singleton]
      exact heap_setCell_same w8 B 0 _ _ _ hbx8
  have hgk : Pa.hp (w8.setCell ⟨B, 0, none⟩ (.slice A' (pre.length + 1) c')) g = Pa.hp w3 g := by
    have hg3 := (Array.getElem?_eq_some_iff.1 hc).1
    rw [hp_setCell_other _ _ _ (by simp; omega)]
    rw [show Pa.hp w8 g = Pa.hp w5 g from hk8 g (by omega) (fun e => by have := (hrow g e).2; omega)]
    exact hb5.hp _ hg3
  have hc5 := fun i => hp_cell hf5 i
  have hc5b := fun i => hp_cell hbx5 i
  have hc8 := fun i => hp_cell hbx8 i
  have hf8 := fun i => hp_frozen hbx8 i
  have HF := Lib.hid hfin; have HG := Lib.hid hgk
  have hsz : w3.heap.size ≤ (w8.setCell ⟨B, 0, none⟩ (.slice A' (pre.length + 1) c')).heap.size := by have := (grown_set w8 B 0 (.slice A' (pre.length + 1) c')).size; omega
  have HSZ := Lib.hid hsz
  clear hsz
  have hs9 : w5.heap.size ≤ w8.heap.size := by omega
  clear hg58 hu5 hud hbx8 hfin hgk hu3 hW hW3 hb hb5 hbx hbx3 hbx5 hf5 hk8 hown8 hos htp hou hrow8 hc ho hrow hs3 hs5 hs8
  unfold fval
  go_enter Tryz.func131, Tryz.ntmps131
  go_upto_region 1 with fail
  rw [← hw5]
  clear hw5
  go_wp2_with fail
  all_goals go_ret
  all_goals exact ⟨rfl, HF.out, HG.out, HSZ.out⟩
theorem wAt_ok {b : List UInt8} (h : wErr b = 0) : wAt b = 0 := by
  unfold wErr at h; unfold wAt
  split
  · rfl
  · rename_i hl
    rw [if_neg hl] at h
    rw [if_pos h]
set_option maxHeartbeats 2000000 in
set_option maxRecDepth 100000 in
/-- wire.Decode: the fields, or what is wrong and where. -/
theorem decode (v : Value) (b : List UInt8) (W : World) (hv : Rd W v b) (hb : b.length ≤ 150000000000000) :
    Calls Tryz.prog 98 #[v] W fun e w' => ∃ v', e = .returned (.tuple #[v', .int .i64 (wAt b), .int .i64 (wErr b)]) ∧ Below W.heap.size W w' ∧
      (wErr b = 0 → ∃ A c xs, v' = .slice A (D b 0 0).fs.length c ∧ Ud w' (W.heap.size + 1) (D b 0 0).fs A c xs) := by
  obtain ⟨w1, hw1⟩ : ∃ y, y = W.alloc (.cells #[.slice none 0 0] 135) := ⟨_, rfl⟩
  have hb1 : Below W.heap.size W w1 := by rw [hw1]; exact vb _ _
  have hg1 : Pa.hp w1 W.heap.size = some (.cells #[.slice none 0 0] 135 (0, 0)) := by rw [hw1]; exact hp_alloc_at _ _ rfl
  have hj0 : JD W W.heap.size [] w1 := ⟨hb1, none, 0, [], hg1, Ud.nil _ _⟩
  have WD := Lib.hid (walkD v b W.heap.size (JD W W.heap.size) (fun _ _ _ h k => h.below k) (fun _ w h => hv.below h.1) (tell W W.heap.size (Nat.le_refl _)) w1 hj0 hb)
  have hz := @wAt_ok b
  generalize hE : wErr b = er at *
  generalize hP : wAt b = pl at *
  have HE := Lib.hid hE; have HZ := Lib.hid hz
  clear hE hP hb1 hg1 hj0 hz hv
  go_enter Tryz.func98, Tryz.ntmps98
  go_wp2_with (go_at_call 9999)
  rw [← hw1]
  clear hw1
  go_at_call 130
  refine WD.out.mono ?_
  rintro _ w2 ⟨rfl, hcase⟩
  by_cases h0 : er = 0
  · subst h0
    obtain rfl := HZ.out rfl
    have hj : JD W W.heap.size (D b 0 0).fs w2 := by
      rcases hcase with ⟨hl, -⟩ | ⟨-, wz, hj, hb2⟩
      · have := HE.out
        unfold wErr at this
        rw [if_pos hl] at this
        exact absurd this (by decide)
      · exact hj.below hb2
    obtain ⟨hW2, A, c, xs, hbx, hu⟩ := hj
    have hc2 := fun i => hp_cell hbx i
    have HW2 := Lib.hid hW2; have HU := Lib.hid hu
    clear hcase hbx hW2 hu
    go_wp2_with fail
    go_ret3
    exact ⟨_, rfl, HW2.out, A, c, rfl, xs, HU.out⟩
  · have hW2 : Below W.heap.size W w2 := by
      rcases hcase with ⟨-, hj⟩ | ⟨-, wz, hj, hb2⟩
      · exact hj.1
      · exact hj.1.trans (hb2.mono hj.1.size)
    have HW2 := Lib.hid hW2
    clear hcase hW2
    go_wp2_with fail
    go_ret3
    exact ⟨_, rfl, HW2.out, fun h => absurd h h0⟩
end Go.Proofs.YtinngljphjdpoaaGreatDoor.Gd
