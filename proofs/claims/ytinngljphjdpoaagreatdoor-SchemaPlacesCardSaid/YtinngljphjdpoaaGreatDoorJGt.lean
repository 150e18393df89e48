/- The program's walk through a message's fields, by a loop over a function. -/
import Derived.Test.YtinngljphjdpoaaGreatDoorJGd
import Derived.RangeFuncNested
import Derived.RangeFuncBound
import Derived.RangeFuncCalls
import Derived.RangeFuncLeaves
import Derived.WalkKit
import Derived.OwnWalkIn
import Derived.TacticsInMore
import Derived.LoopNIn
import Derived.LoopIn
import Derived.Test.YtinngljphjdpoaaGreatDoorJYa
namespace Go.Proofs.YtinngljphjdpoaaGreatDoor.Gy
open Go Go.RowKit Go.Proofs.YtinngljphjdpoaaGreatDoor.Pa Go.Proofs.YtinngljphjdpoaaGreatDoor.Pb Go.Proofs.YtinngljphjdpoaaGreatDoor.Pf Go.Proofs.YtinngljphjdpoaaGreatDoor.Nz Go.Proofs.YtinngljphjdpoaaGreatDoor.Nm Go.Proofs.YtinngljphjdpoaaGreatDoor.Ea Go.Proofs.YtinngljphjdpoaaGreatDoor.Gp Go.Proofs.YtinngljphjdpoaaGreatDoor.Gn Go.Proofs.YtinngljphjdpoaaGreatDoor.Gh Go.Proofs.YtinngljphjdpoaaGreatDoor.Gs Go.Proofs.YtinngljphjdpoaaGreatDoor.Gv Go.Proofs.YtinngljphjdpoaaGreatDoor.Hp Go.Proofs.YtinngljphjdpoaaGreatDoor.Hq Go.Proofs.YtinngljphjdpoaaGreatDoor.Gw
set_option linter.unusedVariables false
set_option linter.unusedSimpArgs false
theorem at13 {P : Program} {ops : Array Oper} {y : Code} {n : Nat} {Q : Exit → Act → World → Prop} {a : Act} {w : World} (h : ∀ K : Act → World → Prop, (∀ a w, y.wp P Q a w → K a w) → (Code.region 13 ops false).wpIn Fence.wide n P (Exit.then K Q) a w) : (Code.seq (Code.region 13 ops false) y).wp P Q a w :=
  wpIn_wide.1 (wpIn_seq_k (n := n) fun K hK => h K fun a w hy => hK a w (wpIn_wide.2 hy))
/-- What a round of the loop does. -/
def TellY (m lp : Nat) (b : List UInt8) (J : List Ep.Fd → World → Prop) : Prop :=
  ∀ (pre : List Ep.Fd) (f : Ep.Fd) (dv : Value) (wr w3 : World) (g : Nat), J pre wr → Below wr.heap.size wr w3 → wr.heap.size ≤ g →
    Pa.hp w3 g = some (.cells #[.int .i64 f.no, .int .i64 f.ty, .int .u64 (f.num : Int), dv] 140 (0, 0)) → pre.length < 64 → (∃ t, (D b 0 0).fs = pre ++ [f] ++ t) → f.num < 18446744073709551616 → f.data.length ≤ 4194304 →
    Pb.Own w3 wr.heap.size 5 dv f.data → dv.ownBlock ≠ some g →
    YieldAt Fence.wide m Tryz.prog lp #[.int .i64 ((Ep.bytes pre).length : Int), fval f dv] w3 fun e w4 => e = .returned (.bool true) ∧ J (pre ++ [f]) w4 ∧ Pa.hp w4 g = Pa.hp w3 g ∧ w3.heap.size ≤ w4.heap.size
set_option maxHeartbeats 2000000 in
set_option maxRecDepth 100000 in
theorem walkY (m lp : Nat) (v : Value) (b : List UInt8) (J : List Ep.Fd → World → Prop) (hJb : ∀ pre w w', J pre w → Below w.heap.size w w' → J pre w') (hJr : ∀ pre w, J pre w → Rd w v b) (hT : TellY m lp b J) (w : World) (h0 : J [] w) (hb : b.length ≤ 100000000) :
    Calls Tryz.prog 130 #[v, .func (.yield lp) #[] #[]] w fun e' w' => e' = .returned (.tuple #[.int .i64 (wAt b), .int .i64 (wErr b)]) ∧
      ((4194304 < b.length ∧ J [] w') ∨ (b.length ≤ 4194304 ∧ ∃ wz, J (D b 0 0).fs wz ∧ Below wz.heap.size wz w')) := by
  obtain ⟨A, c, rfl, -⟩ := id (hJr [] w h0)
  obtain ⟨er, hE⟩ : ∃ y, y = wErr b := ⟨_, rfl⟩
  obtain ⟨pl, hP⟩ : ∃ y, y = wAt b := ⟨_, rfl⟩
  rw [← hE, ← hP]
  have HE := Lib.hid hE; have HP := Lib.hid hP; have HJ := Lib.hid h0; have HT := Lib.hid hT; have HJB := Lib.hid hJb; have HJR := Lib.hid hJr; have HBL := Lib.hid hb
  clear hE hP h0 hT hJb hJr
  by_cases hlong : 4194304 < b.length
  · have hE : er = 2 := by rw [HE.out]; unfold wErr; rw [if_pos hlong]
    have hP : pl = 0 := by rw [HP.out]; unfold wAt; rw [if_pos hlong]
    subst hE hP
    have hl : 4194304 < (b.length : Int) := by omega
    go_enter Tryz.func130, Tryz.ntmps130
    go_wp2_with fail
    go_step3
    go_wp2_with fail
    rw [Exit.noGoto_ret]
    go_ret2
    exact ⟨rfl, .inl ⟨hlong, HJ.out⟩⟩
  · have hE : er = (D b 0 0).err := by rw [HE.out]; unfold wErr; rw [if_neg hlong]
    have hP : pl = if (D b 0 0).err = 0 then 0 else (((Ep.bytes (D b 0 0).fs).length + (D b 0 0).off : Nat) : Int) := by rw [HP.out]; unfold wAt; rw [if_neg hlong]
    have HE := Lib.hid hE; have HP := Lib.hid hP; clear hE hP
    have hl : (b.length : Int) ≤ 4194304 := by omega
    have HL := Lib.hid hlong; clear hlong
    go_enter Tryz.func130, Tryz.ntmps130
    go_wp2_with fail
    go_step3
    go_wp2_with fail
    go_step3
    go_wp2_with fail
    go_loopw [6, 7, 8] (fun t s u wr => ∃ (p : Nat) (pre : List Ep.Fd) (last : Int), t = .int .i64 pre.length ∧ s = .int .i64 last ∧ u = .int .i64 p ∧ Far b p pre last ∧ J pre wr) (fun _ _ u _ => b.length - (intOf u).toNat)
    case atStart => exact ⟨0, [], 0, rfl, rfl, rfl, Far.zero b, HJ.out⟩
    case round =>
      obtain ⟨p, pre, last, rfl, rfl, rfl, hfar, hj⟩ := hrel
      have FAR := Lib.hid hfar; have HJW := Lib.hid hj
      have hpl := hfar.le
      clear hfar hj
      by_cases hend : p = b.length
      · subst hend
        obtain ⟨hfs, herr⟩ := FAR.out.done
        have hE : er = 0 := by rw [HE.out, herr]
        have hP : pl = 0 := by rw [HP.out, if_pos herr]
        subst hE hP
        have HFS := Lib.hid hfs
        clear hfs herr HE HP
        go_wp2_with fail
        rw [Exit.noGoto_ret]
        go_ret2
        exact ⟨rfl, .inr ⟨by omega, wr, by rw [HFS.out]; exact HJW.out, Below.refl _ _⟩⟩
      · have hlt : p < b.length := by omega
        have hlti : (p : Int) < (b.length : Int) := by omega
        obtain ⟨e1, no, ty, k1, hh⟩ : ∃ e1 no ty k1, Gp.head (b.drop p) pre.length last = (e1, no, ty, k1) := ⟨_, _, _, _, rfl⟩
        have HEAD := Lib.hid (head _ b p wr (HJR.out pre wr HJW.out) hpl HBL.out pre.length FAR.out.cnt last FAR.out.l0 FAR.out.l1 e1 no ty k1 hh)
        have HH := Lib.hid hh
        clear hh hend
        go_wp2_with (go_at_call 9999)
        go_at_call 150
        refine HEAD.out.mono ?_
        rintro _ w1 ⟨rfl, b1⟩
        have HB1 := Lib.hid b1; clear b1 HEAD
        by_cases h1 : e1 = 0
        · subst h1
          have hq : headEnd 0 p k1 = ((p + k1 : Nat) : Int) := rfl
          rw [hq]
          clear hq
          have hok := head_ok HH.out
          simp only [List.length_drop] at hok
          obtain ⟨w2, hw2⟩ : ∃ y, y = w1.alloc (.cells #[.int .i64 (no : Int), .int .i64 (ty : Int), .int .u64 0, .slice none 0 0] 140) := ⟨_, rfl⟩
          have hg2 : Pa.hp w2 w1.heap.size = some (.cells #[.int .i64 (no : Int), .int .i64 (ty : Int), .int .u64 0, .slice none 0 0] 140 (0, 0)) := by rw [hw2]; exact hp_alloc_at _ _ rfl
          have hb2 : Below wr.heap.size wr w2 := by rw [hw2]; exact HB1.out.trans ((vb _ _).mono HB1.out.size)
          have hs2 : w2.heap.size = w1.heap.size + 1 := by rw [hw2]; simp
          obtain ⟨e2, num, data, k2, hv⟩ : ∃ e2 num data k2, Gp.val ty ((b.drop p).drop k1) = (e2, num, data, k2) := ⟨_, _, _, _, rfl⟩
          have hvg : (Value.slice A b.length c).ownBlock ≠ some w1.heap.size := by
            intro e
            obtain ⟨ad, rfl, hc⟩ := (HJR.out pre wr HJW.out).at_ p hlt
            simp only [Value.ownBlock, Option.some.injEq] at e
            have := World.block_lt_of_cell? wr _ hc
            rw [show (ad.add p).block = ad.block by unfold Addr.add; split <;> rfl] at this
            have := HB1.out.size
            omega
          have VAL := Lib.hid (value ty hok.2.2.2.2.1 _ b (p + k1) w1.heap.size (no : Int) w2 ((HJR.out pre wr HJW.out).below hb2) (by omega) HBL.out hvg hg2 e2 num data k2 (by rw [← List.drop_drop]; exact hv))
          have HV := Lib.hid hv; have HG2 := Lib.hid hg2; have HB2 := Lib.hid hb2; have HS2 := Lib.hid hs2; have HOK := Lib.hid hok
          clear hv hg2 hb2 hs2 hvg hok
          unfold hv4
          go_wp2_with (go_at_call 9999)
          rw [← hw2]
          clear hw2
          go_at_call 151
          refine VAL.out.mono ?_
          rintro _ w3 ⟨rfl, hgr, hok3⟩
          have hb3 : Below wr.heap.size wr w3 := HB2.out.grown hgr HB2.out.size (fun k e => by cases e; exact HB1.out.size)
          have HB3 := Lib.hid hb3
          by_cases h2 : e2 = 0
          · subst h2
            obtain ⟨dv, hg3, ho3⟩ := hok3 rfl
            have hf := fld_good HH.out HV.out
            obtain ⟨hfar, hk⟩ := FAR.out.step hlt HBL.out hf
            have hfo := fld_ok (o := 0) hf (by simp; have := HBL.out; omega)
            simp only [List.length_drop] at hfo
            have hs2 := HS2.out
            have hs1 := HB1.out.size
            have hdg : dv.ownBlock ≠ some w1.heap.size := fun e => by have := (ho3.lt _ e).1; omega
            have TELL := Lib.hid (HT.out pre ⟨(no : Int), (ty : Int), num, data⟩ dv wr w3 w1.heap.size HJW.out hb3 hs1 hg3 (by have := FAR.out.cnt; omega) ⟨_, hfar.fs⟩ hfo.2.2.2.2.2.2.2.2.2.1 (by have := hfo.2.2.2.2.2.2.2.2.2.2.1; simp only at this ⊢; omega) (ho3.mono (by omega)) hdg)
            have hat : ((Ep.bytes pre).length : Int) = (p : Int) := by rw [← FAR.out.at_]
            rw [hat] at TELL
            have hc3 := fun i => hp_cell hg3 i
            have hz : numEnd 0 (p + k1) k2 = ((p + k1 + k2 : Nat) : Int) := rfl
            have HG3 := Lib.hid hg3; have HFAR := Lib.hid hfar; have HK := Lib.hid hk; have HFO := Lib.hid hfo.2.2.1
            rw [hz]
            clear hz hgr hok3 ho3 hf hfar hk hfo hb3 hs2 hs1 hdg hat hg3
            unfold fval at TELL
            obtain ⟨fn, tm, asg, bd, hy, hR⟩ := TELL.out
            have HR := Lib.hid hR; clear hR
            have HY := Lib.hid hy; clear hy TELL
            iterate 40 (try (first | (refine at13 (n := m + 1) ?_; intro K13 hK13) | go_values | go_skip | go_guarded | go_step | go_upon | go_back | (simp only [Int.not_lt, Int.not_le] at *; go_simp) | (go_values <;> (try go_simp))))
            have hy := HY.out
            gi_wp2
            refine HR.out.mono ?_
            rintro _ w4 ⟨rfl, hj4, hg4, hs4⟩
            have hc4 := fun i => hp_cell (hg4.trans HG3.out) i
            have HJ4 := Lib.hid hj4
            clear hc3 hj4 hg4 hy
            gi_wp2
            go_wp2_with fail
            go_region
            all_goals go_wp2_with fail
            have hcnt := FAR.out.cnt
            have hk := HK.out
            have hkl := HFO.out
            refine ⟨⟨p + (k1 + k2), pre ++ [⟨(no : Int), (ty : Int), num, data⟩], (no : Int), ?_, rfl, ?_, HFAR.out, HJB.out _ _ _ HJ4.out (Below.refl _ _).drew⟩, ?_⟩
            · rw [w64 (by omega) (by omega)]
              simp
            · push_cast; rw [Int.add_assoc]
            · simp only [intOf]; omega
          · have hf := fld_bad2 HH.out HV.out h2
            obtain ⟨hfs, herr, hpo⟩ := FAR.out.bad hlt hf h2
            have hE : er = e2 := by rw [HE.out, herr]
            have hP : pl = ((p + k1 : Nat) : Int) := by rw [HP.out, herr, if_neg h2, hpo]
            subst hE hP
            have HFS := Lib.hid hfs
            generalize numEnd er (p + k1) k2 = z
            clear hfs herr HE HP hf hpo hgr hok3 hb3
            go_wp2_with fail
            all_goals (rw [Exit.noGoto_ret])
            all_goals go_ret2
            all_goals exact ⟨by simp, .inr ⟨by omega, wr, by rw [HFS.out]; exact HJW.out, HB3.out⟩⟩
        · have hf := fld_bad1 HH.out h1
          obtain ⟨hfs, herr, hpo⟩ := FAR.out.bad hlt hf h1
          have hE : er = e1 := by rw [HE.out, herr]
          have hP : pl = (p : Int) := by rw [HP.out, herr, if_neg h1, hpo]; simp
          have hq : headEnd e1 p k1 = (p : Int) := by unfold headEnd; rw [if_neg h1]
          rw [hq]
          subst hE hP
          unfold hv4
          have HFS := Lib.hid hfs
          clear hfs herr HE HP hq hf hpo
          go_wp2_with fail
          all_goals (rw [Exit.noGoto_ret])
          all_goals go_ret2
          all_goals exact ⟨rfl, .inr ⟨by omega, wr, by rw [HFS.out]; exact HJW.out, HB1.out.trans ((vb _ _).mono HB1.out.size)⟩⟩
end Go.Proofs.YtinngljphjdpoaaGreatDoor.Gy
/- The statement 'range over a function', where every round goes on, and the function may write cells of its own and of its caller's. -/
namespace Go.Proofs.YtinngljphjdpoaaGreatDoor.Rl
open Go Go.RowKit
set_option linter.unusedVariables false
set_option linter.unusedSimpArgs false
variable {P : Program} {α : Type}
/-- What is told of the function that is ranged over: it hands each x that fits to a round, turns cells alone (Ab), leans on what a round keeps (Kp), and in the end Fin holds of what it handed out. -/
def Gives (P : Program) (m gf : Nat) (lb : Array Value) (encs : α → Array Value) (Ab Kp : World → World → Prop) (Ok : List α → α → World → Prop) (Fin : List α → World → Prop) (w0 : World) : Prop :=
  ∀ (l : Nat) (J : List α → World → Prop) (W : World), Below w0.heap.size w0 W → (∀ s A B, J s A → Ab A B → J s B) →
    (∀ pre x A, J pre A → Ok pre x A → YieldAt Fence.wide m P l (encs x) A fun e B => e = .returned (.bool true) ∧ J (pre ++ [x]) B ∧ Kp A B) → J [] W →
    Calls P gf (#[.func (.yield l) #[] #[]] ++ lb) W fun e B => (∃ v, e = .returned v) ∧ ∃ xs, Fin xs B ∧ J xs B
/-- How a round's body ends: at its end alone. -/
def roundEnd (Kp : World → World → Prop) (I : List α → World → Prop) (xs : List α) (A : World) : Exit → Act → World → Prop
  | .normal, _, B => KeepsOthers A B ∧ Kp A B ∧ I xs B
  | _, _, _ => False
theorem rangeLaw {g : Operand} {ps : Array Tmp} {assign body : Code} {Q : Exit → Act → World → Prop} {a : Act} {w : World} {m gf : Nat} {lb : Array Value}
    (hg : a.eval g = .func (.func gf) #[] lb) (eg : ∀ args w, (callFunc gf args).run P w = .ok (.enter gf args) w)
    {encs : α → Array Value} (hps : ∀ x, (encs x).size = ps.size) {Ab Kp : World → World → Prop} {Ok : List α → α → World → Prop} {Fin : List α → World → Prop}
    (hAb : ∀ A B (r : Nat) (o : Obj), Ab A B → A.heap[r]? = some o → o.isCells = false → B.heap[r]? = some o)
    (hseq : Gives P m gf lb encs Ab Kp Ok Fin w)
    (hKt : ∀ A B C, Kp A B → Kp B C → Kp A C) (hKput : ∀ (A : World) (r : Nat) (o o' : Obj), A.heap[r]? = some o → o.isCells = false → Kp A (A.putObj r o'))
    (I : List α → World → Prop) (hIab : ∀ s A B, I s A → Ab A B → I s B) (hIput : ∀ s (A : World) (r : Nat) (o o' : Obj), w.heap.size ≤ r → I s A → A.heap[r]? = some o → o.isCells = false → I s (A.putObj r o'))
    (h0 : ∀ o o' : Obj, I [] ((w.alloc o).alloc o')) (a₁ : α → Act)
    (hassign : ∀ (l : Nat) (x : α) (A : World) (K : Act → World → Prop), K (a₁ x) A → assign.wpIn (Fence.wide.inRound l) m P (Exit.then K (fun _ _ _ => False)) { tmps := (ps.zip (encs x)).foldl (fun t (p, v) => t.setIfInBounds p v) a.tmps, defers := [] } A)
    (hbody : ∀ (l : Nat) (pre : List α) (x : α) (A : World), I pre A → Ok pre x A → body.wpIn (Fence.wide.inRound l) m P (roundEnd Kp I (pre ++ [x]) A) (a₁ x) A)
    (hOput : ∀ pre x (A : World) (r : Nat) (o o' : Obj), Ok pre x A → A.heap[r]? = some o → o.isCells = false → Ok pre x (A.putObj r o'))
    (hFput : ∀ xs (A : World) (r : Nat) (o o' : Obj), Fin xs A → A.heap[r]? = some o → o.isCells = false → Fin xs (A.putObj r o'))
    (hdone : ∀ (D : Nat) (xs : List α) (B : World), w.heap.size ≤ D → Fin xs B → I xs B → B.heap[D]? = some (.deferred (some [])) → Q .normal { a with defers := { target := .collected D, args := #[] } :: a.defers } B) :
    (Code.rangeFunc g ps assign body).wp P Q a w := by
  refine wpIn_wide (n := m + 1).1 (wpIn_rangeFunc ?_)
  intro fn hfn
  obtain ⟨rec, hrec⟩ : ∃ rec : LoopState → Option Code → Loop, ∀ s p, rec s p = { state := s, pending := p, fn := fn, tmps := a.tmps, params := ps, assign := assign, body := body, defers := w.heap.size } := ⟨_, fun _ _ => rfl⟩
  obtain ⟨W1, hW1⟩ : ∃ y, y = (w.alloc (.deferred (some []))).alloc (.loop (rec .ready none)) := ⟨_, rfl⟩
  have hl1 : W1.heap[w.heap.size + 1]? = some (.loop (rec .ready none)) := by
    have := World.alloc_heap_new (w.alloc (.deferred (some []))) (.loop (rec .ready none))
    rw [World.size_alloc] at this
    rw [hW1]; exact this
  have hd1 : W1.heap[w.heap.size]? = some (.deferred (some [])) := by
    rw [hW1]; exact (Below.heap_alloc _ _ _ (by simp)).trans (World.alloc_heap_new w _)
  have hb1 : Below w.heap.size w W1 := by
    rw [hW1]; exact ((Below.refl _ w).alloc (Nat.le_refl _) _).alloc (by simp) _
  have hi1 : I [] W1 := by rw [hW1]; exact h0 _ _
  refine ⟨w.heap.size + 1, [{ target := .collected w.heap.size, args := #[] }], W1, { target := .fn (.func gf) lb, args := #[.func (.yield (w.heap.size + 1)) #[] #[]] }, W1, gf,
    #[.func (.yield (w.heap.size + 1)) #[] #[]] ++ lb, W1, ?_, ?_, fun _ _ => trivial, ?_, fun _ => by omega, ?_⟩
  · rw [hW1, hrec]
    exact run_enterLoop_outer fn a.tmps ps assign body
  · simp only [resolve, hg]
    simp [go_sem]
  · simp [invoke, go_sem, eg]
  · refine callsIn_wide.2 ((hseq (w.heap.size + 1) (fun pre A => I pre A ∧ A.heap[w.heap.size + 1]? = some (.loop (rec .ready none)) ∧ A.heap[w.heap.size]? = some (.deferred (some []))) W1 hb1 ?_ ?_ ⟨hi1, hl1, hd1⟩).mono ?_)
    · rintro s A B ⟨h1, h2, h3⟩ hab
      exact ⟨hIab s A B h1 hab, hAb A B _ _ hab h2 rfl, hAb A B _ _ hab h3 rfl⟩
    · rintro pre x A ⟨h1, h2, h3⟩ hok
      have hy := run_yield (P := P) (args := encs x) h2 (by rw [hrec]; exact hps x)
      rw [hrec] at hy
      have hlt := (Array.getElem?_eq_some_iff.1 h2).1
      refine ⟨fn, _, assign, body, hy, roundIn_of_wpIn trivial (hassign _ x A _ ⟨_, run_beginRound h2 (by rw [hrec]), ?_⟩)⟩
      have g2 : (A.putObj (w.heap.size + 1) (.loop { rec .ready none with state := .busy })).heap[w.heap.size + 1]? = some (.loop { rec .ready none with state := .busy }) := World.putObj_heap_same hlt
      have g3 : (A.putObj (w.heap.size + 1) (.loop { rec .ready none with state := .busy })).heap[w.heap.size]? = some (.deferred (some [])) := (World.putObj_heap_other (by omega)).trans h3
      refine wpIn_mono (hbody _ pre x _ (hIput _ _ _ _ _ (by omega) h1 h2 rfl) (hOput _ _ _ _ _ _ hok h2 rfl)) ?_
      intro e a3 B hp
      cases e with
      | normal =>
        obtain ⟨hk, hkp, hi⟩ := hp
        have q2 := hk.same _ _ g2 rfl
        have q3 := hk.same _ _ g3 rfl
        have hend := run_endRound (P := P) none q2
        have hqlt := (Array.getElem?_eq_some_iff.1 q2).1
        refine ⟨_, _, hend, rfl, ⟨hIput _ _ _ _ _ (by omega) hi q2 rfl, ?_, (World.putObj_heap_other (by omega)).trans q3⟩, hKt _ _ _ (hKput _ _ _ _ h2 rfl) (hKt _ _ _ hkp (hKput _ _ _ _ q2 rfl))⟩
        rw [World.putObj_heap_same hqlt, hrec]
        rfl
      | _ => exact hp.elim
    · rintro e B ⟨⟨v, rfl⟩, xs, hf, hi, hl, hd⟩
      refine ⟨none, _, by have := run_endLoop (P := P) hl (by rw [hrec]; simp); rw [hrec] at this; exact this, ?_⟩
      exact hdone _ xs _ (Nat.le_refl _) (hFput _ _ _ _ _ hf hl rfl) (hIput _ _ _ _ _ (by omega) hi hl rfl) ((World.putObj_heap_other (by omega)).trans hd)
end Go.Proofs.YtinngljphjdpoaaGreatDoor.Rl
/- Fields: what a range over it is handed. -/
namespace Go.Proofs.YtinngljphjdpoaaGreatDoor.Fs
open Go Go.RowKit Go.Proofs.YtinngljphjdpoaaGreatDoor.Pa Go.Proofs.YtinngljphjdpoaaGreatDoor.Pb Go.Proofs.YtinngljphjdpoaaGreatDoor.Pf Go.Proofs.YtinngljphjdpoaaGreatDoor.Nz Go.Proofs.YtinngljphjdpoaaGreatDoor.Nm Go.Proofs.YtinngljphjdpoaaGreatDoor.Ce Go.Proofs.YtinngljphjdpoaaGreatDoor.Ea Go.Proofs.YtinngljphjdpoaaGreatDoor.Gp Go.Proofs.YtinngljphjdpoaaGreatDoor.Gh Go.Proofs.YtinngljphjdpoaaGreatDoor.Gs Go.Proofs.YtinngljphjdpoaaGreatDoor.Hp Go.Proofs.YtinngljphjdpoaaGreatDoor.Hq Go.Proofs.YtinngljphjdpoaaGreatDoor.Gw Go.Proofs.YtinngljphjdpoaaGreatDoor.Gy Go.Proofs.YtinngljphjdpoaaGreatDoor.Rl
set_option linter.unusedVariables false
set_option linter.unusedSimpArgs false
/-- What a round leaves alone: every cell from n₀ on. -/
def Kp (n0 : Nat) (A B : World) : Prop := A.heap.size ≤ B.heap.size ∧ ∀ (r : Nat) (c : Array Value) (t : TypeId) (fr : Nat × Nat), n0 ≤ r → A.heap[r]? = some (.cells c t fr) → B.heap[r]? = some (.cells c t fr)
theorem Kp.trans {n0 : Nat} {A B C : World} (h : Kp n0 A B) (k : Kp n0 B C) : Kp n0 A C := ⟨Nat.le_trans h.1 k.1, fun r c t fr hr hc => k.2 r c t fr hr (h.2 r c t fr hr hc)⟩
theorem Kp.put {n0 : Nat} (A : World) (r : Nat) (o o' : Obj) (h : A.heap[r]? = some o) (ho : o.isCells = false) : Kp n0 A (A.putObj r o') := by
  refine ⟨by simp [World.putObj], fun q c t fr _ hc => ?_⟩
  by_cases e : q = r
  · subst e
    rw [h] at hc
    cases hc
    cases ho
  · exact (World.putObj_heap_other e).trans hc
theorem Kp.rd {n0 : Nat} {A B : World} (h : Kp n0 A B) {v : Value} {l : List UInt8} (hv : Rd A v l) (hb : ∀ k, v.ownBlock = some k → n0 ≤ k) : Rd B v l := by
  obtain ⟨A', c, rfl, h1, h2, h3⟩ := hv
  refine ⟨A', c, rfl, h1, h2, fun h0 => ?_⟩
  obtain ⟨ad, rfl, hc⟩ := h3 h0
  refine ⟨ad, rfl, fun j u hu => ?_⟩
  have hbl : (ad.add j).block = ad.block := by unfold Addr.add; split <;> rfl
  have hcell := hc j u hu
  have hn := hb ad.block rfl
  unfold World.cell? at hcell ⊢
  rw [hbl] at hcell ⊢
  cases ho : A.heap[ad.block]? with
  | none => simp [ho] at hcell
  | some o =>
    cases o with
    | cells c' t fr =>
      rw [ho] at hcell
      rw [h.2 _ _ _ _ hn ho]
      exact hcell
    | _ => simp [ho] at hcell
/-- The places of fields that stand one behind the other. -/
def pl : Nat → List Ep.Fd → List Int
  | _, [] => []
  | p, f :: t => (p : Int) :: pl (p + (Ep.one f).length) t
theorem pl_snoc : ∀ (l : List Ep.Fd) (f : Ep.Fd) (p : Nat), pl p (l ++ [f]) = pl p l ++ [((p + (Ep.bytes l).length : Nat) : Int)]
  | [], f, p => by simp [pl, Ep.bytes]
  | g :: t, f, p => by
    simp only [List.cons_append, pl, pl_snoc t f, Ep.bytes, List.length_append]
    rw [Nat.add_assoc]
theorem pl_length : ∀ (l : List Ep.Fd) (p : Nat), (pl p l).length = l.length
  | [], _ => rfl
  | f :: t, p => by simp [pl, pl_length t]
/-- A place and a field, as a round is handed them. -/
abbrev Px := Int × Value
def encP (x : Px) : Array Value := #[.int .i64 x.1, x.2]
set_option maxHeartbeats 2000000 in
set_option maxRecDepth 100000 in
theorem gives (m : Nat) (v : Value) (b : List UInt8) (bx : Nat) (w : World) (hbx : Pa.hp w bx = some (.cells #[v] 23 (0, 0))) (hv : Rd w v b) (hb : b.length ≤ 100000000) (he : wErr b = 0) :
    Gives Tryz.prog m 132 #[.pointer (some ⟨bx, 0, none⟩)] encP (fun A B => Below A.heap.size A B) (Kp w.heap.size)
      (fun pre x _ => pre.length < (D b 0 0).fs.length ∧ 0 ≤ x.1 ∧ x.1 ≤ 5000000) (fun xs _ => xs.map (·.1) = pl 0 (D b 0 0).fs) w := by
  intro l J W hW hJ hY hj0
  have hbl : ¬ 4194304 < b.length := by
    intro h
    unfold wErr at he
    rw [if_pos h] at he
    exact absurd he (by decide)
  have hbx1 := Gh.below_hp hbx hW
  have hv1 := hv.below hW
  obtain ⟨A2, c2, w2, hap, ho2, hb2⟩ := run_copy u8 23 hv1 (by omega)
  have hlt := hW.size
  -- between two rounds
  have hown : ∀ k, (Value.slice A2 b.length c2).ownBlock = some k → w.heap.size ≤ k := fun k e => by have := (ho2.lt k e).1; omega
  have WY := Lib.hid (walkY m l (.slice A2 b.length c2) b (fun pre A => ∃ xs : List Px, xs.map (·.1) = pl 0 pre ∧ J xs A ∧ Rd A (.slice A2 b.length c2) b ∧ w.heap.size ≤ A.heap.size)
    (fun pre A B ⟨xs, h1, h2, h3, h4⟩ hAB => ⟨xs, h1, hJ _ _ _ h2 hAB, h3.below hAB, Nat.le_trans h4 hAB.size⟩) (fun pre A ⟨xs, h1, h2, h3, h4⟩ => h3)
    (by
      rintro pre f dv wr w3 g ⟨xs, h1, h2, h3, h4⟩ h5 h6 h7 h8 ⟨t, ht⟩ h9 h10 h11 h12
      have hlen : xs.length = pre.length := by have := congrArg List.length h1; simpa [pl_length] using this
      have hbyt : (Ep.bytes pre).length ≤ b.length := by
        obtain ⟨r, hr⟩ := D_bytes _ b 0 0 rfl hb
        have := congrArg List.length hr
        rw [ht] at this
        have hba : ∀ (x y : List Ep.Fd), Ep.bytes (x ++ y) = Ep.bytes x ++ Ep.bytes y := fun x y => by
          induction x with
          | nil => rfl
          | cons z t ih => simp only [List.cons_append, Ep.bytes, ih, List.append_assoc]
        rw [hba, hba] at this
        simp at this
        omega
      obtain ⟨fn, tm, asg, bd, hy, hR⟩ := hY xs (((Ep.bytes pre).length : Int), fval f dv) w3 (hJ _ _ _ h2 h5) ⟨by rw [hlen, ht]; simp only [List.length_append, List.length_singleton]; omega, by simp only; omega, by simp only; omega⟩
      refine ⟨fn, tm, asg, bd, hy, hR.mono ?_⟩
      rintro e B ⟨rfl, hj, hk⟩
      refine ⟨rfl, ⟨xs ++ [(((Ep.bytes pre).length : Int), fval f dv)], ?_, hj, hk.rd (h3.below h5) hown, ?_⟩, ?_, hk.1⟩
      · rw [pl_snoc, List.map_append, h1]; simp
      · have := h5.size; have := hk.1; omega
      · exact (hk.2 g _ _ _ (by omega) h7).trans h7.symm) w2 ⟨[], rfl, hJ _ _ _ hj0 hb2, ho2.rd, by have := hb2.size; omega⟩ hb)
  have hc1 := fun i => hp_cell hbx1 i
  clear hW hY hj0 hv hbx hbx1 hv1 ho2 hb2
  show Calls Tryz.prog 132 #[.func (.yield l) #[] #[], .pointer (some ⟨bx, 0, none⟩)] W _
  go_enter Tryz.func132, Tryz.ntmps132
  go_wp2_with (go_at_call 9999)
  go_at_call 130
  refine WY.out.mono ?_
  rintro _ w3 ⟨rfl, hcase⟩
  have hfin : ∃ xs : List Px, xs.map (·.1) = pl 0 (D b 0 0).fs ∧ J xs w3 := by
    rcases hcase with ⟨h, -⟩ | ⟨-, wz, ⟨xs, h1, h2, -, -⟩, hbz⟩
    · exact absurd h hbl
    · exact ⟨xs, h1, hJ _ _ _ h2 hbz⟩
  have HF := Lib.hid hfin
  clear hcase hfin hJ hc1 WY
  go_wp2_with fail
  go_end0
  exact ⟨⟨_, rfl⟩, HF.out⟩
end Go.Proofs.YtinngljphjdpoaaGreatDoor.Fs
/- pieces: what a range over a list's items is handed. -/
namespace Go.Proofs.YtinngljphjdpoaaGreatDoor.Gt
open Go Go.RowKit Go.Proofs.YtinngljphjdpoaaGreatDoor.Pa Go.Proofs.YtinngljphjdpoaaGreatDoor.Pb Go.Proofs.YtinngljphjdpoaaGreatDoor.Pf Go.Proofs.YtinngljphjdpoaaGreatDoor.Nz Go.Proofs.YtinngljphjdpoaaGreatDoor.Nm Go.Proofs.YtinngljphjdpoaaGreatDoor.Ce Go.Proofs.YtinngljphjdpoaaGreatDoor.Ea Go.Proofs.YtinngljphjdpoaaGreatDoor.Gp Go.Proofs.YtinngljphjdpoaaGreatDoor.Gn Go.Proofs.YtinngljphjdpoaaGreatDoor.Gh Go.Proofs.YtinngljphjdpoaaGreatDoor.Gs Go.Proofs.YtinngljphjdpoaaGreatDoor.Hp Go.Proofs.YtinngljphjdpoaaGreatDoor.Gq Go.Proofs.YtinngljphjdpoaaGreatDoor.Rl
set_option linter.unusedVariables false
set_option linter.unusedSimpArgs false
/-- What a round leaves alone: the cells below n₁, but for one block. -/
def Kp (n1 bt : Nat) (A B : World) : Prop := A.heap.size ≤ B.heap.size ∧ ∀ (r : Nat) (c : Array Value) (t : TypeId) (fr : Nat × Nat), r < n1 → r ≠ bt → A.heap[r]? = some (.cells c t fr) → B.heap[r]? = some (.cells c t fr)
theorem Kp.trans {n1 bt : Nat} {A B C : World} (h : Kp n1 bt A B) (k : Kp n1 bt B C) : Kp n1 bt A C := ⟨Nat.le_trans h.1 k.1, fun r c t fr hr hne hc => k.2 r c t fr hr hne (h.2 r c t fr hr hne hc)⟩
theorem Kp.put {n1 bt : Nat} (A : World) (r : Nat) (o o' : Obj) (h : A.heap[r]? = some o) (ho : o.isCells = false) : Kp n1 bt A (A.putObj r o') := by
  refine ⟨by simp [World.putObj], fun q c t fr _ _ hc => ?_⟩
  by_cases e : q = r
  · subst e
    rw [h] at hc
    cases hc
    cases ho
  · exact (World.putObj_heap_other e).trans hc
/-- Bytes read as they did where their cells lie as they lay. -/
theorem rd_cells {A B : World} {v : Value} {l : List UInt8} (hv : Rd A v l) (hk : 0 < l.length → ∀ (k : Nat) (c : Array Value) (t : TypeId) (fr : Nat × Nat), v.ownBlock = some k → A.heap[k]? = some (.cells c t fr) → B.heap[k]? = some (.cells c t fr)) : Rd B v l := by
  obtain ⟨A', c, rfl, h1, h2, h3⟩ := hv
  refine ⟨A', c, rfl, h1, h2, fun h0 => ?_⟩
  obtain ⟨ad, rfl, hc⟩ := h3 h0
  refine ⟨ad, rfl, fun j u hu => ?_⟩
  have hbl : (ad.add j).block = ad.block := by unfold Addr.add; split <;> rfl
  have hcell := hc j u hu
  unfold World.cell? at hcell ⊢
  rw [hbl] at hcell ⊢
  cases ho : A.heap[ad.block]? with
  | none => simp [ho] at hcell
  | some o =>
    cases o with
    | cells c' t fr =>
      rw [ho] at hcell
      rw [hk h0 _ _ _ _ rfl ho]
      exact hcell
    | _ => simp [ho] at hcell
/-- A step that turns one block of cells. -/
def St (r : Nat) (A B : World) : Prop := A.grownBy B (some r) ∧ ∃ c t fr, A.heap[r]? = some (.cells c t fr)
def Ab (ba bw : Nat) (A B : World) : Prop := St ba A B ∨ St bw A B
theorem Ab.others {ba bw : Nat} {A B : World} (h : Ab ba bw A B) (r : Nat) (o : Obj) (hr : A.heap[r]? = some o) (ho : o.isCells = false) : B.heap[r]? = some o := by
  have key : ∀ q, St q A B → B.heap[r]? = some o := by
    rintro q ⟨hg, c, t, fr, hc⟩
    have hne : some q ≠ some r := by
      intro e
      cases e
      rw [hr] at hc
      cases hc
      cases ho
    rw [hg.block r (Array.getElem?_eq_some_iff.1 hr).1 (fun e => hne e.symm)]
    exact hr
  rcases h with h | h
  · exact key _ h
  · exact key _ h
theorem own_mid' {A : Option Addr} {n c lo hi : Nat} {k : Nat} (h : (Value.slice (if c = lo then A else A.map (·.add lo)) (hi - lo) (c - lo)).ownBlock = some k) : (Value.slice A n c).ownBlock = some k := by
  cases A with
  | none => split at h <;> simp [Value.ownBlock] at h
  | some ad =>
    have hb : (ad.add lo).block = ad.block := by unfold Addr.add; split <;> rfl
    split at h
    · simpa [Value.ownBlock] using h
    · simpa [Value.ownBlock, hb] using h
theorem at11 {P : Program} {ops : Array Oper} {y : Code} {n : Nat} {Q : Exit → Act → World → Prop} {a : Act} {w : World} (h : ∀ K : Act → World → Prop, (∀ a w, y.wp P Q a w → K a w) → (Code.region 11 ops false).wpIn Fence.wide n P (Exit.then K Q) a w) : (Code.seq (Code.region 11 ops false) y).wp P Q a w :=
  wpIn_wide.1 (wpIn_seq_k (n := n) fun K hK => h K fun a w hy => hK a w (wpIn_wide.2 hy))
/-- An item as a round is handed it. -/
abbrev Ix := Value × List UInt8
def encI (x : Ix) : Array Value := #[x.1]
/-- The cells that the function leans on. -/
structure Held (v : Value) (b : List UInt8) (bx ca cy ba bw : Nat) (why : Int) (A : World) : Prop where
  hx : Pa.hp A bx = some (.cells #[v] 23 (0, 0))
  ha : Pa.hp A ca = some (.cells #[.pointer (some ⟨ba, 0, none⟩)] 158 (0, 0))
  hy : Pa.hp A cy = some (.cells #[.pointer (some ⟨bw, 0, none⟩)] 241 (0, 0))
  hat : ∃ z, Pa.hp A ba = some (.cells #[.int .i64 z] 3 (0, 0))
  hwhy : Pa.hp A bw = some (.cells #[.int .i64 why] 37 (0, 0))
  rd : Rd A v b
theorem Held.below {v : Value} {b : List UInt8} {bx ca cy ba bw : Nat} {why : Int} {A B : World} (h : Held v b bx ca cy ba bw why A) (hb : Below A.heap.size A B) : Held v b bx ca cy ba bw why B := by
  obtain ⟨z, hz⟩ := h.hat
  exact ⟨below_hp h.hx hb, below_hp h.ha hb, below_hp h.hy hb, ⟨z, below_hp hz hb⟩, below_hp h.hwhy hb, h.rd.below hb⟩
theorem Held.setA {v : Value} {b : List UInt8} {bx ca cy ba bw : Nat} {why : Int} {A : World} (h : Held v b bx ca cy ba bw why A) (d1 : bx ≠ ba ∧ bx ≠ bw ∧ ca ≠ ba ∧ ca ≠ bw ∧ cy ≠ ba ∧ cy ≠ bw ∧ ba ≠ bw) (hv : 0 < b.length → ∀ k, v.ownBlock = some k → k ≠ ba) (z : Int) :
    Held v b bx ca cy ba bw why (A.setCell ⟨ba, 0, none⟩ (.int .i64 z)) ∧ Pa.hp (A.setCell ⟨ba, 0, none⟩ (.int .i64 z)) ba = some (.cells #[.int .i64 z] 3 (0, 0)) ∧ St ba A (A.setCell ⟨ba, 0, none⟩ (.int .i64 z)) := by
  obtain ⟨z0, hz⟩ := h.hat
  have h1 := heap_setCell_same A ba 0 _ _ (.int .i64 z) hz
  refine ⟨⟨(hp_setCell_other _ _ _ d1.1).trans h.hx, (hp_setCell_other _ _ _ d1.2.2.1).trans h.ha, (hp_setCell_other _ _ _ d1.2.2.2.2.1).trans h.hy, ⟨z, h1⟩, (hp_setCell_other _ _ _ (Ne.symm d1.2.2.2.2.2.2)).trans h.hwhy, ?_⟩, h1, grown_set _ _ _ _, _, _, _, hz⟩
  exact rd_cells h.rd (fun h0 k c t fr hk hc => (heap_setCell_other _ _ _ _ (hv h0 k hk)).trans hc)
theorem Held.setW {v : Value} {b : List UInt8} {bx ca cy ba bw : Nat} {why : Int} {A : World} (h : Held v b bx ca cy ba bw why A) (d1 : bx ≠ ba ∧ bx ≠ bw ∧ ca ≠ ba ∧ ca ≠ bw ∧ cy ≠ ba ∧ cy ≠ bw ∧ ba ≠ bw) (hv : 0 < b.length → ∀ k, v.ownBlock = some k → k ≠ bw) (z : Int) :
    Held v b bx ca cy ba bw z (A.setCell ⟨bw, 0, none⟩ (.int .i64 z)) ∧ St bw A (A.setCell ⟨bw, 0, none⟩ (.int .i64 z)) ∧ (∀ q, q ≠ bw → Pa.hp (A.setCell ⟨bw, 0, none⟩ (.int .i64 z)) q = Pa.hp A q) := by
  obtain ⟨z0, hz⟩ := h.hat
  have h1 := heap_setCell_same A bw 0 _ _ (.int .i64 z) h.hwhy
  refine ⟨⟨(hp_setCell_other _ _ _ d1.2.1).trans h.hx, (hp_setCell_other _ _ _ d1.2.2.2.1).trans h.ha, (hp_setCell_other _ _ _ d1.2.2.2.2.2.1).trans h.hy, ⟨z0, (hp_setCell_other _ _ _ d1.2.2.2.2.2.2).trans hz⟩, h1, ?_⟩, ⟨grown_set _ _ _ _, _, _, _, h.hwhy⟩, fun q hq => hp_setCell_other _ _ _ hq⟩
  exact rd_cells h.rd (fun h0 k c t fr hk hc => (heap_setCell_other _ _ _ _ (hv h0 k hk)).trans hc)
theorem Held.kp {v : Value} {b : List UInt8} {bx ca cy ba bw bt n1 : Nat} {why : Int} {A B : World} (h : Held v b bx ca cy ba bw why A) (hk : Kp n1 bt A B)
    (n1x : bx < n1 ∧ bx ≠ bt) (n1a : ca < n1 ∧ ca ≠ bt) (n1y : cy < n1 ∧ cy ≠ bt) (n1b : ba < n1 ∧ ba ≠ bt) (n1w : bw < n1 ∧ bw ≠ bt) (n1v : 0 < b.length → ∀ k, v.ownBlock = some k → k < n1 ∧ k ≠ bt) : Held v b bx ca cy ba bw why B := by
  obtain ⟨z0, hz⟩ := h.hat
  exact ⟨hk.2 _ _ _ _ n1x.1 n1x.2 h.hx, hk.2 _ _ _ _ n1a.1 n1a.2 h.ha, hk.2 _ _ _ _ n1y.1 n1y.2 h.hy, ⟨z0, hk.2 _ _ _ _ n1b.1 n1b.2 hz⟩, hk.2 _ _ _ _ n1w.1 n1w.2 h.hwhy, rd_cells h.rd (fun h0 k c t fr hv hc => hk.2 _ _ _ _ (n1v h0 k hv).1 (n1v h0 k hv).2 hc)⟩
/-- What is left in the end. -/
def Fin (b : List UInt8) (ba bw : Nat) (xs : List Ix) (B : World) : Prop :=
  xs.map (·.2) = (Sp b 0).1 ∧ Pa.hp B bw = some (.cells #[.int .i64 (Sp b 0).2] 37 (0, 0)) ∧ ∃ z, Pa.hp B ba = some (.cells #[.int .i64 z] 3 (0, 0)) ∧ ((Sp b 0).2 ≠ 0 → z = ((Ep.jbytes (Sp b 0).1).length : Int))
set_option maxHeartbeats 2000000 in
set_option maxRecDepth 100000 in
theorem gives (m : Nat) (v : Value) (b : List UInt8) (bx ca cy ba bw bt n1 : Nat) (w : World) (hh : Held v b bx ca cy ba bw 0 w) (hb : b.length ≤ 4194304)
    (n1x : bx < n1 ∧ bx ≠ bt) (n1a : ca < n1 ∧ ca ≠ bt) (n1y : cy < n1 ∧ cy ≠ bt) (n1b : ba < n1 ∧ ba ≠ bt) (n1w : bw < n1 ∧ bw ≠ bt) (n1v : 0 < b.length → ∀ k, v.ownBlock = some k → k < n1 ∧ k ≠ bt ∧ k ≠ ba ∧ k ≠ bw)
    (d1 : bx ≠ ba ∧ bx ≠ bw ∧ ca ≠ ba ∧ ca ≠ bw ∧ cy ≠ ba ∧ cy ≠ bw ∧ ba ≠ bw) :
    Gives Tryz.prog m 157 #[.pointer (some ⟨bx, 0, none⟩), .pointer (some ⟨ca, 0, none⟩), .pointer (some ⟨cy, 0, none⟩)] encI (Ab ba bw) (Kp n1 bt)
      (fun pre x A => pre.length < 4096 ∧ Rd A x.1 x.2 ∧ x.2.length ≤ 4194304 ∧ ∀ k, x.1.ownBlock = some k → v.ownBlock = some k) (Fin b ba bw) w := by
  intro l J W hW hJ' hY' hj0
  have hh1 := hh.below hW
  obtain ⟨A, c, rfl, -⟩ := id hh.rd
  have hJ := Lib.hid hJ'; have hY := Lib.hid hY'; have HJ0 := Lib.hid hj0; have HH := Lib.hid hh1
  have D1 := Lib.hid d1; have N1V := Lib.hid n1v; have HB := Lib.hid hb
  clear hJ' hY' hj0 hh1 hh hW d1 n1v
  show Calls Tryz.prog 157 #[.func (.yield l) #[] #[], .pointer (some ⟨bx, 0, none⟩), .pointer (some ⟨ca, 0, none⟩), .pointer (some ⟨cy, 0, none⟩)] W _
  go_enter Tryz.func157, Tryz.ntmps157
  go_wp2_with fail
  go_loopw [5, 6] (fun t s wr => ∃ (p : Nat) (pre : List (List UInt8)) (xs : List Ix), t = .int .i64 pre.length ∧ s = .int .i64 p ∧ Gq.Far b p pre ∧ xs.map (·.2) = pre ∧ J xs wr ∧ Held (.slice A b.length c) b bx ca cy ba bw 0 wr) (fun _ s _ => b.length - (intOf s).toNat)
  case atStart => exact ⟨0, [], [], rfl, rfl, Gq.Far.zero b, rfl, HJ0.out, HH.out⟩
  case round =>
    obtain ⟨p, pre, xs, rfl, rfl, hfar, hxs, hj, hhd⟩ := hrel
    have d1 := D1.out; have n1v := N1V.out
    have FAR := Lib.hid hfar; have HXS := Lib.hid hxs; have HJW := Lib.hid hj; have HHW := Lib.hid hhd
    have hcx := fun i => hp_cell hhd.hx i
    have hca := fun i => hp_cell hhd.ha i
    have hpl := hfar.le
    by_cases hend : p = b.length
    · subst hend
      obtain ⟨q1, q2⟩ := hfar.done
      have hfin : ∃ xs : List Ix, Fin b ba bw xs wr ∧ J xs wr := by
        obtain ⟨z, hz⟩ := hhd.hat
        exact ⟨xs, ⟨by rw [hxs, q1], by rw [q2]; exact hhd.hwhy, z, hz, fun h => absurd q2 h⟩, hj⟩
      have HF := Lib.hid hfin
      clear hfin hhd hj hxs hfar d1 n1v
      go_wp2_with fail
      go_end0
      exact ⟨⟨_, rfl⟩, HF.out⟩
    · have hlt : p < b.length := by omega
      have hlti : (p : Int) < (b.length : Int) := by omega
      obtain ⟨z0, hz0⟩ := hhd.hat
      have hcz := fun i => hp_cell hz0 i
      have hfz := fun i => hp_frozen hz0 i
      obtain ⟨w1, hw1⟩ : ∃ y, y = wr.setCell ⟨ba, 0, none⟩ (.int .i64 (p : Int)) := ⟨_, rfl⟩
      have hs := hhd.setA d1 (fun h0 k hk => (n1v h0 k hk).2.2.1) (p : Int)
      rw [← hw1] at hs
      have HH1 := Lib.hid hs.1; have HA1 := Lib.hid hs.2.1
      have HJ1 := Lib.hid (hJ.out _ _ _ hj (.inl hs.2.2))
      obtain ⟨e1, n, k1, hr⟩ : ∃ e1 n k1, rdn (b.drop p) = (e1, n, k1) := ⟨_, _, _, rfl⟩
      have NUM := Lib.hid (number _ b p w1 hs.1.rd hpl (by have := HB.out; omega) e1 n k1 hr)
      have hcx1 := fun i => hp_cell hs.1.hx i
      have hcy1 := fun i => hp_cell hs.1.hy i
      have hcw1 := fun i => hp_cell hs.1.hwhy i
      have hfw1 := fun i => hp_frozen hs.1.hwhy i
      clear hfar hxs hj hhd hs hz0 hend
      go_wp2_with (go_at_call 9999)
      rw [← hw1]
      clear hw1 hcz hfz
      go_at_call 156
      refine NUM.out.mono ?_
      rintro _ w1' ⟨rfl, hww⟩
      rw [hww]
      clear hww
      by_cases c1 : pre.length = 4096
      · have hit : itm (b.drop p) pre.length = (2, [], 0) := by unfold itm; rw [if_pos c1]
        have herr : (2 : Int) ≠ 0 := by decide
        have c1i : (pre.length : Int) = 4096 := by omega
        have hw2 := (HH1.out).setW d1 (fun h0 k hk => (n1v h0 k hk).2.2.2) 2
        have hfin : ∃ xs : List Ix, Fin b ba bw xs (w1.setCell ⟨bw, 0, none⟩ (.int .i64 2)) ∧ J xs (w1.setCell ⟨bw, 0, none⟩ (.int .i64 2)) := by
          obtain ⟨q1, q2⟩ := FAR.out.bad hlt hit herr
          refine ⟨xs, ⟨by rw [HXS.out, q1], by rw [q2]; exact hw2.1.hwhy, (p : Int), ?_, fun _ => by rw [q1, ← FAR.out.at_]⟩, hJ.out _ _ _ HJ1.out (.inr hw2.2.1)⟩
          exact (hw2.2.2 ba d1.2.2.2.2.2.2).trans HA1.out
        have HF := Lib.hid hfin
        have hcw := fun i => hp_cell hw2.1.hwhy i
        have hcy := fun i => hp_cell hw2.1.hy i
        clear hfin hw2 hit d1 n1v HJ1 HH1
        go_wp2_with fail
        all_goals refine bodyPost_ret (results_none rfl _ _ _) rfl ?_
        all_goals exact ⟨⟨_, rfl⟩, HF.out⟩
      · have c1i : ¬ (pre.length : Int) = 4096 := by omega
        by_cases h1 : e1 = 0
        · subst h1
          have hne : numEnd 0 p k1 = ((p + k1 : Nat) : Int) := rfl
          rw [hne]
          obtain ⟨g1, g2, g3, g4⟩ := rdn_back hr
          simp only [List.length_drop] at g2
          by_cases c73 : b.length - p - k1 < n
          · have hit : itm (b.drop p) pre.length = (73, [], 0) := by
              unfold itm; rw [if_neg c1, hr]; simp only [List.length_drop]; rw [if_neg (by simp), if_pos c73]
            have herr : (73 : Int) ≠ 0 := by decide
            have hgt : (b.length : Int) - ((p : Int) + (k1 : Int)) < (n : Int) := by omega
            have hge : 0 ≤ (b.length : Int) - ((p : Int) + (k1 : Int)) := by omega
            clear hr NUM g4 hne
            have hw2 := (HH1.out).setW d1 (fun h0 k hk => (n1v h0 k hk).2.2.2) 73
            have hfin : ∃ xs : List Ix, Fin b ba bw xs (w1.setCell ⟨bw, 0, none⟩ (.int .i64 73)) ∧ J xs (w1.setCell ⟨bw, 0, none⟩ (.int .i64 73)) := by
              obtain ⟨q1, q2⟩ := FAR.out.bad hlt hit herr
              refine ⟨xs, ⟨by rw [HXS.out, q1], by rw [q2]; exact hw2.1.hwhy, (p : Int), ?_, fun _ => by rw [q1, ← FAR.out.at_]⟩, hJ.out _ _ _ HJ1.out (.inr hw2.2.1)⟩
              exact (hw2.2.2 ba d1.2.2.2.2.2.2).trans HA1.out
            have HF := Lib.hid hfin
            have hcw := fun i => hp_cell hw2.1.hwhy i
            have hcy := fun i => hp_cell hw2.1.hy i
            clear hfin hw2 hit d1 n1v HJ1 HH1
            go_wp2_with fail
            all_goals refine bodyPost_ret (results_none rfl _ _ _) rfl ?_
            all_goals exact ⟨⟨_, rfl⟩, HF.out⟩
          · have hit : itm (b.drop p) pre.length = (0, ((b.drop p).drop k1).take n, k1 + n) := by
              unfold itm; rw [if_neg c1, hr]; simp only [List.length_drop]; rw [if_neg (by simp), if_neg c73]
            obtain ⟨hfar2, hk0⟩ := FAR.out.step hlt hit
            have hrm := rd_mid (HH1.out).rd (p + k1) (p + k1 + n) (by omega) (by omega)
            rw [show p + k1 + n - (p + k1) = n by omega, ← List.drop_drop] at hrm
            have hxl : (((b.drop p).drop k1).take n).length = n := by simp; omega
            have hxsl : xs.length = pre.length := by have := congrArg List.length HXS.out; simpa using this
            obtain ⟨fn, tm, asg, bd, hy, hR⟩ := hY.out xs (_, ((b.drop p).drop k1).take n) w1 HJ1.out ⟨by rw [hxsl]; have := FAR.out.cnt; omega, hrm, by simp only; have := HB.out; omega, fun k hk => own_mid' (hi := p + k1 + n) (by rw [show p + k1 + n - (p + k1) = n by omega]; exact hk)⟩
            have HF2 := Lib.hid hfar2; have HXL := Lib.hid hxl; have HK0 := Lib.hid hk0
            have hle : (n : Int) ≤ (b.length : Int) - ((p : Int) + (k1 : Int)) := by omega
            have hge : 0 ≤ (b.length : Int) - ((p : Int) + (k1 : Int)) := by omega
            have hcl := (HH1.out).rd.len.2.1
            simp only [encI] at hy
            clear hrm hfar2 hxl hk0 hit g4 hr NUM hne
            by_cases hcc : c = p + k1
            · skip
              rw [if_pos hcc] at hy
              subst hcc
              simp only [Nat.sub_self] at hy
              have HY := Lib.hid hy; have HR := Lib.hid hR
              clear hy hR
              iterate 160 (try (first | (refine at11 (n := m + 1) ?_; intro K11 hK11) | go_values | go_skip | go_guarded | go_step | go_upon | go_back | (simp only [Int.not_lt, Int.not_le] at *; go_simp) | (go_values <;> (try go_simp)) | (go_ite <;> go_prune <;> (try go_simp))))
              have hy := HY.out
              gi_wp2
              refine HR.out.mono ?_
              rintro _ w4 ⟨rfl, hj4, hk4⟩
              have hh4 := (HH1.out).kp hk4 n1x n1a n1y n1b n1w (fun h0 k hk => ⟨(n1v h0 k hk).1, (n1v h0 k hk).2.1⟩)
              have HJ4 := Lib.hid hj4; have HH4 := Lib.hid hh4
              clear hj4 hk4 hh4 hy hcx hca hcx1 hcy1 hcw1 hfw1
              gi_wp2
              go_wp2_with fail
              have hcnt := FAR.out.cnt
              have hk0 := HK0.out
              refine ⟨⟨p + (k1 + n), pre ++ [((b.drop p).drop k1).take n], xs ++ [(_, ((b.drop p).drop k1).take n)], ?_, ?_, HF2.out, by rw [List.map_append, HXS.out]; rfl, HJ4.out, HH4.out⟩, ?_⟩
              · rw [w64 (by omega) (by omega)]
                simp
              · push_cast; rw [Int.add_assoc]
              · simp only [intOf]; omega
            · skip
              rw [if_neg hcc] at hy
              have HY := Lib.hid hy; have HR := Lib.hid hR
              clear hy hR
              iterate 160 (try (first | (refine at11 (n := m + 1) ?_; intro K11 hK11) | go_values | go_skip | go_guarded | go_step | go_upon | go_back | (simp only [Int.not_lt, Int.not_le] at *; go_simp) | (go_values <;> (try go_simp)) | (go_ite <;> go_prune <;> (try go_simp))))
              have hy := HY.out
              gi_wp2
              refine HR.out.mono ?_
              rintro _ w4 ⟨rfl, hj4, hk4⟩
              have hh4 := (HH1.out).kp hk4 n1x n1a n1y n1b n1w (fun h0 k hk => ⟨(n1v h0 k hk).1, (n1v h0 k hk).2.1⟩)
              have HJ4 := Lib.hid hj4; have HH4 := Lib.hid hh4
              clear hj4 hk4 hh4 hy hcx hca hcx1 hcy1 hcw1 hfw1
              gi_wp2
              go_wp2_with fail
              have hcnt := FAR.out.cnt
              have hk0 := HK0.out
              refine ⟨⟨p + (k1 + n), pre ++ [((b.drop p).drop k1).take n], xs ++ [(_, ((b.drop p).drop k1).take n)], ?_, ?_, HF2.out, by rw [List.map_append, HXS.out]; rfl, HJ4.out, HH4.out⟩, ?_⟩
              · rw [w64 (by omega) (by omega)]
                simp
              · push_cast; rw [Int.add_assoc]
              · simp only [intOf]; omega
        · have hit : itm (b.drop p) pre.length = (e1, [], 0) := by unfold itm; rw [if_neg c1, hr]; simp only; rw [if_pos h1]
          have herr : e1 ≠ 0 := h1
          clear hr NUM
          generalize numEnd e1 p k1 = qe
          have hw2 := (HH1.out).setW d1 (fun h0 k hk => (n1v h0 k hk).2.2.2) e1
          have hfin : ∃ xs : List Ix, Fin b ba bw xs (w1.setCell ⟨bw, 0, none⟩ (.int .i64 e1)) ∧ J xs (w1.setCell ⟨bw, 0, none⟩ (.int .i64 e1)) := by
            obtain ⟨q1, q2⟩ := FAR.out.bad hlt hit herr
            refine ⟨xs, ⟨by rw [HXS.out, q1], by rw [q2]; exact hw2.1.hwhy, (p : Int), ?_, fun _ => by rw [q1, ← FAR.out.at_]⟩, hJ.out _ _ _ HJ1.out (.inr hw2.2.1)⟩
            exact (hw2.2.2 ba d1.2.2.2.2.2.2).trans HA1.out
          have HF := Lib.hid hfin
          have hcw := fun i => hp_cell hw2.1.hwhy i
          have hcy := fun i => hp_cell hw2.1.hy i
          clear hfin hw2 hit d1 n1v HJ1 HH1
          go_wp2_with fail
          all_goals refine bodyPost_ret (results_none rfl _ _ _) rfl ?_
          all_goals exact ⟨⟨_, rfl⟩, HF.out⟩
end Go.Proofs.YtinngljphjdpoaaGreatDoor.Gt
