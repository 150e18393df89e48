/- apart: lists of the call's own, each in memory of its own, hold their marks. -/
import Derived.Test.YtinngljphjdpoaaGreatDoorProg
import Derived.Test.YtinngljphjdpoaaGreatDoorJAx
namespace Go.Proofs.YtinngljphjdpoaaGreatDoor.Ap
open Go Go.RowKit Go.Proofs.YtinngljphjdpoaaGreatDoor.Pa Go.Proofs.YtinngljphjdpoaaGreatDoor.Pb Go.Proofs.YtinngljphjdpoaaGreatDoor.Pc Go.Proofs.YtinngljphjdpoaaGreatDoor.Pf
set_option linter.unusedVariables false
set_option linter.unusedSimpArgs false

theorem u8 : U8 Tryz.prog 23 5 := ⟨Tryz.underlying23, by kernel_rfl⟩
def mark (j : Nat) : UInt8 := UInt8.ofNat (1 + j)
/-- The table of the lists, and what is known of them where i of them, and k of the next, are marked. -/
structure In1 (w : World) (B g : Nat) (vs : List Value) (i k : Nat) : Prop where
  tab : hp w g = some (.cells vs.toArray 23 (0, 0))
  each : ∀ j v, vs[j]? = some v → ∃ l, Own w B 5 v l ∧ (j < i → l = List.replicate l.length (mark j)) ∧ (j = i → k ≤ l.length ∧ l.take k = List.replicate k (mark j))
/-- .. where all are. -/
structure In2 (w : World) (B g : Nat) (vs : List Value) : Prop where
  tab : hp w g = some (.cells vs.toArray 23 (0, 0))
  each : ∀ j v, vs[j]? = some v → ∃ l, Own w B 5 v l ∧ l = List.replicate l.length (mark j)
structure Fam (B N g : Nat) (vs : List Value) : Prop where
  short : ∀ (i : Nat) (u : Value), vs[i]? = some u → ∀ A n c, u = .slice A n c → n ≤ 140737488355000
  low : ∀ (i : Nat) (u : Value), vs[i]? = some u → ∀ k, u.ownBlock = some k → k < N
  glow : g < N
  few : vs.length ≤ 50
  far : ∀ (i j : Nat) (u v : Value), vs[i]? = some u → vs[j]? = some v → i ≠ j → ∀ k, u.ownBlock = some k → v.ownBlock ≠ some k
  tab : ∀ (i : Nat) (u : Value), vs[i]? = some u → u.ownBlock ≠ some g
theorem In1.next {w : World} {B g : Nat} {vs : List Value} {i k : Nat} (h : In1 w B g vs i k) (hk : ∀ v, vs[i]? = some v → ∀ A n c, v = .slice A n c → n ≤ k) : In1 w B g vs (i + 1) 0 := by
  refine ⟨h.tab, fun j v hv => ?_⟩
  obtain ⟨l, ho, h1, h2⟩ := h.each j v hv
  refine ⟨l, ho, fun hj => ?_, fun _ => ⟨by omega, by simp⟩⟩
  by_cases hji : j = i
  · subst hji
    obtain ⟨A, c, hs⟩ := ho.slice
    have := hk v hv A _ c hs
    obtain ⟨h3, h4⟩ := h2 rfl
    have hkl : k = l.length := by omega
    subst hkl
    simpa using h4
  · exact h1 (by omega)
theorem In1.step {w : World} {B N g b n c : Nat} {vs : List Value} {i k : Nat} (hf : Fam B N g vs) (h : In1 w B g vs i k) (hv : vs[i]? = some (.slice (some ⟨b, 0, none⟩) n c)) (hk : k < n) {y : Int} (hy : y = ((mark i).toNat : Int)) : In1 (w.setCell ⟨b, k, none⟩ (.int .u8 y)) B g vs i (k + 1) := by
  have hc := Chg.store w ⟨b, k, none⟩ (.int .u8 y)
  refine ⟨hp_chg h.tab hc (fun e => hf.tab i _ hv (by simp [Value.ownBlock]; exact e.symm)), fun j v hj => ?_⟩
  obtain ⟨l, ho, h1, h2⟩ := h.each j v hj
  by_cases hji : j = i
  · subst hji
    obtain rfl : v = .slice (some ⟨b, 0, none⟩) n c := by rw [hv] at hj; exact (Option.some.inj hj).symm
    obtain ⟨A, c', hs⟩ := ho.slice
    have hn : n = l.length := by simp only [Value.slice.injEq] at hs; exact hs.2.1
    obtain ⟨h3, h4⟩ := h2 rfl
    refine ⟨l.set k (mark j), ho.set k (mark j) hy, fun h => absurd h (by omega), fun _ => ⟨by simp; omega, ?_⟩⟩
    rw [List.take_set, List.take_succ_eq_append_getElem (by omega), h4, List.replicate_succ']
    rw [List.set_append_right _ _ (by simp)]
    simp
  · exact ⟨l, ho.chg hc (fun k' hk' e => hf.far j i v _ hj hv hji k' hk' (by simp [Value.ownBlock]; exact e.symm)), h1, fun e => absurd e hji⟩
theorem In1.cell {w : World} {B g : Nat} {vs : List Value} {i k : Nat} (h : In1 w B g vs i k) (j : Nat) (v : Value) (hv : vs[j]? = some v) : w.cell? ⟨g, j, none⟩ = some v := by rw [hp_cell h.tab]; simpa using hv
theorem In2.cell {w : World} {B g : Nat} {vs : List Value} (h : In2 w B g vs) (j : Nat) (v : Value) (hv : vs[j]? = some v) : w.cell? ⟨g, j, none⟩ = some v := by rw [hp_cell h.tab]; simpa using hv
theorem In1.two {w : World} {B g : Nat} {vs : List Value} {k : Nat} (h : In1 w B g vs vs.length k) : In2 w B g vs := by
  refine ⟨h.tab, fun j v hv => ?_⟩
  obtain ⟨l, ho, h1, _⟩ := h.each j v hv
  exact ⟨l, ho, h1 (List.getElem?_eq_some_iff.1 hv).1⟩
/-- The list that grows out of the i-th. -/
def Gr (N : Nat) (v gv : Value) : Prop := (gv.ownBlock = v.ownBlock ∧ capOf gv = capOf v) ∨ ∃ b, gv.ownBlock = some b ∧ N ≤ b
theorem In2.grow {w w1 w2 : World} {B N g i : Nat} {vs : List Value} {v gv v2 : Value} {l m2 : List UInt8} (hf : Fam B N g vs) (h : In2 w B g vs) (hv : vs[i]? = some v) (hw : Below w.heap.size w w1) (hN : N ≤ w.heap.size)
    (hl : ∃ c, v = .slice (v.ownBlock.map fun b => ⟨b, 0, none⟩) l.length c) (hlm : l = List.replicate l.length (mark i))
    (hgr : Gr N v gv) (h2 : Own w2 B 5 v2 (l ++ m2)) (hg : w1.grownBy w2 gv.ownBlock) (h4 : v2.ownBlock = gv.ownBlock ∧ capOf v2 = capOf gv ∨ v2.ownBlock = some w1.heap.size ∧ w1.grownBy w2 none) : In2 w2 B g vs ∧ Gr N v v2 := by
  have hc0 : Chg (fun k => gv.ownBlock = some k) w w2 := (Chg.of_below hw).trans (Chg.grown hg)
  have hi := hf.low i v hv
  have hG : Gr N v v2 := by
    rcases h4 with ⟨e1, e2⟩ | ⟨e1, _⟩
    · unfold Gr at *
      rw [e1, e2]
      exact hgr
    · exact .inr ⟨_, e1, Nat.le_trans hN hw.size⟩
  refine ⟨⟨hp_chg h.tab hc0 (fun e => ?_), fun j u hu => ?_⟩, hG⟩
  · rcases hgr with ⟨e1, _⟩ | ⟨b, e1, hb⟩
    · exact hf.tab i v hv (e1.symm.trans e)
    · have := e1.symm.trans e
      have h3 := hf.glow
      simp only [Option.some.injEq] at this
      omega
  · obtain ⟨lj, ho, hlj⟩ := h.each j u hu
    by_cases hji : j = i
    · subst hji
      obtain rfl : v = u := Option.some.inj (hv.symm.trans hu)
      by_cases hsame : v2.ownBlock = v.ownBlock ∧ capOf v2 = capOf v
      · refine ⟨l, ?_, hlm⟩
        obtain ⟨c, hc⟩ := hl
        rcases h2.shape with ⟨e, h0⟩ | ⟨b, c', e, _⟩
        · have h00 : l = [] := (List.append_eq_nil_iff.1 h0).1
          subst h00
          rw [e] at hsame
          have h5 := hsame.1
          have h6 := hsame.2
          rw [← h5] at hc
          rw [hc] at h6 ⊢
          simp only [capOf, Value.ownBlock] at h6
          subst h6
          exact Own.nil _ _ _
        · subst e
          have h5 := hsame.1
          have h6 := hsame.2
          rw [← h5] at hc
          rw [hc] at h6 ⊢
          simp only [capOf] at h6
          subst h6
          exact h2.head rfl
      · have hcn : Chg (fun k => ∃ b, k = b ∧ N ≤ b) w w2 := by
          rcases hgr with ⟨e1, e2⟩ | ⟨b, e1, hb⟩
          · rcases h4 with ⟨e3, e4⟩ | ⟨_, hg0⟩
            · exact absurd ⟨e3.trans e1, e4.trans e2⟩ hsame
            · exact (Chg.of_below hw).trans ((Chg.grown hg0).mono (fun k _ e => by cases e))
          · exact hc0.mono (fun k _ e => ⟨k, rfl, by have := e1.symm.trans e; simp only [Option.some.injEq] at this; omega⟩)
        exact ⟨lj, ho.chg hcn (fun k hk ⟨b, e, hb⟩ => by have := hi k hk; omega), hlj⟩
    · refine ⟨lj, ho.chg hc0 (fun k hk e => ?_), hlj⟩
      rcases hgr with ⟨e1, _⟩ | ⟨b, e1, hb⟩
      · exact hf.far j i u v hu hv hji k hk (e1.symm.trans e)
      · have := e1.symm.trans e
        have h3 := hf.low j u hu k hk
        simp only [Option.some.injEq] at this
        omega

def S (vs : List Value) (k : Nat) : Prop := ∃ v ∈ vs, v.ownBlock = some k
set_option maxRecDepth 100000 in
theorem apart (g : Nat) (vs : List Value) (w : World) (B : Nat) (hf : Fam B w.heap.size g vs) (h0 : In1 w B g vs 0 0) (hB : B ≤ w.heap.size) :
    Calls Tryz.prog 24 #[.slice (some ⟨g, 0, none⟩) vs.length vs.length] w fun e w' => e = .returned (.bool true) ∧ Chg (S vs) w w' := by
  have hfew := hf.few
  go_enter Tryz.func24, Tryz.ntmps24
  go_wp2
  go_loopw [3] (fun s wr => ∃ i : Nat, i ≤ vs.length ∧ s = .int .i64 i ∧ In1 wr B g vs i 0 ∧ Chg (S vs) w wr) (fun s _ => vs.length - (intOf s).toNat)
  case atStart => exact ⟨0, by omega, rfl, h0, Chg.refl _ _⟩
  case round =>
    obtain ⟨i, hi, rfl, hin, hch⟩ := hrel
    by_cases hl : i < vs.length
    · obtain ⟨v, hv⟩ : ∃ v, vs[i]? = some v := ⟨vs[i], by simp [hl]⟩
      have hvm : v ∈ vs := List.mem_of_getElem? hv
      obtain ⟨l, ho, _, _⟩ := hin.each i v hv
      have hcell := hin.cell i v hv
      have hfr : wr.frozen? ⟨g, i, none⟩ = false := hp_frozen hin.tab i
      have HIN := Lib.hid hin; clear hin
      have HO := Lib.hid ho; clear ho
      obtain ⟨A, c, rfl⟩ := HO.out.slice
      have hml : l.length ≤ 140737488355000 := hf.short i _ hv _ _ _ rfl
      have HV := Lib.hid hv; clear hv
      go_wp2
      go_loopw [4] (fun s wq => ∃ k : Nat, k ≤ l.length ∧ s = .int .i64 k ∧ In1 wq B g vs i k ∧ Chg (S vs) w wq) (fun s _ => l.length - (intOf s).toNat)
      case atStart => exact ⟨0, by omega, rfl, HIN.out, hch⟩
      case round =>
        obtain ⟨k, hk, rfl, hin, hch⟩ := hrel
        have hcell := hin.cell i _ HV.out
        have HIN := Lib.hid hin; clear hin
        by_cases hkl : k < l.length
        · rcases HO.out.shape with ⟨e, rfl⟩ | ⟨b, c, e, hb1, hb2⟩
          · simp at hkl
          · simp only [Value.slice.injEq, true_and] at e
            obtain ⟨rfl, rfl⟩ := e
            obtain ⟨l', ho', _⟩ := HIN.out.each i _ HV.out
            have hfz : wr.frozen? ⟨b, k, none⟩ = false := ho'.frozen k
            obtain ⟨u0, hcu⟩ : ∃ u, wr.cell? ⟨b, k, none⟩ = some u := ⟨_, ho'.cellAt k (by obtain ⟨A', c', e⟩ := ho'.slice; simp only [Value.slice.injEq] at e; omega)⟩
            have HO' := Lib.hid ho'; clear ho'
            go_wp2
            go_roundw
            case rel =>
              refine ⟨k + 1, by omega, by go_num, HIN.out.step hf HV.out hkl ?_, hch.trans ((Chg.store wr ⟨b, k, none⟩ _).mono (fun k' _ e => ⟨_, hvm, by simp [Value.ownBlock]; exact e.symm⟩))⟩
              simp only [mark]; rw [← of_nat8 (by omega)]; omega
            case measure => simp [intOf]; omega
        · go_wp2
          go_roundw
          case rel => exact ⟨i + 1, by omega, rfl, HIN.out.next (fun v hv A' n c' e => by
            have := HV.out.symm.trans hv
            rw [e] at this
            simp only [Option.some.injEq, Value.slice.injEq] at this
            omega), hch⟩
          case measure => simp [intOf]; omega
    · have hil : i = vs.length := by omega
      subst hil
      have hin2 := hin.two
      clear hin
      go_wp2
      go_loopw [5] (fun s wr => ∃ i : Nat, i ≤ vs.length ∧ s = .int .i64 i ∧ In2 wr B g vs ∧ Chg (S vs) w wr) (fun s _ => vs.length - (intOf s).toNat)
      case atStart => exact ⟨0, by omega, rfl, hin2, hch⟩
      case round =>
        obtain ⟨i, hi, rfl, hin, hch⟩ := hrel
        have hws := hch.size
        by_cases hl : i < vs.length
        · obtain ⟨v, hv⟩ : ∃ v, vs[i]? = some v := ⟨vs[i], by simp [hl]⟩
          have hvm : v ∈ vs := List.mem_of_getElem? hv
          obtain ⟨l, ho, hlm⟩ := hin.each i v hv
          have hcell := hin.cell i v hv
          have hfr : wr.frozen? ⟨g, i, none⟩ = false := hp_frozen hin.tab i
          have hsl : ∃ c, v = .slice (v.ownBlock.map fun b => ⟨b, 0, none⟩) l.length c := by
            rcases ho.shape with ⟨rfl, rfl⟩ | ⟨b, c, rfl, _⟩
            · exact ⟨0, rfl⟩
            · exact ⟨c, rfl⟩
          have HIN := Lib.hid hin; have HO := Lib.hid ho; have HLM := Lib.hid hlm; have HSL := Lib.hid hsl; clear hin ho hlm hsl
          obtain ⟨A, c, rfl⟩ := HO.out.slice
          have hml : l.length ≤ 140737488355000 := hf.short i _ hv _ _ _ rfl
          have HV := Lib.hid hv; clear hv
          go_wp2
          go_loopw [6, 7] (fun s t wq => ∃ (k : Nat) (m : List UInt8), k ≤ 80 ∧ m.length = k ∧ t = .int .i64 k ∧ Own wq B 5 s (l ++ m) ∧ Gr w.heap.size (.slice A l.length c) s ∧ In2 wq B g vs ∧ Chg (S vs) w wq) (fun _ t _ => 80 - (intOf t).toNat)
          case atStart => exact ⟨0, [], by omega, rfl, rfl, by simpa using HO.out, .inl ⟨rfl, rfl⟩, HIN.out, hch⟩
          case round =>
            obtain ⟨k, m, hk, hm, rfl, ho, hgr, hin, hch⟩ := hrel
            have hws := hch.size
            by_cases hkl : k < 80
            · have HY := Lib.hid (show (201 + (i : Int)) = ((UInt8.ofNat (201 + i)).toNat : Int) by rw [← of_nat8 (by omega)]; omega)
              have HIN := Lib.hid hin; have HO := Lib.hid ho; have HGR := Lib.hid hgr; have HM := Lib.hid hm; clear hin ho hgr hm
              go_wp2_with (at_builtin; refine wp_app (.tmp 48) (.tmp 52) u8 rfl rfl rfl rfl (HO.out.alloc _) (rd_box wr _ _ _ HY.out) (by simp; omega) (by have := HM.out; simp; omega) ?_; intro v2 w2 ho2 hg2 h42)
              obtain ⟨hin2, hgr2⟩ := HIN.out.grow (m2 := m ++ [UInt8.ofNat (201 + i)]) hf HV.out ((Below.refl _ _).alloc (Nat.le_refl _) _) (by omega) HSL.out HLM.out HGR.out (by simpa using ho2) hg2 h42
              have hch2 : Chg (S vs) w w2 := by
                refine ⟨?_, ?_, ?_, ?_, fun k' hk' hs => ?_⟩
                · exact hg2.os.trans hch.os
                · exact hg2.tape.trans hch.tape
                · exact hg2.output.trans hch.output
                · have := hg2.size; simp at this; omega
                · refine ((Chg.of_below ((Below.refl _ _).alloc (Nat.le_refl _) _)).trans (Chg.grown hg2)).block k' (by omega) (fun e => ?_) |>.trans (hch.block k' hk' hs)
                  rcases HGR.out with ⟨e1, _⟩ | ⟨b, e1, hb⟩
                  · exact hs ⟨_, hvm, e1.symm.trans e⟩
                  · have := e1.symm.trans e
                    simp only [Option.some.injEq] at this
                    omega
              go_wp2
              go_roundw
              case rel => exact ⟨k + 1, m ++ [UInt8.ofNat (201 + i)], by omega, by have := HM.out; simp; omega, by go_num, by simpa using ho2, hgr2, hin2, hch2⟩
              case measure => simp [intOf]; omega
            · have hk80 : k = 80 := by omega
              obtain ⟨A2, c2, e2⟩ := ho.slice
              subst e2
              have hll : (l ++ m).length = l.length + 80 := by simp; omega
              rw [hll] at ho hgr ⊢
              have hcell := hin.cell i _ HV.out
              have hfr : wr.frozen? ⟨g, i, none⟩ = false := hp_frozen hin.tab i
              have HIN := Lib.hid hin; have HO := Lib.hid ho; have HGR := Lib.hid hgr; clear hin ho hgr
              go_wp2
              go_roundw
              case rel => exact ⟨i + 1, by omega, by go_num, HIN.out, hch⟩
              case measure => simp [intOf]; omega
        · have HIN := Lib.hid hin; clear hin
          go_wp2
          go_loopw [8] (fun s wr => ∃ i : Nat, i ≤ vs.length ∧ s = .int .i64 i ∧ In2 wr B g vs ∧ Chg (S vs) w wr) (fun s _ => vs.length - (intOf s).toNat)
          case atStart => exact ⟨0, by omega, rfl, HIN.out, hch⟩
          case round =>
            obtain ⟨i, hi, rfl, hin, hch⟩ := hrel
            by_cases hl : i < vs.length
            · obtain ⟨v, hv⟩ : ∃ v, vs[i]? = some v := ⟨vs[i], by simp [hl]⟩
              obtain ⟨l, ho, hlm⟩ := hin.each i v hv
              have hcell := hin.cell i v hv
              have hfr : wr.frozen? ⟨g, i, none⟩ = false := hp_frozen hin.tab i
              have HIN := Lib.hid hin; have HO := Lib.hid ho; have HLM := Lib.hid hlm; clear hin ho hlm
              obtain ⟨A, c, rfl⟩ := HO.out.slice
              have hml : l.length ≤ 140737488355000 := hf.short i _ hv _ _ _ rfl
              have HV := Lib.hid hv; clear hv
              go_wp2
              go_loop [9] (fun s => ∃ k : Nat, k ≤ l.length ∧ s = .int .i64 k) (fun s => l.length - (intOf s).toNat)
              case atStart => exact ⟨0, by omega, rfl⟩
              case round =>
                obtain ⟨k, hk, rfl⟩ := hrel
                by_cases hkl : k < l.length
                · rcases HO.out.shape with ⟨e, rfl⟩ | ⟨b, c, e, hb1, hb2⟩
                  · simp at hkl
                  · simp only [Value.slice.injEq, true_and] at e
                    obtain ⟨rfl, rfl⟩ := e
                    have hcu : wr.cell? ⟨b, k, none⟩ = some (.int .u8 (1 + (i : Int))) := by
                      have h1 := HO.out.cellAt k hkl
                      have h2 : l[k] = mark i := by have := HLM.out; rw [List.getElem_of_eq this hkl]; simp
                      rw [h1, h2]
                      congr 2
                      simp only [mark]; rw [← of_nat8 (by omega)]; omega
                    have hfz : wr.frozen? ⟨b, k, none⟩ = false := HO.out.frozen k
                    go_wp2
                    go_round
                    case rel => exact ⟨k + 1, by omega, by go_num⟩
                    case measure => simp [intOf]; omega
                · go_wp2
                  go_roundw
                  case rel => exact ⟨i + 1, by omega, by go_num, HIN.out, hch⟩
                  case measure => simp [intOf]; omega
            · go_wp2
              go_ret
              exact ⟨rfl, hch⟩

/-- Three lists in memory of their own, one laid behind the other, in a table that is laid last. -/
theorem three {w : World} {B m1 m2 : Nat} {va vb vc : Value} {la lb lc : List UInt8} (oa : Own w B 5 va la) (ob : Own w B 5 vb lb) (oc : Own w B 5 vc lc)
    (sa : la.length ≤ 140737488355000) (sb : lb.length ≤ 140737488355000) (sc : lc.length ≤ 140737488355000)
    (ha : ∀ k, va.ownBlock = some k → k < m1) (hb : ∀ k, vb.ownBlock = some k → m1 ≤ k ∧ k < m2) (hc : ∀ k, vc.ownBlock = some k → m1 ≤ k ∧ m2 ≤ k) :
    Fam B (w.alloc (.cells #[va, vb, vc] 23)).heap.size w.heap.size [va, vb, vc] ∧ In1 (w.alloc (.cells #[va, vb, vc] 23)) B w.heap.size [va, vb, vc] 0 0 := by
  have hcase : ∀ (i : Nat) (u : Value), ([va, vb, vc] : List Value)[i]? = some u → (i = 0 ∧ u = va) ∨ (i = 1 ∧ u = vb) ∨ (i = 2 ∧ u = vc) := by
    intro i u h
    rcases i with _ | _ | _ | i
    · exact .inl ⟨rfl, by simpa using h.symm⟩
    · exact .inr (.inl ⟨rfl, by simpa using h.symm⟩)
    · exact .inr (.inr ⟨rfl, by simpa using h.symm⟩)
    · simp at h
  have hsz : (w.alloc (.cells #[va, vb, vc] 23)).heap.size = w.heap.size + 1 := by simp
  have hlow : ∀ (i : Nat) (u : Value), ([va, vb, vc] : List Value)[i]? = some u → ∀ k, u.ownBlock = some k → k < w.heap.size := by
    intro i u h k hk
    rcases hcase i u h with ⟨_, rfl⟩ | ⟨_, rfl⟩ | ⟨_, rfl⟩
    · exact (oa.lt k hk).2
    · exact (ob.lt k hk).2
    · exact (oc.lt k hk).2
  refine ⟨⟨?_, ?_, by rw [hsz]; omega, by simp, ?_, ?_⟩, ⟨hp_alloc_at _ _ rfl, ?_⟩⟩
  · intro i u h A n c e
    rcases hcase i u h with ⟨_, rfl⟩ | ⟨_, rfl⟩ | ⟨_, rfl⟩
    · obtain ⟨A', c', e'⟩ := oa.slice; rw [e'] at e; simp only [Value.slice.injEq] at e; omega
    · obtain ⟨A', c', e'⟩ := ob.slice; rw [e'] at e; simp only [Value.slice.injEq] at e; omega
    · obtain ⟨A', c', e'⟩ := oc.slice; rw [e'] at e; simp only [Value.slice.injEq] at e; omega
  · intro i u h k hk; have := hlow i u h k hk; rw [hsz]; omega
  · intro i j u v hu hv hij k hk hk'
    rcases hcase i u hu with ⟨rfl, rfl⟩ | ⟨rfl, rfl⟩ | ⟨rfl, rfl⟩ <;> rcases hcase j v hv with ⟨rfl, rfl⟩ | ⟨rfl, rfl⟩ | ⟨rfl, rfl⟩ <;>
      first
      | exact absurd rfl hij
      | (have h1 := ha k (by assumption); have h2 := hb k (by assumption); omega)
      | (have h1 := ha k (by assumption); have h2 := hc k (by assumption); omega)
      | (have h1 := hb k (by assumption); have h2 := hc k (by assumption); omega)
  · intro i u h e; have := hlow i u h _ e; omega
  · intro j v hv
    rcases hcase j v hv with ⟨rfl, rfl⟩ | ⟨rfl, rfl⟩ | ⟨rfl, rfl⟩
    · exact ⟨la, oa.alloc _, fun h => absurd h (by omega), fun _ => ⟨by omega, by simp⟩⟩
    · exact ⟨lb, ob.alloc _, fun h => absurd h (by omega), fun _ => ⟨by omega, by simp⟩⟩
    · exact ⟨lc, oc.alloc _, fun h => absurd h (by omega), fun _ => ⟨by omega, by simp⟩⟩
/-- Two. -/
theorem two {w : World} {B m1 : Nat} {va vb : Value} {la lb : List UInt8} (oa : Own w B 5 va la) (ob : Own w B 5 vb lb)
    (sa : la.length ≤ 140737488355000) (sb : lb.length ≤ 140737488355000)
    (ha : ∀ k, va.ownBlock = some k → k < m1) (hb : ∀ k, vb.ownBlock = some k → m1 ≤ k) :
    Fam B (w.alloc (.cells #[va, vb] 23)).heap.size w.heap.size [va, vb] ∧ In1 (w.alloc (.cells #[va, vb] 23)) B w.heap.size [va, vb] 0 0 := by
  have hcase : ∀ (i : Nat) (u : Value), ([va, vb] : List Value)[i]? = some u → (i = 0 ∧ u = va) ∨ (i = 1 ∧ u = vb) := by
    intro i u h
    rcases i with _ | _ | i
    · exact .inl ⟨rfl, by simpa using h.symm⟩
    · exact .inr ⟨rfl, by simpa using h.symm⟩
    · simp at h
  have hsz : (w.alloc (.cells #[va, vb] 23)).heap.size = w.heap.size + 1 := by simp
  have hlow : ∀ (i : Nat) (u : Value), ([va, vb] : List Value)[i]? = some u → ∀ k, u.ownBlock = some k → k < w.heap.size := by
    intro i u h k hk
    rcases hcase i u h with ⟨_, rfl⟩ | ⟨_, rfl⟩
    · exact (oa.lt k hk).2
    · exact (ob.lt k hk).2
  refine ⟨⟨?_, ?_, by rw [hsz]; omega, by simp, ?_, ?_⟩, ⟨hp_alloc_at _ _ rfl, ?_⟩⟩
  · intro i u h A n c e
    rcases hcase i u h with ⟨_, rfl⟩ | ⟨_, rfl⟩
    · obtain ⟨A', c', e'⟩ := oa.slice; rw [e'] at e; simp only [Value.slice.injEq] at e; omega
    · obtain ⟨A', c', e'⟩ := ob.slice; rw [e'] at e; simp only [Value.slice.injEq] at e; omega
  · intro i u h k hk; have := hlow i u h k hk; rw [hsz]; omega
  · intro i j u v hu hv hij k hk hk'
    rcases hcase i u hu with ⟨rfl, rfl⟩ | ⟨rfl, rfl⟩ <;> rcases hcase j v hv with ⟨rfl, rfl⟩ | ⟨rfl, rfl⟩ <;>
      first
      | exact absurd rfl hij
      | (have h1 := ha k (by assumption); have h2 := hb k (by assumption); omega)
  · intro i u h e; have := hlow i u h _ e; omega
  · intro j v hv
    rcases hcase j v hv with ⟨rfl, rfl⟩ | ⟨rfl, rfl⟩
    · exact ⟨la, oa.alloc _, fun h => absurd h (by omega), fun _ => ⟨by omega, by simp⟩⟩
    · exact ⟨lb, ob.alloc _, fun h => absurd h (by omega), fun _ => ⟨by omega, by simp⟩⟩
end Go.Proofs.YtinngljphjdpoaaGreatDoor.Ap
