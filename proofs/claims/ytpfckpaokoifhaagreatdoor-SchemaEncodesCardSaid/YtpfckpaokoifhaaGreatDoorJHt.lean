/- handSlots, the walk. -/
import Derived.Test.YtpfckpaokoifhaaGreatDoorJHs
namespace Go.Proofs.YtpfckpaokoifhaaGreatDoor.Ht
open Go Go.RowKit Go.Proofs.YtpfckpaokoifhaaGreatDoor.Pa Go.Proofs.YtpfckpaokoifhaaGreatDoor.Pb Go.Proofs.YtpfckpaokoifhaaGreatDoor.Pf Go.Proofs.YtpfckpaokoifhaaGreatDoor.Sc Go.Proofs.YtpfckpaokoifhaaGreatDoor.Rs Go.Proofs.YtpfckpaokoifhaaGreatDoor.Hs
set_option linter.unusedVariables false
set_option linter.unusedSimpArgs false

/-- Where i of the places are done. -/
structure Done (w : World) (b n : Nat) (l : List Slot) (i : Nat) (f : Nat → Value) : Prop where
  row : w.rowIs b 70 ((l.length + 3) * 5) f
  slot : ∀ j t, l[j]? = some t → j < i → WfS t ∧ f (j * 5) = .int .i64 t.no ∧ f (j * 5 + 1) = .int .i64 t.kind ∧ f (j * 5 + 2) = .int .u64 t.least ∧ f (j * 5 + 3) = .int .u64 t.most ∧ Hd w (b + 1) n (f (j * 5 + 4)) t.sub
  mark : ∀ j, l.length ≤ j → j < i → f (j * 5) = .int .i64 (-77) ∧ f (j * 5 + 4) = .slice none 0 0
  rest : ∀ j, i ≤ j → j < l.length + 3 → f (j * 5 + 4) = .slice none 0 0

/-- The world where a place's cells are laid. -/
def laid (w : World) (b i : Nat) (t : Slot) (sv : Value) : World :=
  (((((w.setCell ⟨b, i * 5, none⟩ (.int .i64 (-77))).setCell ⟨b, i * 5, none⟩ (.int .i64 t.no)).setCell ⟨b, i * 5 + 1, none⟩ (.int .i64 t.kind)).setCell ⟨b, i * 5 + 2, none⟩ (.int .u64 t.least)).setCell ⟨b, i * 5 + 3, none⟩ (.int .u64 t.most)).setCell ⟨b, i * 5 + 4, none⟩ sv
theorem laid_size (w : World) (b i : Nat) (t : Slot) (sv : Value) : (laid w b i t sv).heap.size = w.heap.size := by simp [laid, World.setCell]
theorem laid_chg (w : World) (b i : Nat) (t : Slot) (sv : Value) : Chg (fun k => k = b) w (laid w b i t sv) := by
  have s : ∀ (w : World) (k : Nat) (v : Value), Chg (fun x => x = b) w (w.setCell ⟨b, k, none⟩ v) := fun w k v => Chg.store w ⟨b, k, none⟩ v
  exact (((((s w _ _).trans (s _ _ _)).trans (s _ _ _)).trans (s _ _ _)).trans (s _ _ _)).trans (s _ _ _)
theorem Done.step {w w7 : World} {b n i : Nat} {l : List Slot} {f : Nat → Value} {t : Slot} {sv v' : Value} (hd : Done w b n l i f) (ht : l[i]? = some t) (hwf : WfS t) (hb7 : Below w.heap.size (laid w b i t sv) w7) (hv : Hd w7 (b + 1) n v' t.sub) :
    ∃ f', Done (w7.setCell ⟨b, i * 5 + 4, none⟩ v') b n l (i + 1) f' := by
  have hi : i < l.length := (List.getElem?_eq_some_iff.1 ht).1
  have hlt := hd.row.lt
  have r6 := (((((hd.row.set (i * 5) (.int .i64 (-77))).set (i * 5) (.int .i64 t.no)).set (i * 5 + 1) (.int .i64 t.kind)).set (i * 5 + 2) (.int .u64 t.least)).set (i * 5 + 3) (.int .u64 t.most)).set (i * 5 + 4) sv
  have r7 := World.rowIs.of_block (w' := w7) r6 (hb7.block b hlt)
  have r8 := r7.set (i * 5 + 4) v'
  have hkeep : ∀ (m : Nat) (u : Value) (s : List Slot), Hd w (b + 1) m u s → Hd (w7.setCell ⟨b, i * 5 + 4, none⟩ v') (b + 1) m u s := fun m u s h => by
    refine Hd.keep m u s h (fun k hk hk2 => ?_)
    rw [heap_setCell_other _ _ _ _ (by simp; omega), hb7.block k hk2]
    exact (laid_chg w b i t sv).block k hk2 (by omega)
  have hkeep2 : Hd (w7.setCell ⟨b, i * 5 + 4, none⟩ v') (b + 1) n v' t.sub := Hd.keep n v' _ hv (fun k hk hk2 => heap_setCell_other _ _ _ _ (by simp; omega))
  refine ⟨_, r8, fun j u hu hj => ?_, fun j h1 h2 => absurd h1 (by omega), fun j h1 h2 => ?_⟩
  · by_cases hji : j = i
    · subst hji
      obtain rfl : t = u := Option.some.inj (ht.symm.trans hu)
      refine ⟨hwf, ?_, ?_, ?_, ?_, ?_⟩
      · simp
      · simp
      · simp
      · simp
      · simpa using hkeep2
    · obtain ⟨g0, g1, g2, g3, g4, g5⟩ := hd.slot j u hu (by omega)
      refine ⟨g0, ?_, ?_, ?_, ?_, ?_⟩
      · repeat rw [if_neg (by omega)]
        exact g1
      · repeat rw [if_neg (by omega)]
        exact g2
      · repeat rw [if_neg (by omega)]
        exact g3
      · repeat rw [if_neg (by omega)]
        exact g4
      · repeat rw [if_neg (by omega)]
        exact hkeep n _ _ g5
  · repeat rw [if_neg (by omega)]
    exact hd.rest j (by omega) h2
theorem Done.mark1 {w : World} {b n i : Nat} {l : List Slot} {f : Nat → Value} (hd : Done w b n l i f) (hi : l.length ≤ i) (hi2 : i < l.length + 3) : ∃ f', Done (w.setCell ⟨b, i * 5, none⟩ (.int .i64 (-77))) b n l (i + 1) f' := by
  have hkeep : ∀ (m : Nat) (u : Value) (s : List Slot), Hd w (b + 1) m u s → Hd (w.setCell ⟨b, i * 5, none⟩ (.int .i64 (-77))) (b + 1) m u s := fun m u s h => Hd.keep m u s h (fun k hk hk2 => heap_setCell_other _ _ _ _ (by simp; omega))
  refine ⟨_, hd.row.set (i * 5) (.int .i64 (-77)), fun j u hu hj => ?_, fun j h1 h2 => ?_, fun j h1 h2 => ?_⟩
  · have hjl : j < l.length := (List.getElem?_eq_some_iff.1 hu).1
    obtain ⟨g0, g1, g2, g3, g4, g5⟩ := hd.slot j u hu (by omega)
    refine ⟨g0, ?_, ?_, ?_, ?_, ?_⟩
    · rw [if_neg (by omega)]; exact g1
    · rw [if_neg (by omega)]; exact g2
    · rw [if_neg (by omega)]; exact g3
    · rw [if_neg (by omega)]; exact g4
    · rw [if_neg (by omega)]; exact hkeep n _ _ g5
  · by_cases hji : j = i
    · subst hji
      exact ⟨by simp, by rw [if_neg (by omega)]; exact hd.rest j (by omega) hi2⟩
    · obtain ⟨g1, g2⟩ := hd.mark j h1 (by omega)
      exact ⟨by rw [if_neg (by omega)]; exact g1, by rw [if_neg (by omega)]; exact g2⟩
  · rw [if_neg (by omega)]; exact hd.rest j (by omega) h2
theorem Done.hd {w : World} {b n : Nat} {l : List Slot} {f : Nat → Value} (hd : Done w b n l (l.length + 3) f) : Hd w b (n + 1) (.slice (some ⟨b, 0, none⟩) l.length (l.length + 3)) l :=
  ⟨b, f, rfl, Nat.le_refl _, hd.row, fun j t ht => by
    have hjl : j < l.length := (List.getElem?_eq_some_iff.1 ht).1
    obtain ⟨g0, g1, g2, g3, g4, g5⟩ := hd.slot j t ht (by omega)
    exact ⟨g0, g1, g2, g3, g4, Hd.mono (by omega) n _ _ g5⟩, fun j h1 h2 => hd.mark j h1 (by omega)⟩

set_option maxHeartbeats 1000000 in
set_option maxRecDepth 100000 in
theorem handSlots : ∀ (n : Nat) (v : Value) (l : List Slot) (W w : World), RdS W n v l → Few n l → Below W.heap.size W w →
    Calls Tryz.prog 17 #[v] w fun e w' => ∃ v', e = .returned v' ∧ Hd w' w.heap.size n v' l ∧ Below w.heap.size w w' := by
  intro n
  induction n with
  | zero => exact fun v l W w h _ _ => h.elim
  | succ n ih =>
    intro v l W w h hf hb
    obtain ⟨A, c, rfl, hlc, hcm⟩ := h.slice
    obtain ⟨hlen, hfs⟩ := hf
    clear hlc hcm
    have IH := Lib.hid ih; have H := Lib.hid h; have HF := Lib.hid hfs; clear ih h hfs
    obtain ⟨w1, hmk, hrow, hb1⟩ := mk_slots (l.length + 3) (by omega) w
    have hmk' : (Instr.makeSlice 22 (.int .i64 ((l.length : Int) + 3)) (.int .i64 ((l.length : Int) + 3))).run Tryz.prog w = .ok (.slice (some ⟨w.heap.size, 0, none⟩) (l.length + 3) (l.length + 3)) w1 := hmk
    clear hmk
    have HROW := Lib.hid hrow; clear hrow
    go_enter Tryz.func17, Tryz.ntmps17
    go_wp2_with fail
    clear hmk'
    go_loopw [4] (fun s wr => ∃ (i : Nat) (f : Nat → Value), i ≤ l.length + 3 ∧ s = .int .i64 i ∧ Done wr w.heap.size n l i f ∧ Below w.heap.size w wr) (fun s _ => l.length + 3 - (intOf s).toNat)
    case atStart => exact ⟨0, zc, by omega, rfl, ⟨HROW.out, fun j t _ h => absurd h (by omega), fun j _ h => absurd h (by omega), fun j _ _ => by unfold zc; rw [if_neg (by omega), if_neg (by omega)]⟩, hb1⟩
    case round =>
      obtain ⟨i, f, hi, rfl, hd, hbw⟩ := hrel
      have hbr : Below W.heap.size W wr := hb.trans (hbw.mono hb.size)
      have hWw := hb.size
      have hws := hbw.size
      by_cases hil : i < l.length + 3
      · have hrow := hd.row
        have k0 := hrow.cell (i := i * 5) (by omega)
        have k1 := hrow.cell (i := i * 5 + 1) (by omega)
        have k2 := hrow.cell (i := i * 5 + 2) (by omega)
        have k3 := hrow.cell (i := i * 5 + 3) (by omega)
        have k4 := hrow.cell (i := i * 5 + 4) (by omega)
        have hfr : ∀ k, wr.frozen? ⟨w.heap.size, k, none⟩ = false := hrow.frozen
        have hlt := hrow.lt
        generalize f (i * 5) = x0 at k0
        generalize f (i * 5 + 1) = x1 at k1
        generalize f (i * 5 + 2) = x2 at k2
        generalize f (i * 5 + 3) = x3 at k3
        generalize f (i * 5 + 4) = x4 at k4
        have HD := Lib.hid hd; have HROWi := Lib.hid hrow; clear hd hrow
        by_cases hin : i < l.length
        · obtain ⟨ad, rfl, hwf, sv, hsl, hrd⟩ := H.out.at_ i hin
          have hpb : (ad.add (i * 5)).block < W.heap.size := hsl.lt
          replace hsl := hsl.keep (hbr.block _ hsl.lt)
          obtain ⟨p, hpa⟩ : ∃ p, ad.add (i * 5) = p := ⟨_, rfl⟩
          rw [hpa] at hsl hpb
          obtain ⟨c0, c1, c2, c3, c4⟩ := hsl
          obtain ⟨A2, cc2, rfl, -⟩ := hrd.slice
          have hne : ¬ w.heap.size = p.block := by omega
          have hne0 : ¬ (⟨w.heap.size, i * 5, none⟩ : Addr) = p := fun h => hne (congrArg Addr.block h)
          have HRD := Lib.hid hrd; have HWF := Lib.hid hwf; clear hrd hwf
          have hti : l[i]? = some l[i] := by simp [hin]
          have hft := HF.out l[i] (List.getElem_mem hin)
          generalize l[i] = t at *
          have hlb : Below w.heap.size w (laid wr w.heap.size i t (.slice A2 t.sub.length cc2)) := (laid_chg wr w.heap.size i t _).below hbw (fun k hk => Nat.le_of_eq hk.symm) hbw.size
          have HLB := Lib.hid hlb; have HTI := Lib.hid hti; have HFT := Lib.hid hft; clear hlb hti hft
          go_wp2_with (go_at_call 9999)
          go_at_call 17
          refine (IH.out _ t.sub W (laid wr w.heap.size i t (.slice A2 t.sub.length cc2)) HRD.out HFT.out (hb.trans (HLB.out.mono hb.size))).mono ?_
          rintro e w7 ⟨v', rfl, hv', hb7⟩
          rw [laid_size] at hb7 hv'
          have hc7 : Below w.heap.size w w7 := HLB.out.trans (hb7.mono hws)
          have hv'' := Hd.mono (base' := w.heap.size + 1) (by omega) _ _ _ hv'
          obtain ⟨b', rfl, hb'1, hb'2⟩ := hv'.slice
          have r7 := (((((((HROWi.out.set (i * 5) (.int .i64 (-77))).set (i * 5) (.int .i64 t.no)).set (i * 5 + 1) (.int .i64 t.kind)).set (i * 5 + 2) (.int .u64 t.least)).set (i * 5 + 3) (.int .u64 t.most)).set (i * 5 + 4) (.slice A2 t.sub.length cc2)).of_block (w' := w7) (hb7.block w.heap.size hlt))
          have k7 := r7.cell (i := i * 5 + 4) (by omega)
          have hfr7 := r7.frozen
          clear hfr k0 k1 k2 k3 k4
          obtain ⟨f', hd'⟩ := HD.out.step HTI.out HWF.out hb7 hv''
          have HD' := Lib.hid hd'; have HC7 := Lib.hid hc7; clear hd' hv' hv'' r7 hb7 hc7
          go_wp2_with fail
          go_roundw
          case rel => exact ⟨i + 1, f', by omega, by go_num, HD'.out, HC7.out.setCell (Nat.le_refl _) _⟩
          case measure => simp [intOf]; omega
        · obtain ⟨f', hd'⟩ := HD.out.mark1 (by omega) hil
          have HD' := Lib.hid hd'; clear hd'
          go_wp2_with fail
          go_roundw
          case rel => exact ⟨i + 1, f', by omega, by go_num, HD'.out, hbw.setCell (Nat.le_refl _) _⟩
          case measure => simp [intOf]; omega
      · obtain rfl : i = l.length + 3 := by omega
        have hfin := hd.hd
        have HFIN := Lib.hid hfin; clear hfin hd
        go_wp2_with fail
        go_ret
        exact ⟨_, rfl, HFIN.out, hbw⟩
end Go.Proofs.YtpfckpaokoifhaaGreatDoor.Ht
