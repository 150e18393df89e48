/- wipe: a schema in memory of its own, written over. -/
import Derived.Test.YtpfckpaokoifhaaGreatDoorTw
namespace Go.Proofs.YtpfckpaokoifhaaGreatDoor.Wi
open Go Go.RowKit Go.Proofs.YtpfckpaokoifhaaGreatDoor.Pa Go.Proofs.YtpfckpaokoifhaaGreatDoor.Pb Go.Proofs.YtpfckpaokoifhaaGreatDoor.Pf Go.Proofs.YtpfckpaokoifhaaGreatDoor.Sc Go.Proofs.YtpfckpaokoifhaaGreatDoor.Rs Go.Proofs.YtpfckpaokoifhaaGreatDoor.Hs Go.Proofs.YtpfckpaokoifhaaGreatDoor.Va Go.Proofs.YtpfckpaokoifhaaGreatDoor.Vc Go.Proofs.YtpfckpaokoifhaaGreatDoor.Vd Go.Proofs.YtpfckpaokoifhaaGreatDoor.Ca Go.Proofs.YtpfckpaokoifhaaGreatDoor.Ce
set_option linter.unusedVariables false
set_option linter.unusedSimpArgs false
/-- What can be written over, in the blocks of S, less than n levels deep. -/
def Wp (w : World) (S : Pl) : Nat → Value → Prop
  | 0, _ => False
  | n + 1, v => v = .slice none 0 0 ∨ ∃ (b len cap q : Nat) (f : Nat → Value), v = .slice (some ⟨b, 0, none⟩) len cap ∧ len ≤ 20000 ∧ S b ∧ w.rowIs b 70 q f ∧ len * 5 ≤ q ∧ ∀ j, j < len → Wp w S n (f (j * 5 + 4))
/-- From one world to another where some of S was written over. -/
structure Over (S : Pl) (w w' : World) : Prop where
  os : w'.os = w.os
  tape : w'.tape = w.tape
  output : w'.output = w.output
  size : w'.heap.size = w.heap.size
  keep : ∀ b, ¬ S b → w'.heap[b]? = w.heap[b]?
  row : ∀ b q f, w.rowIs b 70 q f → ∃ f', w'.rowIs b 70 q f' ∧ ∀ j, f' (j * 5 + 4) = f (j * 5 + 4) ∨ f' (j * 5 + 4) = .slice none 0 0
theorem Over.refl (S : Pl) (w : World) : Over S w w := ⟨rfl, rfl, rfl, rfl, fun _ _ => rfl, fun b q f h => ⟨f, h, fun _ => .inl rfl⟩⟩
theorem Over.trans {S : Pl} {w w' w'' : World} (h : Over S w w') (k : Over S w' w'') : Over S w w'' :=
  ⟨k.os.trans h.os, k.tape.trans h.tape, k.output.trans h.output, k.size.trans h.size, fun b hb => (k.keep b hb).trans (h.keep b hb), fun b q f hr => by
    obtain ⟨f1, h1, e1⟩ := h.row b q f hr
    obtain ⟨f2, h2, e2⟩ := k.row b q f1 h1
    refine ⟨f2, h2, fun j => ?_⟩
    rcases e2 j with e | e
    · rw [e]; exact e1 j
    · exact .inr e⟩
theorem Wp.nil (w : World) (S : Pl) (n : Nat) : Wp w S (n + 1) (.slice none 0 0) := .inl rfl
theorem Wp.pos {w : World} {S : Pl} {n : Nat} {v : Value} (h : Wp w S n v) : ∃ m, n = m + 1 := by
  cases n with
  | zero => exact h.elim
  | succ m => exact ⟨m, rfl⟩
theorem Wp.over {S : Pl} {w w' : World} (ho : Over S w w') : ∀ (n : Nat) (v : Value), Wp w S n v → Wp w' S n v
  | 0, _, h => h.elim
  | n + 1, v, h => by
    rcases h with h | ⟨b, len, cap, q, f, e, hl, hb, hr, hq, hc⟩
    · exact .inl h
    · obtain ⟨f', hr', hf⟩ := ho.row b q f hr
      refine .inr ⟨b, len, cap, q, f', e, hl, hb, hr', hq, fun j hj => ?_⟩
      have := hc j hj
      rcases hf j with e | e
      · rw [e]; exact Wp.over ho n _ this
      · rw [e]
        obtain ⟨m, rfl⟩ := this.pos
        exact Wp.nil _ _ _
theorem over_cell {S : Pl} {w : World} {b o : Nat} (hb : S b) (v : Value) (h4 : o % 5 = 4 → v = .slice none 0 0) : Over S w (w.setCell ⟨b, o, none⟩ v) := by
  refine ⟨rfl, rfl, rfl, by simp [World.setCell], fun k hk => heap_setCell_other _ _ _ _ (fun e => hk (by rw [e]; exact hb)), fun k q f hr => ?_⟩
  by_cases e : k = b
  · subst e
    refine ⟨_, hr.set o v, fun j => ?_⟩
    by_cases ej : j * 5 + 4 = o
    · right; rw [if_pos ej]; exact h4 (by omega)
    · left; rw [if_neg ej]
  · exact ⟨f, hr.of_block (heap_setCell_other _ _ _ _ e), fun _ => .inl rfl⟩
theorem wp_of_hd {w : World} {base : Nat} {S : Pl} (hS : ∀ b, base ≤ b → b < w.heap.size → S b) : ∀ (n : Nat) (v : Value) (l : List Slot), Hd w base n v l → Few n l → Wp w S n v
  | 0, _, _, h, _ => h.elim
  | n + 1, v, l, h, hf => by
    obtain ⟨b, f, e, hb, hr, h1, h2⟩ := h
    refine .inr ⟨b, l.length, l.length + 3, (l.length + 3) * 5, f, e, by have := hf.1; omega, hS b hb hr.lt, hr, by omega, fun j hj => ?_⟩
    obtain ⟨g0, g1, g2, g3, g4, g5⟩ := h1 j l[j] (by simp [hj])
    exact wp_of_hd hS n _ _ g5 (hf.2 _ (List.getElem_mem hj))
set_option maxHeartbeats 4000000 in
set_option maxRecDepth 100000 in
theorem wipe (S : Pl) : ∀ (n : Nat) (v : Value) (w : World), Wp w S n v →
    Calls Tryz.prog 21 #[v] w fun e w' => e = .returned (.tuple #[]) ∧ Over S w w' := by
  intro n
  induction n with
  | zero => exact fun v w h => h.elim
  | succ n ih =>
    intro v w h
    have IH := Lib.hid ih; clear ih
    rcases h with rfl | ⟨b, len, cap, q, f, rfl, hl, hb, hr, hq, hc⟩
    · go_enter Tryz.func21, Tryz.ntmps21
      go_wp2_with fail
      go_loopw [2] (fun u wr => u = .int .i64 0 ∧ wr = w) (fun u _ => 0)
      case atStart => exact ⟨rfl, rfl⟩
      case round =>
        obtain ⟨rfl, rfl⟩ := hrel
        go_wp2_with fail
        go_end0
        exact ⟨rfl, Over.refl _ _⟩
    · have HC := Lib.hid hc; have HR := Lib.hid hr; clear hc hr
      go_enter Tryz.func21, Tryz.ntmps21
      go_wp2_with fail
      go_loopw [2] (fun u wr => ∃ (i : Nat) (f' : Nat → Value), i ≤ len ∧ u = .int .i64 i ∧ wr.rowIs b 70 q f' ∧ (∀ j, j < len → Wp wr S n (f' (j * 5 + 4))) ∧ Over S w wr) (fun u _ => len - (intOf u).toNat)
      case atStart => exact ⟨0, f, by omega, rfl, HR.out, HC.out, Over.refl _ _⟩
      case round =>
        obtain ⟨i, f', hi, rfl, hrw, hcw, how⟩ := hrel
        by_cases hil : i < len
        · have k4 := hrw.cell (i := i * 5 + 4) (by omega)
          have hwp := hcw i hil
          have hslv : ∃ A2 l2 c2, f' (i * 5 + 4) = .slice A2 l2 c2 := by
            obtain ⟨m, rfl⟩ := hwp.pos
            rcases hwp with e | ⟨b', l', c', q', g', e, -⟩
            · exact ⟨_, _, _, e⟩
            · exact ⟨_, _, _, e⟩
          obtain ⟨A2, l2, c2, e2⟩ := hslv
          rw [e2] at k4 hwp
          have HRW := Lib.hid hrw; have HCW := Lib.hid hcw; have HOW := Lib.hid how; have HWP := Lib.hid hwp
          clear hrw hcw how hwp e2
          go_wp2_with (go_at_call 9999)
          go_at_call 21
          refine (IH.out _ wr HWP.out).mono ?_
          rintro _ w6 ⟨rfl, o6⟩
          obtain ⟨f6, hr6, hf6⟩ := o6.row b q f' HRW.out
          have hc6 : ∀ j, j < len → Wp w6 S n (f6 (j * 5 + 4)) := fun j hj => by
            have := HCW.out j hj
            rcases hf6 j with e | e
            · rw [e]; exact this.over o6
            · rw [e]; obtain ⟨m, rfl⟩ := this.pos; exact Wp.nil _ _ _
          have ho6 := HOW.out.trans o6
          have hk0 := hr6.cell (i := i * 5) (by omega)
          have hk1 := hr6.cell (i := i * 5 + 1) (by omega)
          have hk2 := hr6.cell (i := i * 5 + 2) (by omega)
          have hk3 := hr6.cell (i := i * 5 + 3) (by omega)
          have hk4 := hr6.cell (i := i * 5 + 4) (by omega)
          have hfr : ∀ k, w6.frozen? ⟨b, k, none⟩ = false := hr6.frozen
          have HR6 := Lib.hid hr6; have HC6 := Lib.hid hc6; have HO6 := Lib.hid ho6
          clear hr6 hc6 ho6 o6 hf6 k4
          generalize f6 (i * 5) = x0 at hk0
          generalize f6 (i * 5 + 1) = x1 at hk1
          generalize f6 (i * 5 + 2) = x2 at hk2
          generalize f6 (i * 5 + 3) = x3 at hk3
          generalize f6 (i * 5 + 4) = x4 at hk4
          go_wp2_with fail
          have hov : Over S w6 (((((w6.setCell ⟨b, i * 5, none⟩ (.int .i64 1)).setCell ⟨b, i * 5 + 1, none⟩ (.int .i64 1)).setCell ⟨b, i * 5 + 2, none⟩ (.int .u64 0)).setCell ⟨b, i * 5 + 3, none⟩ (.int .u64 3)).setCell ⟨b, i * 5 + 4, none⟩ (.slice none 0 0)) :=
            ((((over_cell hb _ (fun h => by omega)).trans (over_cell hb _ (fun h => by omega))).trans (over_cell hb _ (fun h => by omega))).trans (over_cell hb _ (fun h => by omega))).trans (over_cell hb _ (fun _ => rfl))
          obtain ⟨f8, hr8, hf8⟩ := hov.row b q f6 HR6.out
          refine ⟨⟨i + 1, f8, by omega, by go_num, hr8, fun j hj => ?_, HO6.out.trans hov⟩, by simp [intOf]; omega⟩
          have := HC6.out j hj
          rcases hf8 j with e | e
          · rw [e]; exact this.over hov
          · rw [e]; obtain ⟨m, rfl⟩ := this.pos; exact Wp.nil _ _ _
        · obtain rfl : i = len := by omega
          go_wp2_with fail
          go_end0
          exact ⟨rfl, how⟩
end Go.Proofs.YtpfckpaokoifhaaGreatDoor.Wi
