/- wipe: a schema in memory of its own, written over. -/
import Derived.Test.YtinngljphjdpoaaGreatDoorJEq
import Derived.Test.YtinngljphjdpoaaGreatDoorJVl
import Derived.Test.YtinngljphjdpoaaGreatDoorJHt
import Derived.Test.YtinngljphjdpoaaGreatDoorJVs
namespace Go.Proofs.YtinngljphjdpoaaGreatDoor.Wi
open Go Go.RowKit Go.Proofs.YtinngljphjdpoaaGreatDoor.Pa Go.Proofs.YtinngljphjdpoaaGreatDoor.Pb Go.Proofs.YtinngljphjdpoaaGreatDoor.Pf Go.Proofs.YtinngljphjdpoaaGreatDoor.Sc Go.Proofs.YtinngljphjdpoaaGreatDoor.Rs Go.Proofs.YtinngljphjdpoaaGreatDoor.Hs Go.Proofs.YtinngljphjdpoaaGreatDoor.Va Go.Proofs.YtinngljphjdpoaaGreatDoor.Vc Go.Proofs.YtinngljphjdpoaaGreatDoor.Vd Go.Proofs.YtinngljphjdpoaaGreatDoor.Ca Go.Proofs.YtinngljphjdpoaaGreatDoor.Ce
set_option linter.unusedVariables false
set_option linter.unusedSimpArgs false
/-- What can be written over, in the blocks of S, less than n levels deep. -/
def Wp (w : World) (S : Pl) : Nat → Value → Prop
  | 0, _ => False
  | n + 1, v => v = .slice none 0 0 ∨ ∃ (b len cap q : Nat) (f : Nat → Value), v = .slice (some ⟨b, 0, none⟩) len cap ∧ len ≤ 20000 ∧ S b ∧ w.rowIs b 117 q f ∧ len * 5 ≤ q ∧ ∀ j, j < len → Wp w S n (f (j * 5 + 4))
/-- From one world to another where some of S was written over. -/
structure Over (S : Pl) (w w' : World) : Prop where
  os : w'.os = w.os
  tape : w'.tape = w.tape
  output : w'.output = w.output
  size : w'.heap.size = w.heap.size
  keep : ∀ b, ¬ S b → w'.heap[b]? = w.heap[b]?
  row : ∀ b q f, w.rowIs b 117 q f → ∃ f', w'.rowIs b 117 q f' ∧ ∀ j, f' (j * 5 + 4) = f (j * 5 + 4) ∨ f' (j * 5 + 4) = .slice none 0 0
theorem Over.refl (S : Pl) (w : World) : Over S w w := ⟨rfl, rfl, rfl, rfl, fun _ _ => rfl, fun b q f h => ⟨f, h, fun _ => .inl rfl⟩⟩
theorem Over.trans {S : Pl} {w w' w'' : World} (h : Over S w w') (k : Over S w' w'') : Over S w w'' :=
  ⟨k.os.trans h.os, k.tape.trans h.tape, k.output.trans h.output, k.size.trans h.size, fun b hb => (k.keep b hb).trans (h.keep b hb), fun b q f hr => by
    obtain ⟨f1, h1, e1⟩ := h.row b q f hr
    obtain ⟨f2, h2, e2⟩ := k.row b q f1 h1
    refine ⟨f2, h2, fun j => ?_⟩
    rcases e2 j with e | e
    · rw [e]; exact e1 j
    · exact .inr e⟩
theorem Wp.nil (w : World) (S : Pl) (n : Nat) : Wp w S (n + 1) (.slice none 0 0) := .inl rfl
theorem Wp.pos {w : World} {S : Pl} {n : Nat} {v : Value} (h : Wp w S n v) : ∃ m, n = m + 1 := by
  cases n with
  | zero => exact h.elim
  | succ m => exact ⟨m, rfl⟩
theorem Wp.over {S : Pl} {w w' : World} (ho : Over S w w') : ∀ (n : Nat) (v : Value), Wp w S n v → Wp w' S n v
  | 0, _, h => h.elim
  | n + 1, v, h => by
    rcases h with h | ⟨b, len, cap, q, f, e, hl, hb, hr, hq, hc⟩
    · exact .inl h
    · obtain ⟨f', hr', hf⟩ := ho.row b q f hr
      refine .inr ⟨b, len, cap, q, f', e, hl, hb, hr', hq, fun j hj => ?_⟩
      have := hc j hj
      rcases hf j with e | e
      · rw [e]; exact Wp.over ho n _ this
      · rw [e]
        obtain ⟨m, rfl⟩ := this.pos
        exact Wp.nil _ _ _
theorem over_cell {S : Pl} {w : World} {b o : Nat} (hb : S b) (v : Value) (h4 : o % 5 = 4 → v = .slice none 0 0) : Over S w (w.setCell ⟨b, o, none⟩ v) := by
  refine ⟨rfl, rfl, rfl, by simp [World.setCell], fun k hk => heap_setCell_other _ _ _ _ (fun e => hk (by rw [e]; exact hb)), fun k q f hr => ?_⟩
  by_cases e : k = b
  · subst e
    refine ⟨_, hr.set o v, fun j => ?_⟩
    by_cases ej : j * 5 + 4 = o
    · right; rw [if_pos ej]; exact h4 (by omega)
    · left; rw [if_neg ej]
  · exact ⟨f, hr.of_block (heap_setCell_other _ _ _ _ e), fun _ => .inl rfl⟩
theorem wp_of_hd {w : World} {base : Nat} {S : Pl} (hS : ∀ b, base ≤ b → b < w.heap.size → S b) : ∀ (n : Nat) (v : Value) (l : List Slot), Hd w base n v l → Few n l → Wp w S n v
  | 0, _, _, h, _ => h.elim
  | n + 1, v, l, h, hf => by
    obtain ⟨b, f, e, hb, hr, h1, h2⟩ := h
    refine .inr ⟨b, l.length, l.length + 3, (l.length + 3) * 5, f, e, by have := hf.1; omega, hS b hb hr.lt, hr, by omega, fun j hj => ?_⟩
    obtain ⟨g0, g1, g2, g3, g4, g5⟩ := h1 j l[j] (by simp [hj])
    exact wp_of_hd hS n _ _ g5 (hf.2 _ (List.getElem_mem hj))
set_option maxHeartbeats 4000000 in
set_option maxRecDepth 100000 in
theorem wipe (S : Pl) : ∀ (n : Nat) (v : Value) (w : World), Wp w S n v →
    Calls Tryz.prog 48 #[v] w fun e w' => e = .returned (.tuple #[]) ∧ Over S w w' := by
  intro n
  induction n with
  | zero => exact fun v w h => h.elim
  | succ n ih =>
    intro v w h
    have IH := Lib.hid ih; clear ih
    rcases h with rfl | ⟨b, len, cap, q, f, rfl, hl, hb, hr, hq, hc⟩
    · go_enter Tryz.func48, Tryz.ntmps48
      go_wp2_with fail
      go_loopw [2] (fun u wr => u = .int .i64 0 ∧ wr = w) (fun u _ => 0)
      case atStart => exact ⟨rfl, rfl⟩
      case round =>
        obtain ⟨rfl, rfl⟩ := hrel
        go_wp2_with fail
        go_end0
        exact ⟨rfl, Over.refl _ _⟩
    · have HC := Lib.hid hc; have HR := Lib.hid hr; clear hc hr
      go_enter Tryz.func48, Tryz.ntmps48
      go_wp2_with fail
      go_loopw [2] (fun u wr => ∃ (i : Nat) (f' : Nat → Value), i ≤ len ∧ u = .int .i64 i ∧ wr.rowIs b 117 q f' ∧ (∀ j, j < len → Wp wr S n (f' (j * 5 + 4))) ∧ Over S w wr) (fun u _ => len - (intOf u).toNat)
      case atStart => exact ⟨0, f, by omega, rfl, HR.out, HC.out, Over.refl _ _⟩
      case round =>
        obtain ⟨i, f', hi, rfl, hrw, hcw, how⟩ := hrel
        by_cases hil : i < len
        · have k4 := hrw.cell (i := i * 5 + 4) (by omega)
          have hwp := hcw i hil
          have hslv : ∃ A2 l2 c2, f' (i * 5 + 4) = .slice A2 l2 c2 := by
            obtain ⟨m, rfl⟩ := hwp.pos
            rcases hwp with e | ⟨b', l', c', q', g', e, -⟩
            · exact ⟨_, _, _, e⟩
            · exact ⟨_, _, _, e⟩
          obtain ⟨A2, l2, c2, e2⟩ := hslv
          rw [e2] at k4 hwp
          have HRW := Lib.hid hrw; have HCW := Lib.hid hcw; have HOW := Lib.hid how; have HWP := Lib.hid hwp
          clear hrw hcw how hwp e2
          go_wp2_with (go_at_call 9999)
          go_at_call 48
          refine (IH.out _ wr HWP.out).mono ?_
          rintro _ w6 ⟨rfl, o6⟩
          obtain ⟨f6, hr6, hf6⟩ := o6.row b q f' HRW.out
          have hc6 : ∀ j, j < len → Wp w6 S n (f6 (j * 5 + 4)) := fun j hj => by
            have := HCW.out j hj
            rcases hf6 j with e | e
            · rw [e]; exact this.over o6
            · rw [e]; obtain ⟨m, rfl⟩ := this.pos; exact Wp.nil _ _ _
          have ho6 := HOW.out.trans o6
          have hk0 := hr6.cell (i := i * 5) (by omega)
          have hk1 := hr6.cell (i := i * 5 + 1) (by omega)
          have hk2 := hr6.cell (i := i * 5 + 2) (by omega)
          have hk3 := hr6.cell (i := i * 5 + 3) (by omega)
          have hk4 := hr6.cell (i := i * 5 + 4) (by omega)
          have hfr : ∀ k, w6.frozen? ⟨b, k, none⟩ = false := hr6.frozen
          have HR6 := Lib.hid hr6; have HC6 := Lib.hid hc6; have HO6 := Lib.hid ho6
          clear hr6 hc6 ho6 o6 hf6 k4
          generalize f6 (i * 5) = x0 at hk0
          generalize f6 (i * 5 + 1) = x1 at hk1
          generalize f6 (i * 5 + 2) = x2 at hk2
          generalize f6 (i * 5 + 3) = x3 at hk3
          generalize f6 (i * 5 + 4) = x4 at hk4
          go_wp2_with fail
          have hov : Over S w6 (((((w6.setCell ⟨b, i * 5, none⟩ (.int .i64 1)).setCell ⟨b, i * 5 + 1, none⟩ (.int .i64 1)).setCell ⟨b, i * 5 + 2, none⟩ (.int .u64 0)).setCell ⟨b, i * 5 + 3, none⟩ (.int .u64 3)).setCell ⟨b, i * 5 + 4, none⟩ (.slice none 0 0)) :=
            ((((over_cell hb _ (fun h => by omega)).trans (over_cell hb _ (fun h => by omega))).trans (over_cell hb _ (fun h => by omega))).trans (over_cell hb _ (fun h => by omega))).trans (over_cell hb _ (fun _ => rfl))
          obtain ⟨f8, hr8, hf8⟩ := hov.row b q f6 HR6.out
          refine ⟨⟨i + 1, f8, by omega, by go_num, hr8, fun j hj => ?_, HO6.out.trans hov⟩, by simp [intOf]; omega⟩
          have := HC6.out j hj
          rcases hf8 j with e | e
          · rw [e]; exact this.over hov
          · rw [e]; obtain ⟨m, rfl⟩ := this.pos; exact Wp.nil _ _ _
        · obtain rfl : i = len := by omega
          go_wp2_with fail
          go_end0
          exact ⟨rfl, how⟩
end Go.Proofs.YtinngljphjdpoaaGreatDoor.Wi
/- leftSlots: a schema in memory of its own is as it was. -/
namespace Go.Proofs.YtinngljphjdpoaaGreatDoor.Ls
open Go Go.RowKit Go.Proofs.YtinngljphjdpoaaGreatDoor.Pa Go.Proofs.YtinngljphjdpoaaGreatDoor.Pb Go.Proofs.YtinngljphjdpoaaGreatDoor.Pf Go.Proofs.YtinngljphjdpoaaGreatDoor.Sc Go.Proofs.YtinngljphjdpoaaGreatDoor.Rs Go.Proofs.YtinngljphjdpoaaGreatDoor.Hs Go.Proofs.YtinngljphjdpoaaGreatDoor.Ht Go.Proofs.YtinngljphjdpoaaGreatDoor.Vl
set_option linter.unusedVariables false
set_option linter.unusedSimpArgs false

set_option maxHeartbeats 1000000 in
set_option maxRecDepth 100000 in
theorem leftSlots : ∀ (n base : Nat) (v v' : Value) (l : List Slot) (W w : World), RdS W n v l → Hd w base n v' l → Few n l → Below W.heap.size W w →
    Calls Tryz.prog 47 #[v', v] w fun e w' => e = .returned (.bool true) ∧ Below w.heap.size w w' := by
  intro n
  induction n with
  | zero => exact fun base v v' l W w h _ _ _ => h.elim
  | succ n ih =>
    intro base v v' l W w h hh hf hb
    obtain ⟨A, c, rfl, hlc, hcm⟩ := h.slice
    obtain ⟨hlen, hfs⟩ := hf
    clear hlc hcm
    obtain ⟨b, f, rfl, hbb, hrow, hslot, hmark⟩ := hh
    have IH := Lib.hid ih; have H := Lib.hid h; have HF := Lib.hid hfs; have HS := Lib.hid hslot; have HM := Lib.hid hmark; clear ih h hfs hslot hmark
    have hblt := hrow.lt
    have HROW := Lib.hid hrow; clear hrow
    go_enter Tryz.func47, Tryz.ntmps47
    go_wp2_with fail
    go_loopw [6] (fun s wr => ∃ (i : Nat), i ≤ l.length + 3 ∧ s = .int .i64 i ∧ Below w.heap.size w wr) (fun s _ => l.length + 3 - (intOf s).toNat)
    case atStart => exact ⟨0, by omega, rfl, Below.refl _ _⟩
    case round =>
      obtain ⟨i, hi, rfl, hbw⟩ := hrel
      by_cases hil : i < l.length + 3
      · have hrow : ∀ W', Below w.heap.size w W' → W'.rowIs b 117 ((l.length + 3) * 5) f := fun W' h => HROW.out.of_block (h.block b hblt)
        by_cases hin : i < l.length
        · obtain ⟨ad, rfl, hwf, sv, hsl, hrd⟩ := H.out.at_ i hin
          obtain ⟨g0, g1, g2, g3, g4, g5⟩ := HS.out i l[i] (by simp [hin])
          have hft := HF.out l[i] (List.getElem_mem hin)
          obtain ⟨p, hpa⟩ : ∃ p, ad.add (i * 5) = p := ⟨_, rfl⟩
          rw [hpa] at hsl
          generalize l[i] = t at *
          have hC : ∀ u : Held (Past w), u.w.cell? p = some (.int .i64 t.no) ∧ u.w.cell? ⟨p.block, p.off + 1, none⟩ = some (.int .i64 t.kind) ∧ u.w.cell? ⟨p.block, p.off + 2, none⟩ = some (.int .u64 t.least) ∧ u.w.cell? ⟨p.block, p.off + 3, none⟩ = some (.int .u64 t.most) ∧ u.w.cell? ⟨p.block, p.off + 4, none⟩ = some sv := fun u => by
            have k := hsl.keep ((hb.trans (Below.mono u.h hb.size)).block _ hsl.lt)
            exact ⟨k.no, k.kind, k.least, k.most, k.sub⟩
          have hD : ∀ u : Held (Past w), u.w.cell? ⟨b, i * 5, none⟩ = some (.int .i64 t.no) ∧ u.w.cell? ⟨b, i * 5 + 1, none⟩ = some (.int .i64 t.kind) ∧ u.w.cell? ⟨b, i * 5 + 2, none⟩ = some (.int .u64 t.least) ∧ u.w.cell? ⟨b, i * 5 + 3, none⟩ = some (.int .u64 t.most) ∧ u.w.cell? ⟨b, i * 5 + 4, none⟩ = some (f (i * 5 + 4)) := fun u => by
            have r := hrow u.w u.h
            exact ⟨by rw [← g1]; exact r.cell (i := i * 5) (by omega), by rw [← g2]; exact r.cell (i := i * 5 + 1) (by omega), by rw [← g3]; exact r.cell (i := i * 5 + 2) (by omega), by rw [← g4]; exact r.cell (i := i * 5 + 3) (by omega), r.cell (i := i * 5 + 4) (by omega)⟩
          obtain ⟨p0, p1, p2, p3, p4⟩ := forall_and5 hC
          obtain ⟨q0, q1, q2, q3, q4⟩ := forall_and5 hD
          have G5 := Lib.hid g5; have HRD := Lib.hid hrd; have HFT := Lib.hid hft; clear hC hD g1 g2 g3 g4 g5 hrd hft hsl hwf g0 hrow
          generalize f (i * 5 + 4) = sv' at *
          go_wp2_with fail
          refine wp_region_calm (S := Past w) (by kernel_rfl) (by kernel_rfl) hbw.drew ?_
          intro hN
          repeat (go_big_quiet_step (first | (go_at_call 47; exact calm_call (IH.out base _ _ _ W _ HRD.out (G5.out.below (Held.h _)) HFT.out (hb.trans (Below.mono (Held.h _) hb.size))) (fun w' hs hr => hs.on hr))))
          refine wpQuiet_nil ?_
          intro u
          have hub : Below w.heap.size w u.w := u.h
          clear p0 p1 p2 p3 p4 q0 q1 q2 q3 q4
          go_wp2_with fail
          go_roundw
          case rel => exact ⟨i + 1, by omega, by go_num, hub⟩
          case measure => simp [intOf]; omega
        · obtain ⟨m1, m2⟩ := HM.out i (by omega) hil
          have r := hrow wr hbw
          have k0 := r.cell (i := i * 5) (by omega)
          have k4 := r.cell (i := i * 5 + 4) (by omega)
          rw [m1] at k0
          rw [m2] at k4
          have hge : ((l.length : Nat) : Int) ≤ (i : Int) := by omega
          clear hrow m1 m2 r
          go_wp2_with fail
          go_roundw
          case rel => exact ⟨i + 1, by omega, by go_num, hbw⟩
          case measure => simp [intOf]; omega
      · obtain rfl : i = l.length + 3 := by omega
        go_wp2_with fail
        go_ret
        exact ⟨rfl, hbw⟩
end Go.Proofs.YtinngljphjdpoaaGreatDoor.Ls
/- Compile on both sides, the range, made. -/
namespace Go.Proofs.YtinngljphjdpoaaGreatDoor.Cm
open Go Go.RowKit Go.Proofs.YtinngljphjdpoaaGreatDoor.Pa Go.Proofs.YtinngljphjdpoaaGreatDoor.Pb Go.Proofs.YtinngljphjdpoaaGreatDoor.Pf Go.Proofs.YtinngljphjdpoaaGreatDoor.Nz Go.Proofs.YtinngljphjdpoaaGreatDoor.Sc Go.Proofs.YtinngljphjdpoaaGreatDoor.Rs Go.Proofs.YtinngljphjdpoaaGreatDoor.Hs Go.Proofs.YtinngljphjdpoaaGreatDoor.Ht Go.Proofs.YtinngljphjdpoaaGreatDoor.Va Go.Proofs.YtinngljphjdpoaaGreatDoor.Vc Go.Proofs.YtinngljphjdpoaaGreatDoor.Vd Go.Proofs.YtinngljphjdpoaaGreatDoor.Vl Go.Proofs.YtinngljphjdpoaaGreatDoor.Vs Go.Proofs.YtinngljphjdpoaaGreatDoor.Ls Go.Proofs.YtinngljphjdpoaaGreatDoor.Ca Go.Proofs.YtinngljphjdpoaaGreatDoor.Cb Go.Proofs.YtinngljphjdpoaaGreatDoor.Ce Go.Proofs.YtinngljphjdpoaaGreatDoor.Tw Go.Proofs.YtinngljphjdpoaaGreatDoor.Wi
set_option linter.unusedVariables false
set_option linter.unusedSimpArgs false
theorem sz_mono : ∀ (b a : Nat), a ≤ b → sz a ≤ sz b := by
  intro b
  induction b using Nat.strongRecOn with
  | _ b ih =>
    intro a h
    by_cases ha : 128 ≤ a
    · rw [sz_step ha, sz_step (show 128 ≤ b by omega)]
      have := ih (b / 128) (by omega) (a / 128) (Nat.div_le_div_right h)
      omega
    · rw [sz_end ha]; exact sz_pos b
theorem fr_mono {a b : Nat} (h : a ≤ b) : fr a ≤ fr b := by
  have := sz_mono b a h
  unfold fr; omega
theorem exVal_le {f : List Slot → Nat × Nat} {t : Slot} (hb : bnd t = true) (h : nest t = true → (f t.sub).1 ≤ (f t.sub).2) : (exVal f t).1 ≤ (exVal f t).2 := by
  obtain ⟨no, kind, least, most, sub⟩ := t
  have hb' := hb
  have hle : (kind = 1 ∨ kind = 5 ∨ kind = 6 ∨ kind = 9) → least ≤ most := by
    intro hk
    unfold bnd at hb
    simp only [Slot.kind, Slot.least, Slot.most] at hb
    rcases hk with rfl | rfl | rfl | rfl <;> simp at hb
    · exact of_decide_eq_true hb
    · exact of_decide_eq_true hb.1
    · exact of_decide_eq_true hb.1
    · exact of_decide_eq_true hb.1
  unfold exVal
  simp only [Slot.kind, Slot.least, Slot.most, Slot.sub] at *
  rcases bnd_kind hb' with e | e | e | e | e | e | e | e | e <;> simp only [Slot.kind] at e <;> subst e <;> simp
  · exact sz_mono _ _ (hle (by decide))
  · exact fr_mono (hle (by decide))
  · exact fr_mono (hle (by decide))
  · exact fr_mono (h (by simp [nest, Slot.kind]))
  · exact fr_mono (Nat.mul_le_mul (hle (by decide)) (fr_mono (h (by simp [nest, Slot.kind]))))
theorem exGo_le {f : List Slot → Nat × Nat} : ∀ (s : List Slot) (p : Nat × Nat), p.1 ≤ p.2 → (∀ t ∈ s, bnd t = true ∧ (nest t = true → (f t.sub).1 ≤ (f t.sub).2)) →
    (s.foldl (fun p t => (p.1 + hd t + (exVal f t).1, p.2 + hd t + (exVal f t).2)) p).1 ≤ (s.foldl (fun p t => (p.1 + hd t + (exVal f t).1, p.2 + hd t + (exVal f t).2)) p).2
  | [], p, hp, _ => hp
  | t :: r, p, hp, h => by
    have ht := h t (by simp)
    have := exVal_le (f := f) ht.1 ht.2
    exact exGo_le r _ (by simp only; omega) (fun u hu => h u (by simp [hu]))
theorem exSpan_le : ∀ (n k : Nat) (s : List Slot), okL k s → (exSpan n s).1 ≤ (exSpan n s).2
  | 0, _, _, _ => Nat.le_refl _
  | n + 1, 0, _, h => h.elim
  | n + 1, k + 1, s, h => exGo_le s (0, 0) (Nat.le_refl _) (fun t ht => ⟨(h.2 t ht).2.2.1, fun hn => exSpan_le n k t.sub ((h.2 t ht).2.2.2.1 hn)⟩)
/-- Where a schema can be, both spans are one. -/
theorem spans_eq {n : Nat} {l : List Slot} (h : valid n l = 0) : (pSpan n l).1 = (rSpan n l).1 ∧ (pSpan n l).2 = (rSpan n l).2 ∧ okL 6 l ∧ (exSpan n l).2 ≤ 4194304 ∧ pSpan n l = exSpan n l := by
  unfold valid at h
  split at h
  · cases h
  · rename_i hc
    split at h
    · cases h
    · rename_i hm
      obtain ⟨r, hr⟩ : ∃ r, canL 6 l 256 = some r := by cases h : canL 6 l 256 with
        | none => exact absurd h hc
        | some r => exact ⟨r, rfl⟩
      have hok := canL_ok 6 l 256 r hr
      have hp := pSpan_al n l
      have hq := rSpan_al n 6 l hok
      have hle := exSpan_le n 6 l hok
      obtain ⟨hp1, hp2⟩ := hp
      obtain ⟨hq1, hq2⟩ := hq
      unfold Al at *
      refine ⟨by omega, by omega, hok, by omega, ?_⟩
      apply Prod.ext
      · omega
      · omega
theorem Wp.below {w w' : World} {S : Pl} (hb : Below w.heap.size w w') : ∀ (n : Nat) (v : Value), Wp w S n v → Wp w' S n v
  | 0, _, h => h.elim
  | n + 1, v, h => by
    rcases h with h | ⟨b, len, cap, q, f, e, hl, hs, hr, hq, hc⟩
    · exact .inl h
    · exact .inr ⟨b, len, cap, q, f, e, hl, hs, hr.of_block (hb.block b hr.lt), hq, fun j hj => Wp.below hb n _ (hc j hj)⟩
/-- The reference's codec in block g. -/
def Rc (w : World) (S : Pl) (n g : Nat) (l : List Slot) : Prop := S g ∧ ∃ v, hp w g = some (.cells #[v] 101 (0, 0)) ∧ Tw w S n v l
theorem Rc.keep {w w' : World} {S S' : Pl} {n g : Nat} {l : List Slot} (hS : ∀ b, S b → S' b) (hk : ∀ b, S b → b < w.heap.size → w'.heap[b]? = w.heap[b]?) (h : Rc w S n g l) : Rc w' S' n g l := by
  obtain ⟨h1, v, h2, h3⟩ := h
  have hlt : g < w.heap.size := (Array.getElem?_eq_some_iff.1 h2).1
  exact ⟨hS g h1, v, by unfold hp at *; rw [hk g h1 hlt]; exact h2, Tw.keep hS hk n v l h3⟩
set_option maxRecDepth 100000 in
theorem pCompile {n : Nat} {v : Value} {l : List Slot} (w : World) (h : RdS w n v l) :
    Calls Tryz.prog 33 #[v] w fun e w' => ((valid n l ≠ 0 ∧ e = .returned (.tuple #[.pointer none, .int .i64 (valid n l)])) ∨ (valid n l = 0 ∧ ∃ c, e = .returned (.tuple #[ptr c, .int .i64 0]) ∧ Cd w' (Bt w w') n c l)) ∧ Below w.heap.size w w' := by
  obtain ⟨A, c, rfl, -⟩ := h.slice
  have H := Lib.hid h; clear h
  go_enter Tryz.func33, Tryz.ntmps33
  go_wp2_with (go_at_call 9999)
  go_at_call 63
  refine (pvalid w H.out).mono ?_
  rintro _ w1 ⟨rfl, b1⟩
  by_cases hv : valid n l = 0
  · rw [hv]
    obtain ⟨-, -, hok, -⟩ := spans_eq hv
    have HV := Lib.hid hv; have HOK := Lib.hid hok; have B1 := Lib.hid b1; clear hv hok b1
    go_wp2_with (go_at_call 9999)
    go_at_call 64
    refine (compile n 6 _ l w w1 H.out HOK.out B1.out).mono ?_
    rintro _ w2 ⟨c, rfl, hc, b2⟩
    have HC := Lib.hid hc; have B2 := Lib.hid b2; clear hc b2
    go_wp2_with fail
    go_ret2
    exact ⟨.inr ⟨HV.out, c, rfl, Cd.keep (Bt.sub B1.out.size (Nat.le_refl _)) (fun _ _ _ => rfl) n c l HC.out⟩, B1.out.trans (B2.out.mono B1.out.size)⟩
  · have B1 := Lib.hid b1; clear b1
    obtain ⟨V, hV⟩ : ∃ V, V = valid n l := ⟨_, rfl⟩
    rw [← hV] at hv ⊢
    have HV := Lib.hid hv; have HVV := Lib.hid hV; clear hV
    go_wp2_with fail
    go_ret2
    exact ⟨.inl ⟨by rw [← HVV.out]; exact HV.out, by rw [← HVV.out]; rfl⟩, B1.out⟩
set_option maxRecDepth 100000 in
theorem rCompile {n : Nat} {v : Value} {l : List Slot} (w : World) (h : RdS w n v l) (hf : Few n l) :
    Calls Tryz.prog 46 #[v] w fun e w' => ((valid n l ≠ 0 ∧ e = .returned (.tuple #[.pointer none, .int .i64 (valid n l)])) ∨ (valid n l = 0 ∧ ∃ c, e = .returned (.tuple #[ptr c, .int .i64 0]) ∧ Rc w' (Bt w w') n c l)) ∧ Below w.heap.size w w' := by
  obtain ⟨A, c, rfl, -⟩ := h.slice
  have H := Lib.hid h; have HF := Lib.hid hf; clear h hf
  go_enter Tryz.func46, Tryz.ntmps46
  go_wp2_with (go_at_call 9999)
  go_at_call 73
  refine (rvalid w H.out).mono ?_
  rintro _ w1 ⟨rfl, b1⟩
  by_cases hv : valid n l = 0
  · rw [hv]
    have HV := Lib.hid hv; have B1 := Lib.hid b1; clear hv b1
    go_wp2_with (go_at_call 9999)
    go_at_call 74
    refine (twin n _ l w w1 H.out HF.out B1.out).mono ?_
    rintro _ w2 ⟨v2, rfl, ht, b2⟩
    obtain ⟨A2, c2, rfl, -⟩ := (Tw.rd n v2 l ht).slice
    have HT := Lib.hid ht; have B2 := Lib.hid (B1.out.trans (b2.mono B1.out.size)); have HS := Lib.hid (show w.heap.size ≤ w1.heap.size ∧ w1.heap.size ≤ w2.heap.size from ⟨B1.out.size, b2.size⟩); clear ht b2
    go_wp2_with fail
    go_ret2
    have hs := HS.out
    refine ⟨.inr ⟨HV.out, w2.heap.size, rfl, ⟨by omega, by simp⟩, _, hp_alloc_at _ _ rfl, Tw.keep (Bt.sub hs.1 (by simp)) (fun b hb hlt => hp_alloc_past _ b hlt) n _ l HT.out⟩, B2.out.alloc (by omega) _⟩
  · have B1 := Lib.hid b1; clear b1
    obtain ⟨V, hV⟩ : ∃ V, V = valid n l := ⟨_, rfl⟩
    rw [← hV] at hv ⊢
    have HV := Lib.hid hv; have HVV := Lib.hid hV; clear hV
    go_wp2_with fail
    go_ret2
    exact ⟨.inl ⟨by rw [← HVV.out]; exact HV.out, by rw [← HVV.out]; rfl⟩, B1.out⟩
end Go.Proofs.YtinngljphjdpoaaGreatDoor.Cm
