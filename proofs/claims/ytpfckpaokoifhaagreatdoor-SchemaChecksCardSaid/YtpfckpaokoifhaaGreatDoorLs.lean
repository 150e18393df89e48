/- leftSlots: a schema in memory of its own is as it was. -/
import Derived.Test.YtpfckpaokoifhaaGreatDoorVl
import Derived.Test.YtpfckpaokoifhaaGreatDoorHt
namespace Go.Proofs.YtpfckpaokoifhaaGreatDoor.Ls
open Go Go.RowKit Go.Proofs.YtpfckpaokoifhaaGreatDoor.Pa Go.Proofs.YtpfckpaokoifhaaGreatDoor.Pb Go.Proofs.YtpfckpaokoifhaaGreatDoor.Pf Go.Proofs.YtpfckpaokoifhaaGreatDoor.Sc Go.Proofs.YtpfckpaokoifhaaGreatDoor.Rs Go.Proofs.YtpfckpaokoifhaaGreatDoor.Hs Go.Proofs.YtpfckpaokoifhaaGreatDoor.Ht Go.Proofs.YtpfckpaokoifhaaGreatDoor.Vl
set_option linter.unusedVariables false
set_option linter.unusedSimpArgs false

set_option maxHeartbeats 1000000 in
set_option maxRecDepth 100000 in
theorem leftSlots : ∀ (n base : Nat) (v v' : Value) (l : List Slot) (W w : World), RdS W n v l → Hd w base n v' l → Few n l → Below W.heap.size W w →
    Calls Tryz.prog 20 #[v', v] w fun e w' => e = .returned (.bool true) ∧ Below w.heap.size w w' := by
  intro n
  induction n with
  | zero => exact fun base v v' l W w h _ _ _ => h.elim
  | succ n ih =>
    intro base v v' l W w h hh hf hb
    obtain ⟨A, c, rfl, hlc, hcm⟩ := h.slice
    obtain ⟨hlen, hfs⟩ := hf
    clear hlc hcm
    obtain ⟨b, f, rfl, hbb, hrow, hslot, hmark⟩ := hh
    have IH := Lib.hid ih; have H := Lib.hid h; have HF := Lib.hid hfs; have HS := Lib.hid hslot; have HM := Lib.hid hmark; clear ih h hfs hslot hmark
    have hblt := hrow.lt
    have HROW := Lib.hid hrow; clear hrow
    go_enter Tryz.func20, Tryz.ntmps20
    go_wp2_with fail
    go_loopw [6] (fun s wr => ∃ (i : Nat), i ≤ l.length + 3 ∧ s = .int .i64 i ∧ Below w.heap.size w wr) (fun s _ => l.length + 3 - (intOf s).toNat)
    case atStart => exact ⟨0, by omega, rfl, Below.refl _ _⟩
    case round =>
      obtain ⟨i, hi, rfl, hbw⟩ := hrel
      by_cases hil : i < l.length + 3
      · have hrow : ∀ W', Below w.heap.size w W' → W'.rowIs b 70 ((l.length + 3) * 5) f := fun W' h => HROW.out.of_block (h.block b hblt)
        by_cases hin : i < l.length
        · obtain ⟨ad, rfl, hwf, sv, hsl, hrd⟩ := H.out.at_ i hin
          obtain ⟨g0, g1, g2, g3, g4, g5⟩ := HS.out i l[i] (by simp [hin])
          have hft := HF.out l[i] (List.getElem_mem hin)
          obtain ⟨p, hpa⟩ : ∃ p, ad.add (i * 5) = p := ⟨_, rfl⟩
          rw [hpa] at hsl
          generalize l[i] = t at *
          have hC : ∀ u : Held (Past w), u.w.cell? p = some (.int .i64 t.no) ∧ u.w.cell? ⟨p.block, p.off + 1, none⟩ = some (.int .i64 t.kind) ∧ u.w.cell? ⟨p.block, p.off + 2, none⟩ = some (.int .u64 t.least) ∧ u.w.cell? ⟨p.block, p.off + 3, none⟩ = some (.int .u64 t.most) ∧ u.w.cell? ⟨p.block, p.off + 4, none⟩ = some sv := fun u => by
            have k := hsl.keep ((hb.trans (Below.mono u.h hb.size)).block _ hsl.lt)
            exact ⟨k.no, k.kind, k.least, k.most, k.sub⟩
          have hD : ∀ u : Held (Past w), u.w.cell? ⟨b, i * 5, none⟩ = some (.int .i64 t.no) ∧ u.w.cell? ⟨b, i * 5 + 1, none⟩ = some (.int .i64 t.kind) ∧ u.w.cell? ⟨b, i * 5 + 2, none⟩ = some (.int .u64 t.least) ∧ u.w.cell? ⟨b, i * 5 + 3, none⟩ = some (.int .u64 t.most) ∧ u.w.cell? ⟨b, i * 5 + 4, none⟩ = some (f (i * 5 + 4)) := fun u => by
            have r := hrow u.w u.h
            exact ⟨by rw [← g1]; exact r.cell (i := i * 5) (by omega), by rw [← g2]; exact r.cell (i := i * 5 + 1) (by omega), by rw [← g3]; exact r.cell (i := i * 5 + 2) (by omega), by rw [← g4]; exact r.cell (i := i * 5 + 3) (by omega), r.cell (i := i * 5 + 4) (by omega)⟩
          obtain ⟨p0, p1, p2, p3, p4⟩ := forall_and5 hC
          obtain ⟨q0, q1, q2, q3, q4⟩ := forall_and5 hD
          have G5 := Lib.hid g5; have HRD := Lib.hid hrd; have HFT := Lib.hid hft; clear hC hD g1 g2 g3 g4 g5 hrd hft hsl hwf g0 hrow
          generalize f (i * 5 + 4) = sv' at *
          go_wp2_with fail
          refine wp_region_calm (S := Past w) (by kernel_rfl) (by kernel_rfl) hbw.drew ?_
          intro hN
          repeat (go_big_quiet_step (first | (go_at_call 20; exact calm_call (IH.out base _ _ _ W _ HRD.out (G5.out.below (Held.h _)) HFT.out (hb.trans (Below.mono (Held.h _) hb.size))) (fun w' hs hr => hs.on hr))))
          refine wpQuiet_nil ?_
          intro u
          have hub : Below w.heap.size w u.w := u.h
          clear p0 p1 p2 p3 p4 q0 q1 q2 q3 q4
          go_wp2_with fail
          go_roundw
          case rel => exact ⟨i + 1, by omega, by go_num, hub⟩
          case measure => simp [intOf]; omega
        · obtain ⟨m1, m2⟩ := HM.out i (by omega) hil
          have r := hrow wr hbw
          have k0 := r.cell (i := i * 5) (by omega)
          have k4 := r.cell (i := i * 5 + 4) (by omega)
          rw [m1] at k0
          rw [m2] at k4
          have hge : ((l.length : Nat) : Int) ≤ (i : Int) := by omega
          clear hrow m1 m2 r
          go_wp2_with fail
          go_roundw
          case rel => exact ⟨i + 1, by omega, by go_num, hbw⟩
          case measure => simp [intOf]; omega
      · obtain rfl : i = l.length + 3 := by omega
        go_wp2_with fail
        go_ret
        exact ⟨rfl, hbw⟩
end Go.Proofs.YtpfckpaokoifhaaGreatDoor.Ls
