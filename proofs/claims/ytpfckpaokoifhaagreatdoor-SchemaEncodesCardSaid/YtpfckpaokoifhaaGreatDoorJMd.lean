/- leftSlots: a schema in memory of its own is as it was. -/
import Derived.Test.YtpfckpaokoifhaaGreatDoorJVl
import Derived.Test.YtpfckpaokoifhaaGreatDoorJHt
import Derived.Test.YtpfckpaokoifhaaGreatDoorJWi
import Derived.Test.YtpfckpaokoifhaaGreatDoorJVs
import Derived.OwnWalk
namespace Go.Proofs.YtpfckpaokoifhaaGreatDoor.Ls
open Go Go.RowKit Go.Proofs.YtpfckpaokoifhaaGreatDoor.Pa Go.Proofs.YtpfckpaokoifhaaGreatDoor.Pb Go.Proofs.YtpfckpaokoifhaaGreatDoor.Pf Go.Proofs.YtpfckpaokoifhaaGreatDoor.Sc Go.Proofs.YtpfckpaokoifhaaGreatDoor.Rs Go.Proofs.YtpfckpaokoifhaaGreatDoor.Hs Go.Proofs.YtpfckpaokoifhaaGreatDoor.Ht Go.Proofs.YtpfckpaokoifhaaGreatDoor.Vl
set_option linter.unusedVariables false
set_option linter.unusedSimpArgs false

set_option maxHeartbeats 1000000 in
set_option maxRecDepth 100000 in
theorem leftSlots : ∀ (n base : Nat) (v v' : Value) (l : List Slot) (W w : World), RdS W n v l → Hd w base n v' l → Few n l → Below W.heap.size W w →
    Calls Tryz.prog 20 #[v', v] w fun e w' => e = .returned (.bool true) ∧ Below w.heap.size w w' := by
  intro n
  induction n with
  | zero => exact fun base v v' l W w h _ _ _ => h.elim
  | succ n ih =>
    intro base v v' l W w h hh hf hb
    obtain ⟨A, c, rfl, hlc, hcm⟩ := h.slice
    obtain ⟨hlen, hfs⟩ := hf
    clear hlc hcm
    obtain ⟨b, f, rfl, hbb, hrow, hslot, hmark⟩ := hh
    have IH := Lib.hid ih; have H := Lib.hid h; have HF := Lib.hid hfs; have HS := Lib.hid hslot; have HM := Lib.hid hmark; clear ih h hfs hslot hmark
    have hblt := hrow.lt
    have HROW := Lib.hid hrow; clear hrow
    go_enter Tryz.func20, Tryz.ntmps20
    go_wp2_with fail
    go_loopw [6] (fun s wr => ∃ (i : Nat), i ≤ l.length + 3 ∧ s = .int .i64 i ∧ Below w.heap.size w wr) (fun s _ => l.length + 3 - (intOf s).toNat)
    case atStart => exact ⟨0, by omega, rfl, Below.refl _ _⟩
    case round =>
      obtain ⟨i, hi, rfl, hbw⟩ := hrel
      by_cases hil : i < l.length + 3
      · have hrow : ∀ W', Below w.heap.size w W' → W'.rowIs b 70 ((l.length + 3) * 5) f := fun W' h => HROW.out.of_block (h.block b hblt)
        by_cases hin : i < l.length
        · obtain ⟨ad, rfl, hwf, sv, hsl, hrd⟩ := H.out.at_ i hin
          obtain ⟨g0, g1, g2, g3, g4, g5⟩ := HS.out i l[i] (by simp [hin])
          have hft := HF.out l[i] (List.getElem_mem hin)
          obtain ⟨p, hpa⟩ : ∃ p, ad.add (i * 5) = p := ⟨_, rfl⟩
          rw [hpa] at hsl
          generalize l[i] = t at *
          have hC : ∀ u : Held (Past w), u.w.cell? p = some (.int .i64 t.no) ∧ u.w.cell? ⟨p.block, p.off + 1, none⟩ = some (.int .i64 t.kind) ∧ u.w.cell? ⟨p.block, p.off + 2, none⟩ = some (.int .u64 t.least) ∧ u.w.cell? ⟨p.block, p.off + 3, none⟩ = some (.int .u64 t.most) ∧ u.w.cell? ⟨p.block, p.off + 4, none⟩ = some sv := fun u => by
            have k := hsl.keep ((hb.trans (Below.mono u.h hb.size)).block _ hsl.lt)
            exact ⟨k.no, k.kind, k.least, k.most, k.sub⟩
          have hD : ∀ u : Held (Past w), u.w.cell? ⟨b, i * 5, none⟩ = some (.int .i64 t.no) ∧ u.w.cell? ⟨b, i * 5 + 1, none⟩ = some (.int .i64 t.kind) ∧ u.w.cell? ⟨b, i * 5 + 2, none⟩ = some (.int .u64 t.least) ∧ u.w.cell? ⟨b, i * 5 + 3, none⟩ = some (.int .u64 t.most) ∧ u.w.cell? ⟨b, i * 5 + 4, none⟩ = some (f (i * 5 + 4)) := fun u => by
            have r := hrow u.w u.h
            exact ⟨by rw [← g1]; exact r.cell (i := i * 5) (by omega), by rw [← g2]; exact r.cell (i := i * 5 + 1) (by omega), by rw [← g3]; exact r.cell (i := i * 5 + 2) (by omega), by rw [← g4]; exact r.cell (i := i * 5 + 3) (by omega), r.cell (i := i * 5 + 4) (by omega)⟩
          obtain ⟨p0, p1, p2, p3, p4⟩ := forall_and5 hC
          obtain ⟨q0, q1, q2, q3, q4⟩ := forall_and5 hD
          have G5 := Lib.hid g5; have HRD := Lib.hid hrd; have HFT := Lib.hid hft; clear hC hD g1 g2 g3 g4 g5 hrd hft hsl hwf g0 hrow
          generalize f (i * 5 + 4) = sv' at *
          go_wp2_with fail
          refine wp_region_calm (S := Past w) (by kernel_rfl) (by kernel_rfl) hbw.drew ?_
          intro hN
          repeat (go_big_quiet_step (first | (go_at_call 20; exact calm_call (IH.out base _ _ _ W _ HRD.out (G5.out.below (Held.h _)) HFT.out (hb.trans (Below.mono (Held.h _) hb.size))) (fun w' hs hr => hs.on hr))))
          refine wpQuiet_nil ?_
          intro u
          have hub : Below w.heap.size w u.w := u.h
          clear p0 p1 p2 p3 p4 q0 q1 q2 q3 q4
          go_wp2_with fail
          go_roundw
          case rel => exact ⟨i + 1, by omega, by go_num, hub⟩
          case measure => simp [intOf]; omega
        · obtain ⟨m1, m2⟩ := HM.out i (by omega) hil
          have r := hrow wr hbw
          have k0 := r.cell (i := i * 5) (by omega)
          have k4 := r.cell (i := i * 5 + 4) (by omega)
          rw [m1] at k0
          rw [m2] at k4
          have hge : ((l.length : Nat) : Int) ≤ (i : Int) := by omega
          clear hrow m1 m2 r
          go_wp2_with fail
          go_roundw
          case rel => exact ⟨i + 1, by omega, by go_num, hbw⟩
          case measure => simp [intOf]; omega
      · obtain rfl : i = l.length + 3 := by omega
        go_wp2_with fail
        go_ret
        exact ⟨rfl, hbw⟩
end Go.Proofs.YtpfckpaokoifhaaGreatDoor.Ls
/- Compile on both sides, the range, made. -/
namespace Go.Proofs.YtpfckpaokoifhaaGreatDoor.Cm
open Go Go.RowKit Go.Proofs.YtpfckpaokoifhaaGreatDoor.Pa Go.Proofs.YtpfckpaokoifhaaGreatDoor.Pb Go.Proofs.YtpfckpaokoifhaaGreatDoor.Pf Go.Proofs.YtpfckpaokoifhaaGreatDoor.Nz Go.Proofs.YtpfckpaokoifhaaGreatDoor.Sc Go.Proofs.YtpfckpaokoifhaaGreatDoor.Rs Go.Proofs.YtpfckpaokoifhaaGreatDoor.Hs Go.Proofs.YtpfckpaokoifhaaGreatDoor.Ht Go.Proofs.YtpfckpaokoifhaaGreatDoor.Va Go.Proofs.YtpfckpaokoifhaaGreatDoor.Vc Go.Proofs.YtpfckpaokoifhaaGreatDoor.Vd Go.Proofs.YtpfckpaokoifhaaGreatDoor.Vl Go.Proofs.YtpfckpaokoifhaaGreatDoor.Vs Go.Proofs.YtpfckpaokoifhaaGreatDoor.Ls Go.Proofs.YtpfckpaokoifhaaGreatDoor.Ca Go.Proofs.YtpfckpaokoifhaaGreatDoor.Cb Go.Proofs.YtpfckpaokoifhaaGreatDoor.Ce Go.Proofs.YtpfckpaokoifhaaGreatDoor.Tw Go.Proofs.YtpfckpaokoifhaaGreatDoor.Wi
set_option linter.unusedVariables false
set_option linter.unusedSimpArgs false
theorem sz_mono : ∀ (b a : Nat), a ≤ b → sz a ≤ sz b := by
  intro b
  induction b using Nat.strongRecOn with
  | _ b ih =>
    intro a h
    by_cases ha : 128 ≤ a
    · rw [sz_step ha, sz_step (show 128 ≤ b by omega)]
      have := ih (b / 128) (by omega) (a / 128) (Nat.div_le_div_right h)
      omega
    · rw [sz_end ha]; exact sz_pos b
theorem fr_mono {a b : Nat} (h : a ≤ b) : fr a ≤ fr b := by
  have := sz_mono b a h
  unfold fr; omega
theorem exVal_le {f : List Slot → Nat × Nat} {t : Slot} (hb : bnd t = true) (h : nest t = true → (f t.sub).1 ≤ (f t.sub).2) : (exVal f t).1 ≤ (exVal f t).2 := by
  obtain ⟨no, kind, least, most, sub⟩ := t
  have hb' := hb
  have hle : (kind = 1 ∨ kind = 5 ∨ kind = 6 ∨ kind = 9) → least ≤ most := by
    intro hk
    unfold bnd at hb
    simp only [Slot.kind, Slot.least, Slot.most] at hb
    rcases hk with rfl | rfl | rfl | rfl <;> simp at hb
    · exact of_decide_eq_true hb
    · exact of_decide_eq_true hb.1
    · exact of_decide_eq_true hb.1
    · exact of_decide_eq_true hb.1
  unfold exVal
  simp only [Slot.kind, Slot.least, Slot.most, Slot.sub] at *
  rcases bnd_kind hb' with e | e | e | e | e | e | e | e | e <;> simp only [Slot.kind] at e <;> subst e <;> simp
  · exact sz_mono _ _ (hle (by decide))
  · exact fr_mono (hle (by decide))
  · exact fr_mono (hle (by decide))
  · exact fr_mono (h (by simp [nest, Slot.kind]))
  · exact fr_mono (Nat.mul_le_mul (hle (by decide)) (fr_mono (h (by simp [nest, Slot.kind]))))
theorem exGo_le {f : List Slot → Nat × Nat} : ∀ (s : List Slot) (p : Nat × Nat), p.1 ≤ p.2 → (∀ t ∈ s, bnd t = true ∧ (nest t = true → (f t.sub).1 ≤ (f t.sub).2)) →
    (s.foldl (fun p t => (p.1 + hd t + (exVal f t).1, p.2 + hd t + (exVal f t).2)) p).1 ≤ (s.foldl (fun p t => (p.1 + hd t + (exVal f t).1, p.2 + hd t + (exVal f t).2)) p).2
  | [], p, hp, _ => hp
  | t :: r, p, hp, h => by
    have ht := h t (by simp)
    have := exVal_le (f := f) ht.1 ht.2
    exact exGo_le r _ (by simp only; omega) (fun u hu => h u (by simp [hu]))
theorem exSpan_le : ∀ (n k : Nat) (s : List Slot), okL k s → (exSpan n s).1 ≤ (exSpan n s).2
  | 0, _, _, _ => Nat.le_refl _
  | n + 1, 0, _, h => h.elim
  | n + 1, k + 1, s, h => exGo_le s (0, 0) (Nat.le_refl _) (fun t ht => ⟨(h.2 t ht).2.2.1, fun hn => exSpan_le n k t.sub ((h.2 t ht).2.2.2.1 hn)⟩)
/-- Where a schema can be, both spans are one. -/
theorem spans_eq {n : Nat} {l : List Slot} (h : valid n l = 0) : (pSpan n l).1 = (rSpan n l).1 ∧ (pSpan n l).2 = (rSpan n l).2 ∧ okL 6 l ∧ (exSpan n l).2 ≤ 4194304 ∧ pSpan n l = exSpan n l := by
  unfold valid at h
  split at h
  · cases h
  · rename_i hc
    split at h
    · cases h
    · rename_i hm
      obtain ⟨r, hr⟩ : ∃ r, canL 6 l 256 = some r := by cases h : canL 6 l 256 with
        | none => exact absurd h hc
        | some r => exact ⟨r, rfl⟩
      have hok := canL_ok 6 l 256 r hr
      have hp := pSpan_al n l
      have hq := rSpan_al n 6 l hok
      have hle := exSpan_le n 6 l hok
      obtain ⟨hp1, hp2⟩ := hp
      obtain ⟨hq1, hq2⟩ := hq
      unfold Al at *
      refine ⟨by omega, by omega, hok, by omega, ?_⟩
      apply Prod.ext
      · omega
      · omega
theorem Wp.below {w w' : World} {S : Pl} (hb : Below w.heap.size w w') : ∀ (n : Nat) (v : Value), Wp w S n v → Wp w' S n v
  | 0, _, h => h.elim
  | n + 1, v, h => by
    rcases h with h | ⟨b, len, cap, q, f, e, hl, hs, hr, hq, hc⟩
    · exact .inl h
    · exact .inr ⟨b, len, cap, q, f, e, hl, hs, hr.of_block (hb.block b hr.lt), hq, fun j hj => Wp.below hb n _ (hc j hj)⟩
/-- The reference's codec in block g. -/
def Rc (w : World) (S : Pl) (n g : Nat) (l : List Slot) : Prop := S g ∧ ∃ v, hp w g = some (.cells #[v] 66 (0, 0)) ∧ Tw w S n v l
theorem Rc.keep {w w' : World} {S S' : Pl} {n g : Nat} {l : List Slot} (hS : ∀ b, S b → S' b) (hk : ∀ b, S b → b < w.heap.size → w'.heap[b]? = w.heap[b]?) (h : Rc w S n g l) : Rc w' S' n g l := by
  obtain ⟨h1, v, h2, h3⟩ := h
  have hlt : g < w.heap.size := (Array.getElem?_eq_some_iff.1 h2).1
  exact ⟨hS g h1, v, by unfold hp at *; rw [hk g h1 hlt]; exact h2, Tw.keep hS hk n v l h3⟩
set_option maxRecDepth 100000 in
theorem pCompile {n : Nat} {v : Value} {l : List Slot} (w : World) (h : RdS w n v l) :
    Calls Tryz.prog 18 #[v] w fun e w' => ((valid n l ≠ 0 ∧ e = .returned (.tuple #[.pointer none, .int .i64 (valid n l)])) ∨ (valid n l = 0 ∧ ∃ c, e = .returned (.tuple #[ptr c, .int .i64 0]) ∧ Cd w' (Bt w w') n c l)) ∧ Below w.heap.size w w' := by
  obtain ⟨A, c, rfl, -⟩ := h.slice
  have H := Lib.hid h; clear h
  go_enter Tryz.func18, Tryz.ntmps18
  go_wp2_with (go_at_call 9999)
  go_at_call 28
  refine (pvalid w H.out).mono ?_
  rintro _ w1 ⟨rfl, b1⟩
  by_cases hv : valid n l = 0
  · rw [hv]
    obtain ⟨-, -, hok, -⟩ := spans_eq hv
    have HV := Lib.hid hv; have HOK := Lib.hid hok; have B1 := Lib.hid b1; clear hv hok b1
    go_wp2_with (go_at_call 9999)
    go_at_call 29
    refine (compile n 6 _ l w w1 H.out HOK.out B1.out).mono ?_
    rintro _ w2 ⟨c, rfl, hc, b2⟩
    have HC := Lib.hid hc; have B2 := Lib.hid b2; clear hc b2
    go_wp2_with fail
    go_ret2
    exact ⟨.inr ⟨HV.out, c, rfl, Cd.keep (Bt.sub B1.out.size (Nat.le_refl _)) (fun _ _ _ => rfl) n c l HC.out⟩, B1.out.trans (B2.out.mono B1.out.size)⟩
  · have B1 := Lib.hid b1; clear b1
    obtain ⟨V, hV⟩ : ∃ V, V = valid n l := ⟨_, rfl⟩
    rw [← hV] at hv ⊢
    have HV := Lib.hid hv; have HVV := Lib.hid hV; clear hV
    go_wp2_with fail
    go_ret2
    exact ⟨.inl ⟨by rw [← HVV.out]; exact HV.out, by rw [← HVV.out]; rfl⟩, B1.out⟩
set_option maxRecDepth 100000 in
theorem rCompile {n : Nat} {v : Value} {l : List Slot} (w : World) (h : RdS w n v l) (hf : Few n l) :
    Calls Tryz.prog 19 #[v] w fun e w' => ((valid n l ≠ 0 ∧ e = .returned (.tuple #[.pointer none, .int .i64 (valid n l)])) ∨ (valid n l = 0 ∧ ∃ c, e = .returned (.tuple #[ptr c, .int .i64 0]) ∧ Rc w' (Bt w w') n c l)) ∧ Below w.heap.size w w' := by
  obtain ⟨A, c, rfl, -⟩ := h.slice
  have H := Lib.hid h; have HF := Lib.hid hf; clear h hf
  go_enter Tryz.func19, Tryz.ntmps19
  go_wp2_with (go_at_call 9999)
  go_at_call 30
  refine (rvalid w H.out).mono ?_
  rintro _ w1 ⟨rfl, b1⟩
  by_cases hv : valid n l = 0
  · rw [hv]
    have HV := Lib.hid hv; have B1 := Lib.hid b1; clear hv b1
    go_wp2_with (go_at_call 9999)
    go_at_call 31
    refine (twin n _ l w w1 H.out HF.out B1.out).mono ?_
    rintro _ w2 ⟨v2, rfl, ht, b2⟩
    obtain ⟨A2, c2, rfl, -⟩ := (Tw.rd n v2 l ht).slice
    have HT := Lib.hid ht; have B2 := Lib.hid (B1.out.trans (b2.mono B1.out.size)); have HS := Lib.hid (show w.heap.size ≤ w1.heap.size ∧ w1.heap.size ≤ w2.heap.size from ⟨B1.out.size, b2.size⟩); clear ht b2
    go_wp2_with fail
    go_ret2
    have hs := HS.out
    refine ⟨.inr ⟨HV.out, w2.heap.size, rfl, ⟨by omega, by simp⟩, _, hp_alloc_at _ _ rfl, Tw.keep (Bt.sub hs.1 (by simp)) (fun b hb hlt => hp_alloc_past _ b hlt) n _ l HT.out⟩, B2.out.alloc (by omega) _⟩
  · have B1 := Lib.hid b1; clear b1
    obtain ⟨V, hV⟩ : ∃ V, V = valid n l := ⟨_, rfl⟩
    rw [← hV] at hv ⊢
    have HV := Lib.hid hv; have HVV := Lib.hid hV; clear hV
    go_wp2_with fail
    go_ret2
    exact ⟨.inl ⟨by rw [← HVV.out]; exact HV.out, by rw [← HVV.out]; rfl⟩, B1.out⟩
end Go.Proofs.YtpfckpaokoifhaaGreatDoor.Cm
/- made: both codecs of a schema. -/
namespace Go.Proofs.YtpfckpaokoifhaaGreatDoor.Md
open Go Go.RowKit Go.Proofs.YtpfckpaokoifhaaGreatDoor.Pa Go.Proofs.YtpfckpaokoifhaaGreatDoor.Pb Go.Proofs.YtpfckpaokoifhaaGreatDoor.Pf Go.Proofs.YtpfckpaokoifhaaGreatDoor.Sc Go.Proofs.YtpfckpaokoifhaaGreatDoor.Rs Go.Proofs.YtpfckpaokoifhaaGreatDoor.Sl Go.Proofs.YtpfckpaokoifhaaGreatDoor.Hs Go.Proofs.YtpfckpaokoifhaaGreatDoor.Ht Go.Proofs.YtpfckpaokoifhaaGreatDoor.Va Go.Proofs.YtpfckpaokoifhaaGreatDoor.Vc Go.Proofs.YtpfckpaokoifhaaGreatDoor.Vd Go.Proofs.YtpfckpaokoifhaaGreatDoor.Vl Go.Proofs.YtpfckpaokoifhaaGreatDoor.Vs Go.Proofs.YtpfckpaokoifhaaGreatDoor.Ls Go.Proofs.YtpfckpaokoifhaaGreatDoor.Ca Go.Proofs.YtpfckpaokoifhaaGreatDoor.Cb Go.Proofs.YtpfckpaokoifhaaGreatDoor.Ce Go.Proofs.YtpfckpaokoifhaaGreatDoor.Tw Go.Proofs.YtpfckpaokoifhaaGreatDoor.Wi Go.Proofs.YtpfckpaokoifhaaGreatDoor.Cm
set_option linter.unusedVariables false
set_option linter.unusedSimpArgs false
/-- What made hands back. -/
def MadeSaid (n : Nat) (l : List Slot) (W : World) (e : Ending) (w' : World) : Prop :=
  ((valid n l ≠ 0 ∧ e = .returned (.tuple #[.pointer none, .pointer none, .bool true])) ∨ (valid n l = 0 ∧ ∃ c r, e = .returned (.tuple #[ptr c, ptr r, .bool true]) ∧ Cd w' (Bt W w') n c l ∧ Rc w' (Bt W w') n r l)) ∧ Below W.heap.size W w'
set_option maxHeartbeats 2000000 in
set_option maxRecDepth 100000 in
theorem made {n : Nat} {v : Value} {l : List Slot} (W : World) (h : RdS W n v l) (hf : Few n l) : Calls Tryz.prog 7 #[v] W (MadeSaid n l W) := by
  obtain ⟨A, c, rfl, -⟩ := h.slice
  have hlen : l.length + 3 ≤ maxLen := by
    obtain ⟨m, rfl⟩ := h.pos
    have := hf.1
    simp [maxLen]; omega
  have H := Lib.hid h; have HF := Lib.hid hf; have HL := Lib.hid hlen; clear h hf hlen
  unfold MadeSaid
  go_enter Tryz.func7, Tryz.ntmps7
  go_wp2_with (go_at_call 9999)
  go_at_call 17
  refine (handSlots n _ l W W H.out HF.out (Below.refl _ _)).mono ?_
  rintro e w1 ⟨v', rfl, hd1, hb1⟩
  have hwp := wp_of_hd (S := fun b => W.heap.size ≤ b ∧ b < w1.heap.size) (fun b h1 h2 => ⟨h1, h2⟩) n v' l hd1 HF.out
  obtain ⟨b, rfl, -⟩ := hd1.slice
  have HD1 := Lib.hid hd1; have HWP := Lib.hid hwp; have B1 := Lib.hid hb1; clear hd1 hwp hb1
  go_wp2_with (go_at_call 9999)
  go_at_call 18
  refine (pCompile w1 (HD1.out.rd n _ _ HL.out HF.out)).mono ?_
  rintro e w2 ⟨he, hb2⟩
  have hc2 := B1.out.trans (hb2.mono B1.out.size)
  have B12 := Lib.hid hb2; have B2 := Lib.hid hc2; clear hb2 hc2
  have rc := rCompile w2 (H.out.below B2.out) HF.out
  have RC := Lib.hid rc; clear rc
  -- what comes behind both, given the two answers
  have tail : ∀ (w3 w5 : World), Below w2.heap.size w2 w3 → (∃ w4, Below w3.heap.size w3 w4 ∧ Over (fun b => W.heap.size ≤ b ∧ b < w1.heap.size) w4 w5) → Below W.heap.size W w5 ∧ (∀ k, w1.heap.size ≤ k → k < w3.heap.size → w5.heap[k]? = w3.heap[k]?) ∧ w3.heap.size ≤ w5.heap.size := by
    rintro w3 w5 b3 ⟨w4, b4, ov⟩
    have h1 := B1.out.size; have h2 := B12.out.size; have h3 := b3.size; have h4 := b4.size
    have hW4 : Below W.heap.size W w4 := (B2.out.trans (b3.mono (by omega))).trans (b4.mono (by omega))
    refine ⟨⟨ov.os.trans hW4.os, ov.tape.trans hW4.tape, ov.output.trans hW4.output, by rw [ov.size]; exact hW4.size, fun k hk => (ov.keep k (fun h => by omega)).trans (hW4.block k hk)⟩, fun k hk1 hk2 => (ov.keep k (fun h => by omega)).trans (b4.block k hk2), by rw [ov.size]; exact h4⟩
  have TL := Lib.hid tail; clear tail
  have lf : ∀ w3, Below w2.heap.size w2 w3 → Calls Tryz.prog 20 #[.slice (some ⟨b, 0, none⟩) l.length (l.length + 3), .slice A l.length c] w3 fun e w' => e = .returned (.bool true) ∧ Below w3.heap.size w3 w' := fun w3 b3 =>
    leftSlots n _ _ _ l W w3 H.out ((HD1.out.below B12.out).below b3) HF.out (B2.out.trans (b3.mono B2.out.size))
  have LF := Lib.hid lf; clear lf
  have wi : ∀ w3 w4, Below w2.heap.size w2 w3 → Below w3.heap.size w3 w4 → Calls Tryz.prog 21 #[.slice (some ⟨b, 0, none⟩) l.length (l.length + 3)] w4 fun e w' => e = .returned (.tuple #[]) ∧ Over (fun b => W.heap.size ≤ b ∧ b < w1.heap.size) w4 w' := fun w3 w4 b3 b4 =>
    wipe _ n _ w4 (Wp.below b4 n _ (Wp.below b3 n _ (Wp.below B12.out n _ HWP.out)))
  have WI := Lib.hid wi; clear wi
  rcases he with ⟨hv, rfl⟩ | ⟨hv, cc, rfl, hcd⟩
  · have HV := Lib.hid hv; clear hv
    go_wp2_with (go_at_call 9999)
    go_at_call 19
    refine RC.out.mono ?_
    rintro e w3 ⟨he, hb3⟩
    rcases he with ⟨-, rfl⟩ | ⟨h0, -⟩
    · have B3 := Lib.hid hb3; clear hb3
      go_wp2_with (go_at_call 9999)
      go_at_call 20
      refine (LF.out w3 B3.out).mono ?_
      rintro e w4 ⟨rfl, hb4⟩
      have B4 := Lib.hid hb4; clear hb4
      go_wp2_with (go_at_call 9999)
      go_at_call 21
      refine (WI.out w3 w4 B3.out B4.out).mono ?_
      rintro e w5 ⟨rfl, hov⟩
      have HO := Lib.hid hov; clear hov
      go_wp2_with fail
      go_ret3
      exact ⟨.inl ⟨HV.out, rfl⟩, (TL.out w3 w5 B3.out ⟨w4, B4.out, HO.out⟩).1⟩
    · exact absurd h0 HV.out
  · have HV := Lib.hid hv; have HCD := Lib.hid hcd; clear hv hcd
    unfold ptr at *
    go_wp2_with (go_at_call 9999)
    go_at_call 19
    refine RC.out.mono ?_
    rintro e w3 ⟨he, hb3⟩
    rcases he with ⟨h0, -⟩ | ⟨-, r, rfl, hrc⟩
    · exact absurd HV.out h0
    · have B3 := Lib.hid hb3; have HRC := Lib.hid hrc; clear hb3 hrc
      go_wp2_with (go_at_call 9999)
      go_at_call 20
      refine (LF.out w3 B3.out).mono ?_
      rintro e w4 ⟨rfl, hb4⟩
      have B4 := Lib.hid hb4; clear hb4
      go_wp2_with (go_at_call 9999)
      go_at_call 21
      refine (WI.out w3 w4 B3.out B4.out).mono ?_
      rintro e w5 ⟨rfl, hov⟩
      have HO := Lib.hid hov; clear hov
      go_wp2_with fail
      go_ret3
      obtain ⟨t1, t2, t3⟩ := TL.out w3 w5 B3.out ⟨w4, B4.out, HO.out⟩
      have s1 := B1.out.size; have s2 := B12.out.size; have s3 := B3.out.size
      refine ⟨.inr ⟨HV.out, cc, r, rfl, Cd.keep (Bt.sub s1 (by omega)) (fun q hq _ => ?_) n cc l HCD.out, Rc.keep (Bt.sub (by omega) (by omega)) (fun q hq _ => ?_) HRC.out⟩, t1⟩
      · exact (t2 q hq.1 (by have := hq.2; omega)).trans (B3.out.block q hq.2)
      · exact t2 q (by have := hq.1; omega) hq.2
end Go.Proofs.YtpfckpaokoifhaaGreatDoor.Md
