/- Compile on both sides, the range, made. -/
import Derived.Test.YtpfckpaokoifhaaGreatDoorWi
import Derived.Test.YtpfckpaokoifhaaGreatDoorVs
import Derived.Test.YtpfckpaokoifhaaGreatDoorLs
namespace Go.Proofs.YtpfckpaokoifhaaGreatDoor.Cm
open Go Go.RowKit Go.Proofs.YtpfckpaokoifhaaGreatDoor.Pa Go.Proofs.YtpfckpaokoifhaaGreatDoor.Pb Go.Proofs.YtpfckpaokoifhaaGreatDoor.Pf Go.Proofs.YtpfckpaokoifhaaGreatDoor.Nz Go.Proofs.YtpfckpaokoifhaaGreatDoor.Sc Go.Proofs.YtpfckpaokoifhaaGreatDoor.Rs Go.Proofs.YtpfckpaokoifhaaGreatDoor.Hs Go.Proofs.YtpfckpaokoifhaaGreatDoor.Ht Go.Proofs.YtpfckpaokoifhaaGreatDoor.Va Go.Proofs.YtpfckpaokoifhaaGreatDoor.Vc Go.Proofs.YtpfckpaokoifhaaGreatDoor.Vd Go.Proofs.YtpfckpaokoifhaaGreatDoor.Vl Go.Proofs.YtpfckpaokoifhaaGreatDoor.Vs Go.Proofs.YtpfckpaokoifhaaGreatDoor.Ls Go.Proofs.YtpfckpaokoifhaaGreatDoor.Ca Go.Proofs.YtpfckpaokoifhaaGreatDoor.Cb Go.Proofs.YtpfckpaokoifhaaGreatDoor.Ce Go.Proofs.YtpfckpaokoifhaaGreatDoor.Tw Go.Proofs.YtpfckpaokoifhaaGreatDoor.Wi
set_option linter.unusedVariables false
set_option linter.unusedSimpArgs false
theorem sz_mono : ∀ (b a : Nat), a ≤ b → sz a ≤ sz b := by
  intro b
  induction b using Nat.strongRecOn with
  | _ b ih =>
    intro a h
    by_cases ha : 128 ≤ a
    · rw [sz_step ha, sz_step (show 128 ≤ b by omega)]
      have := ih (b / 128) (by omega) (a / 128) (Nat.div_le_div_right h)
      omega
    · rw [sz_end ha]; exact sz_pos b
theorem fr_mono {a b : Nat} (h : a ≤ b) : fr a ≤ fr b := by
  have := sz_mono b a h
  unfold fr; omega
theorem exVal_le {f : List Slot → Nat × Nat} {t : Slot} (hb : bnd t = true) (h : nest t = true → (f t.sub).1 ≤ (f t.sub).2) : (exVal f t).1 ≤ (exVal f t).2 := by
  obtain ⟨no, kind, least, most, sub⟩ := t
  have hb' := hb
  have hle : (kind = 1 ∨ kind = 5 ∨ kind = 6 ∨ kind = 9) → least ≤ most := by
    intro hk
    unfold bnd at hb
    simp only [Slot.kind, Slot.least, Slot.most] at hb
    rcases hk with rfl | rfl | rfl | rfl <;> simp at hb
    · exact of_decide_eq_true hb
    · exact of_decide_eq_true hb.1
    · exact of_decide_eq_true hb.1
    · exact of_decide_eq_true hb.1
  unfold exVal
  simp only [Slot.kind, Slot.least, Slot.most, Slot.sub] at *
  rcases bnd_kind hb' with e | e | e | e | e | e | e | e | e <;> simp only [Slot.kind] at e <;> subst e <;> simp
  · exact sz_mono _ _ (hle (by decide))
  · exact fr_mono (hle (by decide))
  · exact fr_mono (hle (by decide))
  · exact fr_mono (h (by simp [nest, Slot.kind]))
  · exact fr_mono (Nat.mul_le_mul (hle (by decide)) (fr_mono (h (by simp [nest, Slot.kind]))))
theorem exGo_le {f : List Slot → Nat × Nat} : ∀ (s : List Slot) (p : Nat × Nat), p.1 ≤ p.2 → (∀ t ∈ s, bnd t = true ∧ (nest t = true → (f t.sub).1 ≤ (f t.sub).2)) →
    (s.foldl (fun p t => (p.1 + hd t + (exVal f t).1, p.2 + hd t + (exVal f t).2)) p).1 ≤ (s.foldl (fun p t => (p.1 + hd t + (exVal f t).1, p.2 + hd t + (exVal f t).2)) p).2
  | [], p, hp, _ => hp
  | t :: r, p, hp, h => by
    have ht := h t (by simp)
    have := exVal_le (f := f) ht.1 ht.2
    exact exGo_le r _ (by simp only; omega) (fun u hu => h u (by simp [hu]))
theorem exSpan_le : ∀ (n k : Nat) (s : List Slot), okL k s → (exSpan n s).1 ≤ (exSpan n s).2
  | 0, _, _, _ => Nat.le_refl _
  | n + 1, 0, _, h => h.elim
  | n + 1, k + 1, s, h => exGo_le s (0, 0) (Nat.le_refl _) (fun t ht => ⟨(h.2 t ht).2.2.1, fun hn => exSpan_le n k t.sub ((h.2 t ht).2.2.2.1 hn)⟩)
/-- Where a schema can be, both spans are one. -/
theorem spans_eq {n : Nat} {l : List Slot} (h : valid n l = 0) : (pSpan n l).1 = (rSpan n l).1 ∧ (pSpan n l).2 = (rSpan n l).2 ∧ okL 6 l ∧ (exSpan n l).2 ≤ 4194304 ∧ pSpan n l = exSpan n l := by
  unfold valid at h
  split at h
  · cases h
  · rename_i hc
    split at h
    · cases h
    · rename_i hm
      obtain ⟨r, hr⟩ : ∃ r, canL 6 l 256 = some r := by cases h : canL 6 l 256 with
        | none => exact absurd h hc
        | some r => exact ⟨r, rfl⟩
      have hok := canL_ok 6 l 256 r hr
      have hp := pSpan_al n l
      have hq := rSpan_al n 6 l hok
      have hle := exSpan_le n 6 l hok
      obtain ⟨hp1, hp2⟩ := hp
      obtain ⟨hq1, hq2⟩ := hq
      unfold Al at *
      refine ⟨by omega, by omega, hok, by omega, ?_⟩
      apply Prod.ext
      · omega
      · omega
theorem Wp.below {w w' : World} {S : Pl} (hb : Below w.heap.size w w') : ∀ (n : Nat) (v : Value), Wp w S n v → Wp w' S n v
  | 0, _, h => h.elim
  | n + 1, v, h => by
    rcases h with h | ⟨b, len, cap, q, f, e, hl, hs, hr, hq, hc⟩
    · exact .inl h
    · exact .inr ⟨b, len, cap, q, f, e, hl, hs, hr.of_block (hb.block b hr.lt), hq, fun j hj => Wp.below hb n _ (hc j hj)⟩
/-- The reference's codec in block g. -/
def Rc (w : World) (S : Pl) (n g : Nat) (l : List Slot) : Prop := S g ∧ ∃ v, hp w g = some (.cells #[v] 66 (0, 0)) ∧ Tw w S n v l
theorem Rc.keep {w w' : World} {S S' : Pl} {n g : Nat} {l : List Slot} (hS : ∀ b, S b → S' b) (hk : ∀ b, S b → b < w.heap.size → w'.heap[b]? = w.heap[b]?) (h : Rc w S n g l) : Rc w' S' n g l := by
  obtain ⟨h1, v, h2, h3⟩ := h
  have hlt : g < w.heap.size := (Array.getElem?_eq_some_iff.1 h2).1
  exact ⟨hS g h1, v, by unfold hp at *; rw [hk g h1 hlt]; exact h2, Tw.keep hS hk n v l h3⟩
set_option maxRecDepth 100000 in
theorem pCompile {n : Nat} {v : Value} {l : List Slot} (w : World) (h : RdS w n v l) :
    Calls Tryz.prog 18 #[v] w fun e w' => ((valid n l ≠ 0 ∧ e = .returned (.tuple #[.pointer none, .int .i64 (valid n l)])) ∨ (valid n l = 0 ∧ ∃ c, e = .returned (.tuple #[ptr c, .int .i64 0]) ∧ Cd w' (Bt w w') n c l)) ∧ Below w.heap.size w w' := by
  obtain ⟨A, c, rfl, -⟩ := h.slice
  have H := Lib.hid h; clear h
  go_enter Tryz.func18, Tryz.ntmps18
  go_wp2_with (go_at_call 9999)
  go_at_call 28
  refine (pvalid w H.out).mono ?_
  rintro _ w1 ⟨rfl, b1⟩
  by_cases hv : valid n l = 0
  · rw [hv]
    obtain ⟨-, -, hok, -⟩ := spans_eq hv
    have HV := Lib.hid hv; have HOK := Lib.hid hok; have B1 := Lib.hid b1; clear hv hok b1
    go_wp2_with (go_at_call 9999)
    go_at_call 29
    refine (compile n 6 _ l w w1 H.out HOK.out B1.out).mono ?_
    rintro _ w2 ⟨c, rfl, hc, b2⟩
    have HC := Lib.hid hc; have B2 := Lib.hid b2; clear hc b2
    go_wp2_with fail
    go_ret2
    exact ⟨.inr ⟨HV.out, c, rfl, Cd.keep (Bt.sub B1.out.size (Nat.le_refl _)) (fun _ _ _ => rfl) n c l HC.out⟩, B1.out.trans (B2.out.mono B1.out.size)⟩
  · have B1 := Lib.hid b1; clear b1
    obtain ⟨V, hV⟩ : ∃ V, V = valid n l := ⟨_, rfl⟩
    rw [← hV] at hv ⊢
    have HV := Lib.hid hv; have HVV := Lib.hid hV; clear hV
    go_wp2_with fail
    go_ret2
    exact ⟨.inl ⟨by rw [← HVV.out]; exact HV.out, by rw [← HVV.out]; rfl⟩, B1.out⟩
set_option maxRecDepth 100000 in
theorem rCompile {n : Nat} {v : Value} {l : List Slot} (w : World) (h : RdS w n v l) (hf : Few n l) :
    Calls Tryz.prog 19 #[v] w fun e w' => ((valid n l ≠ 0 ∧ e = .returned (.tuple #[.pointer none, .int .i64 (valid n l)])) ∨ (valid n l = 0 ∧ ∃ c, e = .returned (.tuple #[ptr c, .int .i64 0]) ∧ Rc w' (Bt w w') n c l)) ∧ Below w.heap.size w w' := by
  obtain ⟨A, c, rfl, -⟩ := h.slice
  have H := Lib.hid h; have HF := Lib.hid hf; clear h hf
  go_enter Tryz.func19, Tryz.ntmps19
  go_wp2_with (go_at_call 9999)
  go_at_call 30
  refine (rvalid w H.out).mono ?_
  rintro _ w1 ⟨rfl, b1⟩
  by_cases hv : valid n l = 0
  · rw [hv]
    have HV := Lib.hid hv; have B1 := Lib.hid b1; clear hv b1
    go_wp2_with (go_at_call 9999)
    go_at_call 31
    refine (twin n _ l w w1 H.out HF.out B1.out).mono ?_
    rintro _ w2 ⟨v2, rfl, ht, b2⟩
    obtain ⟨A2, c2, rfl, -⟩ := (Tw.rd n v2 l ht).slice
    have HT := Lib.hid ht; have B2 := Lib.hid (B1.out.trans (b2.mono B1.out.size)); have HS := Lib.hid (show w.heap.size ≤ w1.heap.size ∧ w1.heap.size ≤ w2.heap.size from ⟨B1.out.size, b2.size⟩); clear ht b2
    go_wp2_with fail
    go_ret2
    have hs := HS.out
    refine ⟨.inr ⟨HV.out, w2.heap.size, rfl, ⟨by omega, by simp⟩, _, hp_alloc_at _ _ rfl, Tw.keep (Bt.sub hs.1 (by simp)) (fun b hb hlt => hp_alloc_past _ b hlt) n _ l HT.out⟩, B2.out.alloc (by omega) _⟩
  · have B1 := Lib.hid b1; clear b1
    obtain ⟨V, hV⟩ : ∃ V, V = valid n l := ⟨_, rfl⟩
    rw [← hV] at hv ⊢
    have HV := Lib.hid hv; have HVV := Lib.hid hV; clear hV
    go_wp2_with fail
    go_ret2
    exact ⟨.inl ⟨by rw [← HVV.out]; exact HV.out, by rw [← HVV.out]; rfl⟩, B1.out⟩
end Go.Proofs.YtpfckpaokoifhaaGreatDoor.Cm
