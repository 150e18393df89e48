/- How many bytes the messages of a schema have: the program's and the reference's reckoning, and that they agree. No program in sight. -/
import Derived.Test.YtinngljphjdpoaaDoorJRs
import Derived.Test.YtinngljphjdpoaaDoorJEa
import Derived.Test.YtinngljphjdpoaaDoorJHs
namespace Go.Proofs.YtinngljphjdpoaaDoor.Sc
open Go.Proofs.YtinngljphjdpoaaDoor.Nz
set_option linter.unusedVariables false
set_option linter.unusedSimpArgs false

/-- What may be asked of the slots of a schema that can be, k levels. -/
def okL : Nat → List Slot → Prop
  | 0, _ => False
  | k + 1, s => s.length ≤ 16 ∧ ∀ t ∈ s, 1 ≤ t.no ∧ t.no ≤ 536870911 ∧ bnd t = true ∧ (nest t = true → okL k t.sub) ∧ (nest t = false → t.sub = [])
theorem canGo_ok (k : Nat) (g : List Slot → Nat → Option Nat) (hg : ∀ s room r, g s room = some r → okL k s) : ∀ (s : List Slot) (last : Int) (room r : Nat), 0 ≤ last → canGo g s last room = some r →
    ∀ t ∈ s, 1 ≤ t.no ∧ t.no ≤ 536870911 ∧ bnd t = true ∧ (nest t = true → okL k t.sub) ∧ (nest t = false → t.sub = [])
  | [], _, _, _, _, _, t, ht => by cases ht
  | u :: q, last, room, r, h0, h, t, ht => by
    simp only [canGo] at h
    split at h
    · cases h
    · split at h
      · cases h
      · rename_i hf
        have hfi : fine u last = true := by simpa using hf
        obtain ⟨f1, f2, f3, f4⟩ := (fine_iff u last h0).1 hfi
        split at h
        · rename_i hn
          split at h
          · cases h
          · rename_i x hx
            rcases List.mem_cons.1 ht with rfl | ht
            · exact ⟨f1, f2, f4, fun _ => hg _ _ _ hx, fun h => by rw [hn] at h; cases h⟩
            · exact canGo_ok k g hg q _ _ _ (by omega) h t ht
        · rename_i hn
          split at h
          · rename_i he
            rcases List.mem_cons.1 ht with rfl | ht
            · exact ⟨f1, f2, f4, fun h => absurd h hn, fun _ => List.isEmpty_iff.1 he⟩
            · exact canGo_ok k g hg q _ _ _ (by omega) h t ht
          · cases h
theorem canL_ok : ∀ (k : Nat) (s : List Slot) (room r : Nat), canL k s room = some r → okL k s
  | 0, _, _, _, h => by simp [canL] at h
  | k + 1, s, room, r, h => by
    simp only [canL] at h
    split at h
    · cases h
    · exact ⟨by omega, canGo_ok k (canL k) (fun s room r h => canL_ok k s room r h) s 0 room r (by omega) h⟩

/-- The wire type of a kind. -/
def wt (kind : Int) : Nat := if kind = 1 ∨ kind = 4 then 0 else if kind = 3 ∨ kind = 7 then 1 else if kind = 2 then 5 else 2
theorem wt_le (k : Int) : wt k ≤ 5 := by unfold wt; repeat' split
                                         all_goals omega
def hd (t : Slot) : Nat := sz (8 * t.no.toNat + wt t.kind)
def fr (n : Nat) : Nat := sz n + n
/-- Exactly. -/
def exVal (f : List Slot → Nat × Nat) (t : Slot) : Nat × Nat :=
  if t.kind = 1 then (sz t.least, sz t.most) else if t.kind = 4 then (1, 1) else if t.kind = 2 then (4, 4) else if t.kind = 3 ∨ t.kind = 7 then (8, 8)
  else if t.kind = 5 ∨ t.kind = 6 then (fr t.least, fr t.most)
  else if t.kind = 9 then (fr (t.least * fr (f t.sub).1), fr (t.most * fr (f t.sub).2)) else (fr (f t.sub).1, fr (f t.sub).2)
def exGo (f : List Slot → Nat × Nat) (s : List Slot) : Nat × Nat := s.foldl (fun p t => (p.1 + hd t + (exVal f t).1, p.2 + hd t + (exVal f t).2)) (0, 0)
def exSpan : Nat → List Slot → Nat × Nat
  | 0, _ => (0, 0)
  | n + 1, s => exGo (exSpan n) s
/-- The program's. -/
def huge : Nat := 1073741824
def pVal (f : List Slot → Nat × Nat) (t : Slot) : Nat × Nat :=
  if t.kind = 1 then (sz t.least, sz t.most) else if t.kind = 4 then (1, 1) else if t.kind = 2 then (4, 4) else if t.kind = 3 ∨ t.kind = 7 then (8, 8)
  else if t.kind = 5 ∨ t.kind = 6 then (fr t.least, fr t.most)
  else if t.kind = 9 then (fr (min (t.least * fr (f t.sub).1) huge), fr (min (t.most * fr (f t.sub).2) huge)) else (fr (f t.sub).1, fr (f t.sub).2)
def pStep (f : List Slot → Nat × Nat) (p : Nat × Nat) (t : Slot) : Nat × Nat := (min (p.1 + hd t + (pVal f t).1) huge, min (p.2 + hd t + (pVal f t).2) huge)
def pGo (f : List Slot → Nat × Nat) (s : List Slot) : Nat × Nat := s.foldl (pStep f) (0, 0)
theorem pGo_take (f : List Slot → Nat × Nat) (l : List Slot) (i : Nat) (h : i < l.length) : pGo f (l.take (i + 1)) = pStep f (pGo f (l.take i)) l[i] := by
  unfold pGo; rw [List.take_succ_eq_append_getElem h, List.foldl_append]; rfl
def pSpan : Nat → List Slot → Nat × Nat
  | 0, _ => (0, 0)
  | n + 1, s => pGo (pSpan n) s
/-- The reference's. -/
def much : Nat := 4194305
def cap (n : Nat) : Nat := min n much
def rVal (f : List Slot → Nat × Nat) (t : Slot) : Nat × Nat :=
  if t.kind = 1 then (sz t.least, sz t.most) else if t.kind = 2 then (4, 4) else if t.kind = 3 ∨ t.kind = 7 then (8, 8) else if t.kind = 4 then (1, 1)
  else if t.kind = 5 ∨ t.kind = 6 then (cap (fr t.least), cap (fr t.most))
  else if t.kind = 8 then (cap (fr (f t.sub).1), cap (fr (f t.sub).2))
  else if t.kind = 9 then (cap (fr (cap (cap (fr (f t.sub).1) * t.least))), cap (fr (cap (cap (fr (f t.sub).2) * t.most)))) else (0, 0)
def rStep (f : List Slot → Nat × Nat) (p : Nat × Nat) (t : Slot) : Nat × Nat := (cap (p.1 + hd t + (rVal f t).1), cap (p.2 + hd t + (rVal f t).2))
def rGo (f : List Slot → Nat × Nat) (s : List Slot) : Nat × Nat := s.foldl (rStep f) (0, 0)
theorem rGo_take (f : List Slot → Nat × Nat) (l : List Slot) (i : Nat) (h : i < l.length) : rGo f (l.take (i + 1)) = rStep f (rGo f (l.take i)) l[i] := by
  unfold rGo; rw [List.take_succ_eq_append_getElem h, List.foldl_append]; rfl
def rSpan : Nat → List Slot → Nat × Nat
  | 0, _ => (0, 0)
  | n + 1, s => rGo (rSpan n) s

/-- Alike, up to the bound. -/
def Al (a e : Nat) : Prop := (a = e ∧ e ≤ 4194304) ∨ (4194304 < a ∧ 4194304 < e)
theorem Al.refl (a : Nat) : Al a a := by unfold Al; omega
theorem Al.add {a e b f : Nat} (h : Al a e) (k : Al b f) : Al (a + b) (e + f) := by unfold Al at *; omega
theorem Al.huge {a e : Nat} (h : Al a e) : Al (min a huge) e := by unfold Al Sc.huge at *; omega
theorem Al.cap {a e : Nat} (h : Al a e) : Al (cap a) e := by unfold Al Sc.cap much at *; omega
theorem Al.fr {a e : Nat} (h : Al a e) : Al (fr a) (fr e) := by
  unfold Al Sc.fr at *
  rcases h with ⟨rfl, h⟩ | h
  · omega
  · omega
theorem Al.mul {a e : Nat} (k : Nat) (h : Al a e) : Al (k * a) (k * e) := by
  unfold Al at *
  rcases h with ⟨rfl, h⟩ | ⟨h1, h2⟩
  · omega
  · rcases Nat.eq_zero_or_pos k with rfl | hk
    · simp
    · have g1 : a ≤ k * a := Nat.le_mul_of_pos_left _ hk
      have g2 : e ≤ k * e := Nat.le_mul_of_pos_left _ hk
      omega
def Al2 (p q : Nat × Nat) : Prop := Al p.1 q.1 ∧ Al p.2 q.2
theorem pVal_al {f g : List Slot → Nat × Nat} (h : ∀ s, Al2 (f s) (g s)) (t : Slot) : Al2 (pVal f t) (exVal g t) := by
  unfold pVal exVal
  repeat' split
  all_goals first
  | exact ⟨Al.refl _, Al.refl _⟩
  | exact ⟨(((h t.sub).1.fr.mul _).huge).fr, (((h t.sub).2.fr.mul _).huge).fr⟩
  | exact ⟨(h t.sub).1.fr, (h t.sub).2.fr⟩
theorem bnd_kind {t : Slot} (h : bnd t = true) : t.kind = 1 ∨ t.kind = 2 ∨ t.kind = 3 ∨ t.kind = 4 ∨ t.kind = 5 ∨ t.kind = 6 ∨ t.kind = 7 ∨ t.kind = 8 ∨ t.kind = 9 := by
  unfold bnd at h
  repeat' split at h
  all_goals first | omega | cases h
theorem rVal_al {f g : List Slot → Nat × Nat} (t : Slot) (hb : bnd t = true) (h : nest t = true → Al2 (f t.sub) (g t.sub)) : Al2 (rVal f t) (exVal g t) := by
  unfold rVal exVal
  rcases bnd_kind hb with e | e | e | e | e | e | e | e | e
  all_goals simp only [e]
  all_goals simp
  all_goals first
  | exact ⟨Al.refl _, Al.refl _⟩
  | exact ⟨(Al.refl _).cap, (Al.refl _).cap⟩
  | exact ⟨(h (by simp [nest, e])).1.fr.cap, (h (by simp [nest, e])).2.fr.cap⟩
  | (rw [Nat.mul_comm _ t.least, Nat.mul_comm _ t.most]; exact ⟨(((h (by simp [nest, e])).1.fr.cap.mul _).cap).fr.cap, (((h (by simp [nest, e])).2.fr.cap.mul _).cap).fr.cap⟩)
theorem pGo_al {f g : List Slot → Nat × Nat} (h : ∀ s, Al2 (f s) (g s)) (s : List Slot) : Al2 (pGo f s) (exGo g s) := by
  unfold pGo exGo
  suffices hh : ∀ (s : List Slot) (p q : Nat × Nat), Al2 p q → Al2 (s.foldl (pStep f) p) (s.foldl (fun p t => (p.1 + hd t + (exVal g t).1, p.2 + hd t + (exVal g t).2)) q) from hh s _ _ ⟨Al.refl _, Al.refl _⟩
  intro s
  induction s with
  | nil => intro p q hp; exact hp
  | cons t r ih =>
    intro p q hp
    simp only [List.foldl_cons]
    exact ih _ _ ⟨((hp.1.add (Al.refl _)).add (pVal_al h t).1).huge, ((hp.2.add (Al.refl _)).add (pVal_al h t).2).huge⟩
theorem pSpan_al : ∀ (n : Nat) (s : List Slot), Al2 (pSpan n s) (exSpan n s)
  | 0, _ => ⟨Al.refl _, Al.refl _⟩
  | n + 1, s => pGo_al (pSpan_al n) s
theorem rGo_al {f g : List Slot → Nat × Nat} (s : List Slot) (hs : ∀ t ∈ s, bnd t = true ∧ (nest t = true → Al2 (f t.sub) (g t.sub))) : Al2 (rGo f s) (exGo g s) := by
  unfold rGo exGo
  suffices hh : ∀ (s : List Slot) (p q : Nat × Nat), (∀ t ∈ s, bnd t = true ∧ (nest t = true → Al2 (f t.sub) (g t.sub))) → Al2 p q → Al2 (s.foldl (rStep f) p) (s.foldl (fun p t => (p.1 + hd t + (exVal g t).1, p.2 + hd t + (exVal g t).2)) q) from hh s _ _ hs ⟨Al.refl _, Al.refl _⟩
  intro s
  induction s with
  | nil => intro p q _ hp; exact hp
  | cons t r ih =>
    intro p q hs hp
    simp only [List.foldl_cons]
    obtain ⟨hb, hf⟩ := hs t (by simp)
    exact ih _ _ (fun u hu => hs u (by simp [hu])) ⟨((hp.1.add (Al.refl _)).add (rVal_al t hb hf).1).cap, ((hp.2.add (Al.refl _)).add (rVal_al t hb hf).2).cap⟩
theorem rSpan_al : ∀ (n k : Nat) (s : List Slot), okL k s → Al2 (rSpan n s) (exSpan n s)
  | 0, _, _, _ => ⟨Al.refl _, Al.refl _⟩
  | n + 1, 0, s, h => h.elim
  | n + 1, k + 1, s, h => rGo_al s (fun t ht => ⟨(h.2 t ht).2.2.1, fun hn => rSpan_al n k t.sub ((h.2 t ht).2.2.2.1 hn)⟩)
theorem al_gt {a b e : Nat} (h : Al a e) (k : Al b e) : 4194304 < a ↔ 4194304 < b := by unfold Al at *; omega
theorem al_eq {a b e : Nat} (h : Al a e) (k : Al b e) (hm : ¬ 4194304 < a) : a = b := by unfold Al at *; omega
theorem pSpan_le (n : Nat) (s : List Slot) : (pSpan n s).1 ≤ huge ∧ (pSpan n s).2 ≤ huge := by
  cases n with
  | zero => simp [pSpan]
  | succ n =>
    simp only [pSpan, pGo]
    suffices hh : ∀ (s : List Slot) (p : Nat × Nat), p.1 ≤ huge ∧ p.2 ≤ huge → (s.foldl (pStep (pSpan n)) p).1 ≤ huge ∧ (s.foldl (pStep (pSpan n)) p).2 ≤ huge from hh s _ (by simp)
    intro s
    induction s with
    | nil => intro p hp; exact hp
    | cons t r ih => intro p hp; exact ih _ ⟨Nat.min_le_right _ _, Nat.min_le_right _ _⟩
theorem cap_le (n : Nat) : cap n ≤ 4194305 := Nat.min_le_right _ _
theorem rSpan_le (n : Nat) (s : List Slot) : (rSpan n s).1 ≤ 4194305 ∧ (rSpan n s).2 ≤ 4194305 := by
  cases n with
  | zero => simp [rSpan]
  | succ n =>
    simp only [rSpan, rGo]
    suffices hh : ∀ (s : List Slot) (p : Nat × Nat), p.1 ≤ 4194305 ∧ p.2 ≤ 4194305 → (s.foldl (rStep (rSpan n)) p).1 ≤ 4194305 ∧ (s.foldl (rStep (rSpan n)) p).2 ≤ 4194305 from hh s _ (by simp)
    intro s
    induction s with
    | nil => intro p hp; exact hp
    | cons t r ih => intro p hp; exact ih _ ⟨cap_le _, cap_le _⟩
theorem fr_le {a b : Nat} (h : a ≤ b) (hb : b < 18446744073709551616) : fr a ≤ b + 10 := by
  have := sz_u64 a (by omega)
  unfold fr; omega
theorem pGo_le (f : List Slot → Nat × Nat) (s : List Slot) : (pGo f s).1 ≤ 1073741824 ∧ (pGo f s).2 ≤ 1073741824 := by
  unfold pGo
  suffices hh : ∀ (s : List Slot) (p : Nat × Nat), p.1 ≤ 1073741824 ∧ p.2 ≤ 1073741824 → (s.foldl (pStep f) p).1 ≤ 1073741824 ∧ (s.foldl (pStep f) p).2 ≤ 1073741824 from hh s _ (by simp)
  intro s
  induction s with
  | nil => intro p hp; exact hp
  | cons t r ih => intro p hp; exact ih _ ⟨Nat.min_le_right _ _, Nat.min_le_right _ _⟩
theorem pVal_le (m : Nat) (t : Slot) (hb : bnd t = true) (h1 : t.least < 18446744073709551616) (h2 : t.most < 18446744073709551616) : (pVal (pSpan m) t).1 ≤ 1073741834 ∧ (pVal (pSpan m) t).2 ≤ 1073741834 := by
  obtain ⟨g1, g2⟩ := pSpan_le m t.sub
  unfold huge at g1 g2
  have s1 := sz_u64 _ h1
  have s2 := sz_u64 _ h2
  unfold pVal
  by_cases k5 : t.kind = 5 ∨ t.kind = 6
  · have hbb : t.least ≤ t.most ∧ t.most ≤ 4194304 := by
      unfold bnd at hb
      rw [if_neg (by omega), if_neg (by omega), if_neg (by omega), if_pos k5] at hb
      simpa using hb
    have f1 := fr_le (a := t.least) (b := 4194304) (by omega) (by omega)
    have f2 := fr_le (a := t.most) (b := 4194304) (by omega) (by omega)
    rw [if_neg (by omega), if_neg (by omega), if_neg (by omega), if_neg (by omega), if_pos k5]
    exact ⟨by simp only; omega, by simp only; omega⟩
  · repeat' split
    all_goals first
    | (simp only; omega)
    | exact absurd ‹_› k5
    | exact ⟨fr_le (b := 1073741824) (by unfold huge; omega) (by omega), fr_le (b := 1073741824) (by unfold huge; omega) (by omega)⟩
    | exact ⟨fr_le g1 (by omega), fr_le g2 (by omega)⟩
/-- What Valid answers. -/
def valid (n : Nat) (s : List Slot) : Int := if canL 6 s 256 = none then 80 else if 4194304 < (exSpan n s).2 then 2 else 0
end Go.Proofs.YtinngljphjdpoaaDoor.Sc
/- The program's wireOf, framed, valueSpan, span. -/
namespace Go.Proofs.YtinngljphjdpoaaDoor.Vc
open Go Go.RowKit Go.Proofs.YtinngljphjdpoaaDoor.Pa Go.Proofs.YtinngljphjdpoaaDoor.Pb Go.Proofs.YtinngljphjdpoaaDoor.Pf Go.Proofs.YtinngljphjdpoaaDoor.Nz Go.Proofs.YtinngljphjdpoaaDoor.Nm Go.Proofs.YtinngljphjdpoaaDoor.Sc Go.Proofs.YtinngljphjdpoaaDoor.Rs Go.Proofs.YtinngljphjdpoaaDoor.Va
set_option linter.unusedVariables false
set_option linter.unusedSimpArgs false

theorem wireOf (k : Int) (w : World) : Calls Tryd.prog 54 #[.int .i64 k] w fun e w' => e = .returned (.int .i64 (wt k : Nat)) ∧ w = w' := by
  obtain ⟨r, hr⟩ : ∃ r, r = ((wt k : Nat) : Int) := ⟨_, rfl⟩
  rw [← hr]
  by_cases k1 : k = 1
  · subst k1
    have hr' : r = 0 := hr
    subst hr'
    clear hr
    go_enter Tryd.func54, Tryd.ntmps54
    go_wp2
    go_ret
    exact ⟨rfl, rfl⟩
  by_cases k4 : k = 4
  · subst k4
    have hr' : r = 0 := hr
    subst hr'
    clear hr
    go_enter Tryd.func54, Tryd.ntmps54
    go_wp2
    go_ret
    exact ⟨rfl, rfl⟩
  by_cases k3 : k = 3
  · subst k3
    have hr' : r = 1 := hr
    subst hr'
    clear hr
    go_enter Tryd.func54, Tryd.ntmps54
    go_wp2
    go_ret
    exact ⟨rfl, rfl⟩
  by_cases k7 : k = 7
  · subst k7
    have hr' : r = 1 := hr
    subst hr'
    clear hr
    go_enter Tryd.func54, Tryd.ntmps54
    go_wp2
    go_ret
    exact ⟨rfl, rfl⟩
  by_cases k2 : k = 2
  · subst k2
    have hr' : r = 5 := hr
    subst hr'
    clear hr
    go_enter Tryd.func54, Tryd.ntmps54
    go_wp2
    go_ret
    exact ⟨rfl, rfl⟩
  have hr' : r = 2 := by rw [hr]; unfold wt; rw [if_neg (by omega), if_neg (by omega), if_neg (by omega)]; rfl
  subst hr'
  clear hr
  have e1 : (k == 1) = false := by simpa using k1
  have e2 : (k == 2) = false := by simpa using k2
  have e3 : (k == 3) = false := by simpa using k3
  have e4 : (k == 4) = false := by simpa using k4
  have e7 : (k == 7) = false := by simpa using k7
  go_enter Tryd.func54, Tryd.ntmps54
  go_wp2
  go_ret
  exact ⟨rfl, rfl⟩

theorem framed (x : Int) (h0 : 0 ≤ x) (h1 : x ≤ 4611686018427387904) (w : World) : Calls Tryd.prog 74 #[.int .i64 x] w fun e w' => e = .returned (.int .i64 (fr x.toNat : Nat)) ∧ w = w' := by
  obtain ⟨n, rfl⟩ := Int.eq_ofNat_of_zero_le h0
  have hs := sz_u64 n (by omega)
  have hq : IntKind.u64.wrap (n : Int) = (n : Int) := wu64 (by omega) (by omega)
  go_enter Tryd.func74, Tryd.ntmps74
  go_wp2_with (go_at_call 53; refine (size n (by omega) _).mono ?_; rintro e w1 ⟨rfl, rfl⟩)
  go_ret
  exact ⟨ret_int (by simp [fr]), rfl⟩

/-- A box of this call's own, kept. -/
def Kept (w : World) (C : Array Value) (W : World) : Prop := Below w.heap.size w W ∧ hp W w.heap.size = some (.cells C 53 (0, 0))
theorem Kept.on {w W W' : World} {C : Array Value} (h : Kept w C W) (hb : Below W.heap.size W W') : Kept w C W' := by
  have hlt : w.heap.size < W.heap.size := by
    rcases Nat.lt_or_ge w.heap.size W.heap.size with h1 | h1
    · exact h1
    · have := h.2; unfold hp at this; rw [Array.getElem?_eq_none h1] at this; cases this
  exact ⟨h.1.trans (hb.mono h.1.size), (hb.hp _ hlt).trans h.2⟩
theorem Kept.same {w W W' : World} {C : Array Value} (h : Kept w C W) (hb : W = W') : Kept w C W' := hb ▸ h

/-- What span answers. -/
def SpanSaid (m : Nat) : Prop := ∀ (k : Nat) (v : Value) (l : List Slot) (W w : World), RdS W m v l → okL k l → Below W.heap.size W w →
  Calls Tryd.prog 43 #[v] w fun e w' => e = .returned (.tuple #[.int .i64 (pSpan m l).1, .int .i64 (pSpan m l).2]) ∧ Below w.heap.size w w'

theorem fr_congr {a b : Nat} (h : a = b) : fr a = fr b := by rw [h]
theorem ret2 {a b c d : Nat} (h1 : a = c) (h2 : b = d) : Ending.returned (.tuple #[.int .i64 (a : Int), .int .i64 (b : Int)]) = .returned (.tuple #[.int .i64 (c : Int), .int .i64 (d : Int)]) := by rw [h1, h2]
set_option maxRecDepth 100000 in
theorem valueSpan (m k : Nat) (IH : SpanSaid m) (no kind : Int) (least most : Nat) (sub : List Slot) (sv : Value) (W w : World) (h1 : sv.oneCell' = true) (hb : bnd (.mk no kind least most sub) = true) (hl : least < 18446744073709551616) (hm : most < 18446744073709551616)
    (hn : nest (.mk no kind least most sub) = true → RdS W m sv sub ∧ okL k sub) (hB : Below W.heap.size W w) :
    Calls Tryd.prog 55 #[.agg #[.int .i64 no, .int .i64 kind, .int .u64 least, .int .u64 most, sv]] w fun e w' =>
      e = .returned (.tuple #[.int .i64 (pVal (pSpan m) (.mk no kind least most sub)).1, .int .i64 (pVal (pSpan m) (.mk no kind least most sub)).2]) ∧ Below w.heap.size w w' := by
  obtain ⟨r, hr⟩ : ∃ r, r = pVal (pSpan m) (.mk no kind least most sub) := ⟨_, rfl⟩
  rw [← hr]
  have HB := Lib.hid hB
  have bx : Below w.heap.size w (w.alloc (.cells #[.int .i64 no, .int .i64 kind, .int .u64 least, .int .u64 most, sv] 53)) := (Below.refl _ _).alloc (Nat.le_refl _) _
  clear hB
  have hbb := bnd_at no kind least most sub
  rw [hb] at hbb
  rcases bnd_kind hb with e | e | e | e | e | e | e | e | e
  · simp only [Slot.kind] at e
    subst e
    have hr' : r = (sz least, sz most) := hr
    subst hr'
    clear hr hbb hb hn
    go_enter Tryd.func55, Tryd.ntmps55
    go_wp2_with fail
    refine wp_region_calm (S := Kept w #[.int .i64 no, .int .i64 1, .int .u64 least, .int .u64 most, sv]) (by kernel_rfl) (by kernel_rfl) ⟨bx.drew, by simp [go_sem]⟩ ?_
    intro hN
    have hC : ∀ (u : Held (Kept w #[.int .i64 no, .int .i64 1, .int .u64 least, .int .u64 most, sv])) (i : Nat), u.w.cell? ⟨w.heap.size, i, none⟩ = (#[.int .i64 no, .int .i64 1, .int .u64 least, .int .u64 most, sv] : Array Value)[i]? := fun u i => hp_cell u.h.2 i
    repeat (go_big_quiet_step (first | (go_at_call 53; exact calm_call (size _ (by assumption) _) (fun w' hs hr => hs.same hr))))
    refine wpQuiet_nil ?_
    intro u
    have hb := u.h.1
    go_wp2
    go_ret2
    exact ⟨rfl, hb⟩
  · simp only [Slot.kind] at e
    subst e
    have hr' : r = (4, 4) := hr
    subst hr'
    clear hr hbb hb hn
    go_enter Tryd.func55, Tryd.ntmps55
    go_wp2_with fail
    go_ret2
    exact ⟨rfl, bx⟩
  · simp only [Slot.kind] at e
    subst e
    have hr' : r = (8, 8) := hr
    subst hr'
    clear hr hbb hb hn
    go_enter Tryd.func55, Tryd.ntmps55
    go_wp2_with fail
    go_ret2
    exact ⟨rfl, bx⟩
  · simp only [Slot.kind] at e
    subst e
    have hr' : r = (1, 1) := hr
    subst hr'
    clear hr hbb hb hn
    go_enter Tryd.func55, Tryd.ntmps55
    go_wp2_with fail
    go_ret2
    exact ⟨rfl, bx⟩
  · simp only [Slot.kind] at e
    subst e
    have hr' : r = (fr least, fr most) := hr
    subst hr'
    have h2 : least ≤ most ∧ most ≤ 4194304 := by simpa using hbb.symm
    clear hr hbb hb hn
    have hq1 : wrap64 (least : Int) = (least : Int) := w64 (by omega) (by omega)
    have hq2 : wrap64 (most : Int) = (most : Int) := w64 (by omega) (by omega)
    go_enter Tryd.func55, Tryd.ntmps55
    go_wp2_with fail
    refine wp_region_calm (S := Kept w #[.int .i64 no, .int .i64 5, .int .u64 least, .int .u64 most, sv]) (by kernel_rfl) (by kernel_rfl) ⟨bx.drew, by simp [go_sem]⟩ ?_
    intro hN
    have hC : ∀ (u : Held (Kept w #[.int .i64 no, .int .i64 5, .int .u64 least, .int .u64 most, sv])) (i : Nat), u.w.cell? ⟨w.heap.size, i, none⟩ = (#[.int .i64 no, .int .i64 5, .int .u64 least, .int .u64 most, sv] : Array Value)[i]? := fun u i => hp_cell u.h.2 i
    repeat (go_big_quiet_step (first | (go_at_call 74; exact calm_call (framed _ (by omega) (by omega) _) (fun w' hs hr => hs.same hr))))
    refine wpQuiet_nil ?_
    intro u
    have hb := u.h.1
    go_wp2
    go_ret2
    exact ⟨by simp, hb⟩
  · simp only [Slot.kind] at e
    subst e
    have hr' : r = (fr least, fr most) := hr
    subst hr'
    have h2 : least ≤ most ∧ most ≤ 4194304 := by simpa using hbb.symm
    clear hr hbb hb hn
    have hq1 : wrap64 (least : Int) = (least : Int) := w64 (by omega) (by omega)
    have hq2 : wrap64 (most : Int) = (most : Int) := w64 (by omega) (by omega)
    go_enter Tryd.func55, Tryd.ntmps55
    go_wp2_with fail
    refine wp_region_calm (S := Kept w #[.int .i64 no, .int .i64 6, .int .u64 least, .int .u64 most, sv]) (by kernel_rfl) (by kernel_rfl) ⟨bx.drew, by simp [go_sem]⟩ ?_
    intro hN
    have hC : ∀ (u : Held (Kept w #[.int .i64 no, .int .i64 6, .int .u64 least, .int .u64 most, sv])) (i : Nat), u.w.cell? ⟨w.heap.size, i, none⟩ = (#[.int .i64 no, .int .i64 6, .int .u64 least, .int .u64 most, sv] : Array Value)[i]? := fun u i => hp_cell u.h.2 i
    repeat (go_big_quiet_step (first | (go_at_call 74; exact calm_call (framed _ (by omega) (by omega) _) (fun w' hs hr => hs.same hr))))
    refine wpQuiet_nil ?_
    intro u
    have hb := u.h.1
    go_wp2
    go_ret2
    exact ⟨by simp, hb⟩
  · simp only [Slot.kind] at e
    subst e
    have hr' : r = (8, 8) := hr
    subst hr'
    clear hr hbb hb hn
    go_enter Tryd.func55, Tryd.ntmps55
    go_wp2_with fail
    go_ret2
    exact ⟨rfl, bx⟩
  · simp only [Slot.kind] at e
    subst e
    have hr' : r = (fr (pSpan m sub).1, fr (pSpan m sub).2) := hr
    subst hr'
    obtain ⟨hrd, hok⟩ := hn rfl
    have hsp := pSpan_le m sub
    unfold huge at hsp
    clear hr hbb hb hn
    obtain ⟨p, hp⟩ : ∃ p, p = pSpan m sub := ⟨_, rfl⟩
    rw [← hp] at hsp ⊢
    obtain ⟨x, y⟩ := p
    simp only at hsp ⊢
    have HP := Lib.hid hp; clear hp
    have HR := Lib.hid hrd; have HK := Lib.hid hok; have IHH := Lib.hid IH; clear hrd hok IH
    go_enter Tryd.func55, Tryd.ntmps55
    go_wp2_with (go_at_call 9999)
    go_at_call 43
    refine (IHH.out k sv sub W _ HR.out HK.out (HB.out.trans (bx.mono HB.out.size))).mono ?_
    rintro e w1 ⟨rfl, hb1⟩
    rw [← HP.out]
    simp only
    have hbw : Below w.heap.size w w1 := bx.trans (hb1.mono (by simp))
    have hcc : ∀ i, w1.cell? ⟨w.heap.size, i, none⟩ = (#[.int .i64 no, .int .i64 8, .int .u64 least, .int .u64 most, sv] : Array Value)[i]? := fun i => hp_cell ((hb1.hp w.heap.size (by simp)).trans (hp_alloc_at _ _ rfl)) i
    go_wp2_with (go_at_call 9999)
    go_at_call 74
    refine (framed x (by omega) (by omega) _).mono ?_
    rintro e w2 ⟨rfl, rfl⟩
    go_wp2_with (go_at_call 9999)
    go_at_call 74
    refine (framed y (by omega) (by omega) _).mono ?_
    rintro e w2 ⟨rfl, rfl⟩
    go_wp2_with fail
    go_ret2
    exact ⟨by simp, hbw⟩
  · simp only [Slot.kind] at e
    subst e
    have hr' : r = (fr (min (least * fr (pSpan m sub).1) huge), fr (min (most * fr (pSpan m sub).2) huge)) := hr
    subst hr'
    obtain ⟨hrd, hok⟩ := hn rfl
    have hsp := pSpan_le m sub
    unfold huge at hsp ⊢
    have h2 : least ≤ most ∧ most ≤ 4096 := by simpa using hbb.symm
    clear hr hbb hb hn
    obtain ⟨p, hp⟩ : ∃ p, p = pSpan m sub := ⟨_, rfl⟩
    rw [← hp] at hsp ⊢
    obtain ⟨x, y⟩ := p
    simp only at hsp ⊢
    have HP := Lib.hid hp; clear hp
    have hx := sz_u64 x (by omega)
    have hy := sz_u64 y (by omega)
    have hfx : fr x ≤ 1073741834 := by unfold fr; omega
    have hfy : fr y ≤ 1073741834 := by unfold fr; omega
    have hm1 : least * fr x ≤ 4096 * 1073741834 := Nat.mul_le_mul (by omega) hfx
    have hm2 : most * fr y ≤ 4096 * 1073741834 := Nat.mul_le_mul (by omega) hfy
    have hw1 : wrap64 ((least : Int) * (fr x : Int)) = ((least * fr x : Nat) : Int) := by rw [← Int.natCast_mul]; exact w64 (by omega) (by omega)
    have hw2 : wrap64 ((most : Int) * (fr y : Int)) = ((most * fr y : Nat) : Int) := by rw [← Int.natCast_mul]; exact w64 (by omega) (by omega)
    clear hm1 hm2 hfx hfy hx hy
    generalize hA : least * fr x = A at hw1
    generalize hB : most * fr y = B at hw2
    have HA := Lib.hid hA; have HB' := Lib.hid hB; clear hA hB
    have HR := Lib.hid hrd; have HK := Lib.hid hok; have IHH := Lib.hid IH; clear hrd hok IH
    go_enter Tryd.func55, Tryd.ntmps55
    go_wp2_with (go_at_call 9999)
    go_at_call 43
    refine (IHH.out k sv sub W _ HR.out HK.out (HB.out.trans (bx.mono HB.out.size))).mono ?_
    rintro e w1 ⟨rfl, hb1⟩
    rw [← HP.out]
    simp only
    have hbw : Below w.heap.size w w1 := bx.trans (hb1.mono (by simp))
    have hcc : ∀ i, w1.cell? ⟨w.heap.size, i, none⟩ = (#[.int .i64 no, .int .i64 9, .int .u64 least, .int .u64 most, sv] : Array Value)[i]? := fun i => hp_cell ((hb1.hp w.heap.size (by simp)).trans (hp_alloc_at _ _ rfl)) i
    have hq1 : wrap64 (least : Int) = (least : Int) := w64 (by omega) (by omega)
    have hq2 : wrap64 (most : Int) = (most : Int) := w64 (by omega) (by omega)
    by_cases ha : (1073741824 : Int) < (A : Int) <;> by_cases hb' : (1073741824 : Int) < (B : Int)
    all_goals
      go_wp2_with fail
      have hS : Kept w #[.int .i64 no, .int .i64 9, .int .u64 least, .int .u64 most, sv] w1 := ⟨hbw, (hb1.hp w.heap.size (by simp)).trans (hp_alloc_at _ _ rfl)⟩
      clear hcc
      refine wp_region_calm (S := Kept w #[.int .i64 no, .int .i64 9, .int .u64 least, .int .u64 most, sv]) (by kernel_rfl) (by kernel_rfl) ⟨hS.1.drew, hS.2⟩ ?_
      intro hN
      have hC : ∀ (u : Held (Kept w #[.int .i64 no, .int .i64 9, .int .u64 least, .int .u64 most, sv])) (i : Nat), u.w.cell? ⟨w.heap.size, i, none⟩ = (#[.int .i64 no, .int .i64 9, .int .u64 least, .int .u64 most, sv] : Array Value)[i]? := fun u i => hp_cell u.h.2 i
      repeat (go_big_quiet_step (first | (go_at_call 74; exact calm_call (framed _ (by omega) (by omega) _) (fun w' hs hr => hs.same hr))))
      refine wpQuiet_nil ?_
      intro u
      have hb := u.h.1
      go_wp2_with (go_at_call 9999)
      go_at_call 74
      refine (framed _ (by omega) (by omega) _).mono ?_
      rintro e w2 ⟨rfl, rfl⟩
      go_wp2_with (go_at_call 9999)
      go_at_call 74
      refine (framed _ (by omega) (by omega) _).mono ?_
      rintro e w2 ⟨rfl, rfl⟩
      go_wp2_with fail
      go_ret2
      refine ⟨?_, hb⟩
      show Ending.returned (.tuple #[.int .i64 ((fr _ : Nat) : Int), .int .i64 ((fr _ : Nat) : Int)]) = _
      exact ret2 (fr_congr (by omega)) (fr_congr (by omega))
end Go.Proofs.YtinngljphjdpoaaDoor.Vc
