/- A number's bytes, and how many they are: plain. -/
import Derived.Test.YtinngljphjdpoaaGreatDoorJPl
import Derived.Test.YtinngljphjdpoaaGreatDoorJRs
import Derived.Test.YtinngljphjdpoaaGreatDoorProg
import Derived.Test.YtinngljphjdpoaaGreatDoorJHt
namespace Go.Proofs.YtinngljphjdpoaaGreatDoor.Nz
set_option linter.unusedVariables false

/-- A number's bytes. -/
def num (n : Nat) : List UInt8 := if h : 128 ≤ n then UInt8.ofNat (n % 128 + 128) :: num (n / 128) else [UInt8.ofNat n]
termination_by n
decreasing_by omega
theorem num_step {n : Nat} (h : 128 ≤ n) : num n = UInt8.ofNat (n % 128 + 128) :: num (n / 128) := by
  rw [num, dif_pos h]
theorem num_end {n : Nat} (h : ¬ 128 ≤ n) : num n = [UInt8.ofNat n] := by rw [num, dif_neg h]
/-- How many they are. -/
def sz (n : Nat) : Nat := (num n).length
theorem sz_step {n : Nat} (h : 128 ≤ n) : sz n = sz (n / 128) + 1 := by simp [sz, num_step h]
theorem sz_end {n : Nat} (h : ¬ 128 ≤ n) : sz n = 1 := by simp [sz, num_end h]
theorem sz_pos (n : Nat) : 0 < sz n := by
  by_cases h : 128 ≤ n
  · rw [sz_step h]; omega
  · rw [sz_end h]; omega
theorem sz_le : ∀ (k n : Nat), n < 128 ^ (k + 1) → sz n ≤ k + 1
  | 0, n, h => by rw [sz_end (by omega)]; omega
  | k + 1, n, h => by
    by_cases hn : 128 ≤ n
    · rw [sz_step hn]
      have := sz_le k (n / 128) (by rw [Nat.div_lt_iff_lt_mul (by omega), ← Nat.pow_succ]; exact h)
      omega
    · rw [sz_end hn]; omega
theorem sz_u64 (n : Nat) (h : n < 18446744073709551616) : sz n ≤ 10 := sz_le 9 n (by omega)
end Go.Proofs.YtinngljphjdpoaaGreatDoor.Nz
/- How many bytes the messages of a schema have: the program's and the reference's reckoning, and that they agree. No program in sight. -/
namespace Go.Proofs.YtinngljphjdpoaaGreatDoor.Sc
open Go.Proofs.YtinngljphjdpoaaGreatDoor.Nz
set_option linter.unusedVariables false
set_option linter.unusedSimpArgs false

/-- What may be asked of the slots of a schema that can be, k levels. -/
def okL : Nat → List Slot → Prop
  | 0, _ => False
  | k + 1, s => s.length ≤ 16 ∧ ∀ t ∈ s, 1 ≤ t.no ∧ t.no ≤ 536870911 ∧ bnd t = true ∧ (nest t = true → okL k t.sub) ∧ (nest t = false → t.sub = [])
theorem canGo_ok (k : Nat) (g : List Slot → Nat → Option Nat) (hg : ∀ s room r, g s room = some r → okL k s) : ∀ (s : List Slot) (last : Int) (room r : Nat), 0 ≤ last → canGo g s last room = some r →
    ∀ t ∈ s, 1 ≤ t.no ∧ t.no ≤ 536870911 ∧ bnd t = true ∧ (nest t = true → okL k t.sub) ∧ (nest t = false → t.sub = [])
  | [], _, _, _, _, _, t, ht => by cases ht
  | u :: q, last, room, r, h0, h, t, ht => by
    simp only [canGo] at h
    split at h
    · cases h
    · split at h
      · cases h
      · rename_i hf
        have hfi : fine u last = true := by simpa using hf
        obtain ⟨f1, f2, f3, f4⟩ := (fine_iff u last h0).1 hfi
        split at h
        · rename_i hn
          split at h
          · cases h
          · rename_i x hx
            rcases List.mem_cons.1 ht with rfl | ht
            · exact ⟨f1, f2, f4, fun _ => hg _ _ _ hx, fun h => by rw [hn] at h; cases h⟩
            · exact canGo_ok k g hg q _ _ _ (by omega) h t ht
        · rename_i hn
          split at h
          · rename_i he
            rcases List.mem_cons.1 ht with rfl | ht
            · exact ⟨f1, f2, f4, fun h => absurd h hn, fun _ => List.isEmpty_iff.1 he⟩
            · exact canGo_ok k g hg q _ _ _ (by omega) h t ht
          · cases h
theorem canL_ok : ∀ (k : Nat) (s : List Slot) (room r : Nat), canL k s room = some r → okL k s
  | 0, _, _, _, h => by simp [canL] at h
  | k + 1, s, room, r, h => by
    simp only [canL] at h
    split at h
    · cases h
    · exact ⟨by omega, canGo_ok k (canL k) (fun s room r h => canL_ok k s room r h) s 0 room r (by omega) h⟩

/-- The wire type of a kind. -/
def wt (kind : Int) : Nat := if kind = 1 ∨ kind = 4 then 0 else if kind = 3 ∨ kind = 7 then 1 else if kind = 2 then 5 else 2
theorem wt_le (k : Int) : wt k ≤ 5 := by unfold wt; repeat' split
                                         all_goals omega
def hd (t : Slot) : Nat := sz (8 * t.no.toNat + wt t.kind)
def fr (n : Nat) : Nat := sz n + n
/-- Exactly. -/
def exVal (f : List Slot → Nat × Nat) (t : Slot) : Nat × Nat :=
  if t.kind = 1 then (sz t.least, sz t.most) else if t.kind = 4 then (1, 1) else if t.kind = 2 then (4, 4) else if t.kind = 3 ∨ t.kind = 7 then (8, 8)
  else if t.kind = 5 ∨ t.kind = 6 then (fr t.least, fr t.most)
  else if t.kind = 9 then (fr (t.least * fr (f t.sub).1), fr (t.most * fr (f t.sub).2)) else (fr (f t.sub).1, fr (f t.sub).2)
def exGo (f : List Slot → Nat × Nat) (s : List Slot) : Nat × Nat := s.foldl (fun p t => (p.1 + hd t + (exVal f t).1, p.2 + hd t + (exVal f t).2)) (0, 0)
def exSpan : Nat → List Slot → Nat × Nat
  | 0, _ => (0, 0)
  | n + 1, s => exGo (exSpan n) s
/-- The program's. -/
def huge : Nat := 1073741824
def pVal (f : List Slot → Nat × Nat) (t : Slot) : Nat × Nat :=
  if t.kind = 1 then (sz t.least, sz t.most) else if t.kind = 4 then (1, 1) else if t.kind = 2 then (4, 4) else if t.kind = 3 ∨ t.kind = 7 then (8, 8)
  else if t.kind = 5 ∨ t.kind = 6 then (fr t.least, fr t.most)
  else if t.kind = 9 then (fr (min (t.least * fr (f t.sub).1) huge), fr (min (t.most * fr (f t.sub).2) huge)) else (fr (f t.sub).1, fr (f t.sub).2)
def pStep (f : List Slot → Nat × Nat) (p : Nat × Nat) (t : Slot) : Nat × Nat := (min (p.1 + hd t + (pVal f t).1) huge, min (p.2 + hd t + (pVal f t).2) huge)
def pGo (f : List Slot → Nat × Nat) (s : List Slot) : Nat × Nat := s.foldl (pStep f) (0, 0)
theorem pGo_take (f : List Slot → Nat × Nat) (l : List Slot) (i : Nat) (h : i < l.length) : pGo f (l.take (i + 1)) = pStep f (pGo f (l.take i)) l[i] := by
  unfold pGo; rw [List.take_succ_eq_append_getElem h, List.foldl_append]; rfl
def pSpan : Nat → List Slot → Nat × Nat
  | 0, _ => (0, 0)
  | n + 1, s => pGo (pSpan n) s
/-- The reference's. -/
def much : Nat := 4194305
def cap (n : Nat) : Nat := min n much
def rVal (f : List Slot → Nat × Nat) (t : Slot) : Nat × Nat :=
  if t.kind = 1 then (sz t.least, sz t.most) else if t.kind = 2 then (4, 4) else if t.kind = 3 ∨ t.kind = 7 then (8, 8) else if t.kind = 4 then (1, 1)
  else if t.kind = 5 ∨ t.kind = 6 then (cap (fr t.least), cap (fr t.most))
  else if t.kind = 8 then (cap (fr (f t.sub).1), cap (fr (f t.sub).2))
  else if t.kind = 9 then (cap (fr (cap (cap (fr (f t.sub).1) * t.least))), cap (fr (cap (cap (fr (f t.sub).2) * t.most)))) else (0, 0)
def rStep (f : List Slot → Nat × Nat) (p : Nat × Nat) (t : Slot) : Nat × Nat := (cap (p.1 + hd t + (rVal f t).1), cap (p.2 + hd t + (rVal f t).2))
def rGo (f : List Slot → Nat × Nat) (s : List Slot) : Nat × Nat := s.foldl (rStep f) (0, 0)
theorem rGo_take (f : List Slot → Nat × Nat) (l : List Slot) (i : Nat) (h : i < l.length) : rGo f (l.take (i + 1)) = rStep f (rGo f (l.take i)) l[i] := by
  unfold rGo; rw [List.take_succ_eq_append_getElem h, List.foldl_append]; rfl
def rSpan : Nat → List Slot → Nat × Nat
  | 0, _ => (0, 0)
  | n + 1, s => rGo (rSpan n) s

/-- Alike, up to the bound. -/
def Al (a e : Nat) : Prop := (a = e ∧ e ≤ 4194304) ∨ (4194304 < a ∧ 4194304 < e)
theorem Al.refl (a : Nat) : Al a a := by unfold Al; omega
theorem Al.add {a e b f : Nat} (h : Al a e) (k : Al b f) : Al (a + b) (e + f) := by unfold Al at *; omega
theorem Al.huge {a e : Nat} (h : Al a e) : Al (min a huge) e := by unfold Al Sc.huge at *; omega
theorem Al.cap {a e : Nat} (h : Al a e) : Al (cap a) e := by unfold Al Sc.cap much at *; omega
theorem Al.fr {a e : Nat} (h : Al a e) : Al (fr a) (fr e) := by
  unfold Al Sc.fr at *
  rcases h with ⟨rfl, h⟩ | h
  · omega
  · omega
theorem Al.mul {a e : Nat} (k : Nat) (h : Al a e) : Al (k * a) (k * e) := by
  unfold Al at *
  rcases h with ⟨rfl, h⟩ | ⟨h1, h2⟩
  · omega
  · rcases Nat.eq_zero_or_pos k with rfl | hk
    · simp
    · have g1 : a ≤ k * a := Nat.le_mul_of_pos_left _ hk
      have g2 : e ≤ k * e := Nat.le_mul_of_pos_left _ hk
      omega
def Al2 (p q : Nat × Nat) : Prop := Al p.1 q.1 ∧ Al p.2 q.2
theorem pVal_al {f g : List Slot → Nat × Nat} (h : ∀ s, Al2 (f s) (g s)) (t : Slot) : Al2 (pVal f t) (exVal g t) := by
  unfold pVal exVal
  repeat' split
  all_goals first
  | exact ⟨Al.refl _, Al.refl _⟩
  | exact ⟨(((h t.sub).1.fr.mul _).huge).fr, (((h t.sub).2.fr.mul _).huge).fr⟩
  | exact ⟨(h t.sub).1.fr, (h t.sub).2.fr⟩
theorem bnd_kind {t : Slot} (h : bnd t = true) : t.kind = 1 ∨ t.kind = 2 ∨ t.kind = 3 ∨ t.kind = 4 ∨ t.kind = 5 ∨ t.kind = 6 ∨ t.kind = 7 ∨ t.kind = 8 ∨ t.kind = 9 := by
  unfold bnd at h
  repeat' split at h
  all_goals first | omega | cases h
theorem rVal_al {f g : List Slot → Nat × Nat} (t : Slot) (hb : bnd t = true) (h : nest t = true → Al2 (f t.sub) (g t.sub)) : Al2 (rVal f t) (exVal g t) := by
  unfold rVal exVal
  rcases bnd_kind hb with e | e | e | e | e | e | e | e | e
  all_goals simp only [e]
  all_goals simp
  all_goals first
  | exact ⟨Al.refl _, Al.refl _⟩
  | exact ⟨(Al.refl _).cap, (Al.refl _).cap⟩
  | exact ⟨(h (by simp [nest, e])).1.fr.cap, (h (by simp [nest, e])).2.fr.cap⟩
  | (rw [Nat.mul_comm _ t.least, Nat.mul_comm _ t.most]; exact ⟨(((h (by simp [nest, e])).1.fr.cap.mul _).cap).fr.cap, (((h (by simp [nest, e])).2.fr.cap.mul _).cap).fr.cap⟩)
theorem pGo_al {f g : List Slot → Nat × Nat} (h : ∀ s, Al2 (f s) (g s)) (s : List Slot) : Al2 (pGo f s) (exGo g s) := by
  unfold pGo exGo
  suffices hh : ∀ (s : List Slot) (p q : Nat × Nat), Al2 p q → Al2 (s.foldl (pStep f) p) (s.foldl (fun p t => (p.1 + hd t + (exVal g t).1, p.2 + hd t + (exVal g t).2)) q) from hh s _ _ ⟨Al.refl _, Al.refl _⟩
  intro s
  induction s with
  | nil => intro p q hp; exact hp
  | cons t r ih =>
    intro p q hp
    simp only [List.foldl_cons]
    exact ih _ _ ⟨((hp.1.add (Al.refl _)).add (pVal_al h t).1).huge, ((hp.2.add (Al.refl _)).add (pVal_al h t).2).huge⟩
theorem pSpan_al : ∀ (n : Nat) (s : List Slot), Al2 (pSpan n s) (exSpan n s)
  | 0, _ => ⟨Al.refl _, Al.refl _⟩
  | n + 1, s => pGo_al (pSpan_al n) s
theorem rGo_al {f g : List Slot → Nat × Nat} (s : List Slot) (hs : ∀ t ∈ s, bnd t = true ∧ (nest t = true → Al2 (f t.sub) (g t.sub))) : Al2 (rGo f s) (exGo g s) := by
  unfold rGo exGo
  suffices hh : ∀ (s : List Slot) (p q : Nat × Nat), (∀ t ∈ s, bnd t = true ∧ (nest t = true → Al2 (f t.sub) (g t.sub))) → Al2 p q → Al2 (s.foldl (rStep f) p) (s.foldl (fun p t => (p.1 + hd t + (exVal g t).1, p.2 + hd t + (exVal g t).2)) q) from hh s _ _ hs ⟨Al.refl _, Al.refl _⟩
  intro s
  induction s with
  | nil => intro p q _ hp; exact hp
  | cons t r ih =>
    intro p q hs hp
    simp only [List.foldl_cons]
    obtain ⟨hb, hf⟩ := hs t (by simp)
    exact ih _ _ (fun u hu => hs u (by simp [hu])) ⟨((hp.1.add (Al.refl _)).add (rVal_al t hb hf).1).cap, ((hp.2.add (Al.refl _)).add (rVal_al t hb hf).2).cap⟩
theorem rSpan_al : ∀ (n k : Nat) (s : List Slot), okL k s → Al2 (rSpan n s) (exSpan n s)
  | 0, _, _, _ => ⟨Al.refl _, Al.refl _⟩
  | n + 1, 0, s, h => h.elim
  | n + 1, k + 1, s, h => rGo_al s (fun t ht => ⟨(h.2 t ht).2.2.1, fun hn => rSpan_al n k t.sub ((h.2 t ht).2.2.2.1 hn)⟩)
theorem al_gt {a b e : Nat} (h : Al a e) (k : Al b e) : 4194304 < a ↔ 4194304 < b := by unfold Al at *; omega
theorem al_eq {a b e : Nat} (h : Al a e) (k : Al b e) (hm : ¬ 4194304 < a) : a = b := by unfold Al at *; omega
theorem pSpan_le (n : Nat) (s : List Slot) : (pSpan n s).1 ≤ huge ∧ (pSpan n s).2 ≤ huge := by
  cases n with
  | zero => simp [pSpan]
  | succ n =>
    simp only [pSpan, pGo]
    suffices hh : ∀ (s : List Slot) (p : Nat × Nat), p.1 ≤ huge ∧ p.2 ≤ huge → (s.foldl (pStep (pSpan n)) p).1 ≤ huge ∧ (s.foldl (pStep (pSpan n)) p).2 ≤ huge from hh s _ (by simp)
    intro s
    induction s with
    | nil => intro p hp; exact hp
    | cons t r ih => intro p hp; exact ih _ ⟨Nat.min_le_right _ _, Nat.min_le_right _ _⟩
theorem cap_le (n : Nat) : cap n ≤ 4194305 := Nat.min_le_right _ _
theorem rSpan_le (n : Nat) (s : List Slot) : (rSpan n s).1 ≤ 4194305 ∧ (rSpan n s).2 ≤ 4194305 := by
  cases n with
  | zero => simp [rSpan]
  | succ n =>
    simp only [rSpan, rGo]
    suffices hh : ∀ (s : List Slot) (p : Nat × Nat), p.1 ≤ 4194305 ∧ p.2 ≤ 4194305 → (s.foldl (rStep (rSpan n)) p).1 ≤ 4194305 ∧ (s.foldl (rStep (rSpan n)) p).2 ≤ 4194305 from hh s _ (by simp)
    intro s
    induction s with
    | nil => intro p hp; exact hp
    | cons t r ih => intro p hp; exact ih _ ⟨cap_le _, cap_le _⟩
theorem fr_le {a b : Nat} (h : a ≤ b) (hb : b < 18446744073709551616) : fr a ≤ b + 10 := by
  have := sz_u64 a (by omega)
  unfold fr; omega
theorem pGo_le (f : List Slot → Nat × Nat) (s : List Slot) : (pGo f s).1 ≤ 1073741824 ∧ (pGo f s).2 ≤ 1073741824 := by
  unfold pGo
  suffices hh : ∀ (s : List Slot) (p : Nat × Nat), p.1 ≤ 1073741824 ∧ p.2 ≤ 1073741824 → (s.foldl (pStep f) p).1 ≤ 1073741824 ∧ (s.foldl (pStep f) p).2 ≤ 1073741824 from hh s _ (by simp)
  intro s
  induction s with
  | nil => intro p hp; exact hp
  | cons t r ih => intro p hp; exact ih _ ⟨Nat.min_le_right _ _, Nat.min_le_right _ _⟩
theorem pVal_le (m : Nat) (t : Slot) (hb : bnd t = true) (h1 : t.least < 18446744073709551616) (h2 : t.most < 18446744073709551616) : (pVal (pSpan m) t).1 ≤ 1073741834 ∧ (pVal (pSpan m) t).2 ≤ 1073741834 := by
  obtain ⟨g1, g2⟩ := pSpan_le m t.sub
  unfold huge at g1 g2
  have s1 := sz_u64 _ h1
  have s2 := sz_u64 _ h2
  unfold pVal
  by_cases k5 : t.kind = 5 ∨ t.kind = 6
  · have hbb : t.least ≤ t.most ∧ t.most ≤ 4194304 := by
      unfold bnd at hb
      rw [if_neg (by omega), if_neg (by omega), if_neg (by omega), if_pos k5] at hb
      simpa using hb
    have f1 := fr_le (a := t.least) (b := 4194304) (by omega) (by omega)
    have f2 := fr_le (a := t.most) (b := 4194304) (by omega) (by omega)
    rw [if_neg (by omega), if_neg (by omega), if_neg (by omega), if_neg (by omega), if_pos k5]
    exact ⟨by simp only; omega, by simp only; omega⟩
  · repeat' split
    all_goals first
    | (simp only; omega)
    | exact absurd ‹_› k5
    | exact ⟨fr_le (b := 1073741824) (by unfold huge; omega) (by omega), fr_le (b := 1073741824) (by unfold huge; omega) (by omega)⟩
    | exact ⟨fr_le g1 (by omega), fr_le g2 (by omega)⟩
/-- What Valid answers. -/
def valid (n : Nat) (s : List Slot) : Int := if canL 6 s 256 = none then 80 else if 4194304 < (exSpan n s).2 then 2 else 0
end Go.Proofs.YtinngljphjdpoaaGreatDoor.Sc
/- How many bytes a number has, and its bytes: the program's Size, the reference's Put and Size. -/
namespace Go.Proofs.YtinngljphjdpoaaGreatDoor.Nm
open Go Go.RowKit Go.Proofs.YtinngljphjdpoaaGreatDoor.Pa Go.Proofs.YtinngljphjdpoaaGreatDoor.Pb Go.Proofs.YtinngljphjdpoaaGreatDoor.Nz
set_option linter.unusedVariables false
set_option linter.unusedSimpArgs false

theorem u8 : U8 Tryz.prog 23 5 := ⟨Tryz.underlying23, by kernel_rfl⟩

set_option maxRecDepth 100000 in
theorem size (n : Nat) (hn : n < 18446744073709551616) (w : World) : Calls Tryz.prog 112 #[.int .u64 n] w fun e w' => e = .returned (.int .i64 (sz n : Nat)) ∧ w = w' := by
  go_enter Tryz.func112, Tryz.ntmps112
  go_wp2
  go_loop [0, 3] (fun s t => ∃ m k : Nat, m < 18446744073709551616 ∧ sz m ≤ 10 ∧ k ≤ 10 ∧ sz m + k = sz n + 1 ∧ s = .int .u64 m ∧ t = .int .i64 k) (fun s t => (intOf s).toNat)
  case atStart => exact ⟨n, 1, hn, sz_u64 n hn, by omega, rfl, rfl, rfl⟩
  case round =>
    obtain ⟨m, k, hm, hs, hk, he, rfl, rfl⟩ := hrel
    have HE := Lib.hid he; clear he
    have hq : IntKind.u64.wrap ((m : Int) / 128) = ((m / 128 : Nat) : Int) := by rw [wu64 (by omega) (by omega)]; omega
    have HM := Lib.hid hm; have HN := Lib.hid hn; clear hm hn
    by_cases h : 128 ≤ m
    · have hst := sz_step h
      have hS := Lib.hid hst; clear hst
      go_wp2
      go_round
      case rel => exact ⟨m / 128, k + 1, by have := HM.out; omega, by have := hS.out; omega, by have := hS.out; have := HE.out; have := sz_pos (m / 128); have := sz_u64 n HN.out; omega, by have := hS.out; have := HE.out; omega, rfl, by go_num⟩
      case measure => simp [intOf]; omega
    · have hst := sz_end h
      have hS := Lib.hid hst; clear hst
      go_wp2
      go_ret
      have h1 := hS.out; have h2 := HE.out
      exact ⟨ret_int (by omega), rfl⟩


set_option maxRecDepth 100000 in
/-- The reference's Put: in new memory. -/
theorem put (v : Value) (l : List UInt8) (n : Nat) (hn : n < 18446744073709551616) (w : World) (hv : Rd w v l) (hl : l.length ≤ 140737488355000) :
    Calls Tryz.prog 106 #[v, .int .u64 n] w fun e w' => ∃ v', e = .returned v' ∧ Own w' w.heap.size 5 v' (l ++ num n) ∧ Below w.heap.size w w' := by
  have Hv := Lib.hid hv; have HN := Lib.hid hn; clear hv hn
  go_enter Tryz.func106, Tryz.ntmps106
  go_wp2_with (at_builtin; refine wp_app (.tmp 6) (.tmp 7) u8 rfl rfl rfl rfl (Own.empty w w.heap.size _ (Nat.le_refl _)) (Hv.out.below ((Below.refl _ _).alloc (Nat.le_refl _) _)) (by simp) (by simp; omega) ?_; intro v1 w1 ho1 hg1 _)
  have hb1 : Below w.heap.size w w1 := below_grown ((Below.refl _ _).alloc (Nat.le_refl _) _) (Own.empty w w.heap.size _ (Nat.le_refl _)) (Nat.le_refl _) (by simp) hg1
  go_loopw [1, 5] (fun s t wr => ∃ (m : Nat) (pre : List UInt8), m < 18446744073709551616 ∧ pre ++ num m = num n ∧ s = .int .u64 m ∧ Own wr w.heap.size 5 t (l ++ pre) ∧ Below w.heap.size w wr) (fun s t _ => (intOf s).toNat)
  case atStart => exact ⟨n, [], HN.out, rfl, rfl, by simpa using ho1, hb1⟩
  case round =>
    obtain ⟨m, pre, hm, hp, rfl, ho, hb⟩ := hrel
    have hpl : pre.length ≤ 10 := by have := congrArg List.length hp; have h2 := sz_u64 n HN.out; simp only [List.length_append] at this; unfold sz at h2; omega
    have hq : IntKind.u64.wrap ((m : Int) / 128) = ((m / 128 : Nat) : Int) := by rw [wu64 (by omega) (by omega)]; omega
    have HP := Lib.hid hp; have HM := Lib.hid hm; have HO := Lib.hid ho; clear hp hm ho
    have hbs := hb.size
    by_cases h : 128 ≤ m
    · have HY := Lib.hid (show ((m : Int) % 128 + 128) = ((UInt8.ofNat (m % 128 + 128)).toNat : Int) by rw [← of_nat8 (by omega)]; omega)
      go_wp2_with (at_builtin; refine wp_app (.tmp 11) (.tmp 16) u8 rfl rfl rfl rfl (HO.out.alloc _) (rd_box wr _ _ _ HY.out) (by simp; omega) (by simp; omega) ?_; intro v2 w2 ho2 hg2 _)
      have hb2 : Below w.heap.size w w2 := below_grown (hb.alloc hbs _) (HO.out.alloc _) (Nat.le_refl _) (by simp; omega) hg2
      go_wp2
      go_roundw
      case rel => exact ⟨m / 128, pre ++ [UInt8.ofNat (m % 128 + 128)], by have := HM.out; omega, by rw [← HP.out, num_step h]; simp, rfl, by simpa using ho2, hb2⟩
      case measure => simp [intOf]; omega
    · have HY := Lib.hid (show (m : Int) = ((UInt8.ofNat m).toNat : Int) from of_nat8 (by omega))
      go_wp2_with (at_builtin; refine wp_app (.tmp 20) (.tmp 23) u8 rfl rfl rfl rfl (HO.out.alloc _) (rd_box wr _ _ _ HY.out) (by simp; omega) (by simp; omega) ?_; intro v2 w2 ho2 hg2 _)
      have hb2 : Below w.heap.size w w2 := below_grown (hb.alloc hbs _) (HO.out.alloc _) (Nat.le_refl _) (by simp; omega) hg2
      go_wp2
      go_ret
      refine ⟨v2, rfl, ?_, hb2⟩
      rw [← HP.out, num_end h]
      simpa using ho2

theorem rsize (n : Nat) (hn : n < 18446744073709551616) (w : World) : Calls Tryz.prog 88 #[.int .u64 n] w fun e w' => e = .returned (.int .i64 (sz n : Nat)) ∧ Below w.heap.size w w' := by
  have HN := Lib.hid hn; clear hn
  go_enter Tryz.func88, Tryz.ntmps88
  go_wp2_with (go_at_call 106; refine (put _ [] n HN.out _ (Rd.nil _) (by simp)).mono ?_; rintro e w1 ⟨v1, rfl, ho1, hb1⟩; obtain ⟨A1, c1, rfl⟩ := ho1.slice)
  go_ret
  exact ⟨by simp [sz], hb1⟩
end Go.Proofs.YtinngljphjdpoaaGreatDoor.Nm
/- The program's wireOf, framed, valueSpan, span. -/
namespace Go.Proofs.YtinngljphjdpoaaGreatDoor.Vc
open Go Go.RowKit Go.Proofs.YtinngljphjdpoaaGreatDoor.Pa Go.Proofs.YtinngljphjdpoaaGreatDoor.Pb Go.Proofs.YtinngljphjdpoaaGreatDoor.Pf Go.Proofs.YtinngljphjdpoaaGreatDoor.Nz Go.Proofs.YtinngljphjdpoaaGreatDoor.Nm Go.Proofs.YtinngljphjdpoaaGreatDoor.Sc Go.Proofs.YtinngljphjdpoaaGreatDoor.Rs Go.Proofs.YtinngljphjdpoaaGreatDoor.Va
set_option linter.unusedVariables false
set_option linter.unusedSimpArgs false

theorem wireOf (k : Int) (w : World) : Calls Tryz.prog 113 #[.int .i64 k] w fun e w' => e = .returned (.int .i64 (wt k : Nat)) ∧ w = w' := by
  obtain ⟨r, hr⟩ : ∃ r, r = ((wt k : Nat) : Int) := ⟨_, rfl⟩
  rw [← hr]
  by_cases k1 : k = 1
  · subst k1
    have hr' : r = 0 := hr
    subst hr'
    clear hr
    go_enter Tryz.func113, Tryz.ntmps113
    go_wp2
    go_ret
    exact ⟨rfl, rfl⟩
  by_cases k4 : k = 4
  · subst k4
    have hr' : r = 0 := hr
    subst hr'
    clear hr
    go_enter Tryz.func113, Tryz.ntmps113
    go_wp2
    go_ret
    exact ⟨rfl, rfl⟩
  by_cases k3 : k = 3
  · subst k3
    have hr' : r = 1 := hr
    subst hr'
    clear hr
    go_enter Tryz.func113, Tryz.ntmps113
    go_wp2
    go_ret
    exact ⟨rfl, rfl⟩
  by_cases k7 : k = 7
  · subst k7
    have hr' : r = 1 := hr
    subst hr'
    clear hr
    go_enter Tryz.func113, Tryz.ntmps113
    go_wp2
    go_ret
    exact ⟨rfl, rfl⟩
  by_cases k2 : k = 2
  · subst k2
    have hr' : r = 5 := hr
    subst hr'
    clear hr
    go_enter Tryz.func113, Tryz.ntmps113
    go_wp2
    go_ret
    exact ⟨rfl, rfl⟩
  have hr' : r = 2 := by rw [hr]; unfold wt; rw [if_neg (by omega), if_neg (by omega), if_neg (by omega)]; rfl
  subst hr'
  clear hr
  have e1 : (k == 1) = false := by simpa using k1
  have e2 : (k == 2) = false := by simpa using k2
  have e3 : (k == 3) = false := by simpa using k3
  have e4 : (k == 4) = false := by simpa using k4
  have e7 : (k == 7) = false := by simpa using k7
  go_enter Tryz.func113, Tryz.ntmps113
  go_wp2
  go_ret
  exact ⟨rfl, rfl⟩

theorem framed (x : Int) (h0 : 0 ≤ x) (h1 : x ≤ 4611686018427387904) (w : World) : Calls Tryz.prog 141 #[.int .i64 x] w fun e w' => e = .returned (.int .i64 (fr x.toNat : Nat)) ∧ w = w' := by
  obtain ⟨n, rfl⟩ := Int.eq_ofNat_of_zero_le h0
  have hs := sz_u64 n (by omega)
  have hq : IntKind.u64.wrap (n : Int) = (n : Int) := wu64 (by omega) (by omega)
  go_enter Tryz.func141, Tryz.ntmps141
  go_wp2_with (go_at_call 112; refine (size n (by omega) _).mono ?_; rintro e w1 ⟨rfl, rfl⟩)
  go_ret
  exact ⟨ret_int (by simp [fr]), rfl⟩

/-- A box of this call's own, kept. -/
def Kept (w : World) (C : Array Value) (W : World) : Prop := Below w.heap.size w W ∧ hp W w.heap.size = some (.cells C 117 (0, 0))
theorem Kept.on {w W W' : World} {C : Array Value} (h : Kept w C W) (hb : Below W.heap.size W W') : Kept w C W' := by
  have hlt : w.heap.size < W.heap.size := by
    rcases Nat.lt_or_ge w.heap.size W.heap.size with h1 | h1
    · exact h1
    · have := h.2; unfold hp at this; rw [Array.getElem?_eq_none h1] at this; cases this
  exact ⟨h.1.trans (hb.mono h.1.size), (hb.hp _ hlt).trans h.2⟩
theorem Kept.same {w W W' : World} {C : Array Value} (h : Kept w C W) (hb : W = W') : Kept w C W' := hb ▸ h

/-- What span answers. -/
def SpanSaid (m : Nat) : Prop := ∀ (k : Nat) (v : Value) (l : List Slot) (W w : World), RdS W m v l → okL k l → Below W.heap.size W w →
  Calls Tryz.prog 92 #[v] w fun e w' => e = .returned (.tuple #[.int .i64 (pSpan m l).1, .int .i64 (pSpan m l).2]) ∧ Below w.heap.size w w'

theorem fr_congr {a b : Nat} (h : a = b) : fr a = fr b := by rw [h]
theorem ret2 {a b c d : Nat} (h1 : a = c) (h2 : b = d) : Ending.returned (.tuple #[.int .i64 (a : Int), .int .i64 (b : Int)]) = .returned (.tuple #[.int .i64 (c : Int), .int .i64 (d : Int)]) := by rw [h1, h2]
set_option maxRecDepth 100000 in
theorem valueSpan (m k : Nat) (IH : SpanSaid m) (no kind : Int) (least most : Nat) (sub : List Slot) (sv : Value) (W w : World) (h1 : sv.oneCell' = true) (hb : bnd (.mk no kind least most sub) = true) (hl : least < 18446744073709551616) (hm : most < 18446744073709551616)
    (hn : nest (.mk no kind least most sub) = true → RdS W m sv sub ∧ okL k sub) (hB : Below W.heap.size W w) :
    Calls Tryz.prog 114 #[.agg #[.int .i64 no, .int .i64 kind, .int .u64 least, .int .u64 most, sv]] w fun e w' =>
      e = .returned (.tuple #[.int .i64 (pVal (pSpan m) (.mk no kind least most sub)).1, .int .i64 (pVal (pSpan m) (.mk no kind least most sub)).2]) ∧ Below w.heap.size w w' := by
  obtain ⟨r, hr⟩ : ∃ r, r = pVal (pSpan m) (.mk no kind least most sub) := ⟨_, rfl⟩
  rw [← hr]
  have HB := Lib.hid hB
  have bx : Below w.heap.size w (w.alloc (.cells #[.int .i64 no, .int .i64 kind, .int .u64 least, .int .u64 most, sv] 117)) := (Below.refl _ _).alloc (Nat.le_refl _) _
  clear hB
  have hbb := bnd_at no kind least most sub
  rw [hb] at hbb
  rcases bnd_kind hb with e | e | e | e | e | e | e | e | e
  · simp only [Slot.kind] at e
    subst e
    have hr' : r = (sz least, sz most) := hr
    subst hr'
    clear hr hbb hb hn
    go_enter Tryz.func114, Tryz.ntmps114
    go_wp2_with fail
    refine wp_region_calm (S := Kept w #[.int .i64 no, .int .i64 1, .int .u64 least, .int .u64 most, sv]) (by kernel_rfl) (by kernel_rfl) ⟨bx.drew, by simp [go_sem]⟩ ?_
    intro hN
    have hC : ∀ (u : Held (Kept w #[.int .i64 no, .int .i64 1, .int .u64 least, .int .u64 most, sv])) (i : Nat), u.w.cell? ⟨w.heap.size, i, none⟩ = (#[.int .i64 no, .int .i64 1, .int .u64 least, .int .u64 most, sv] : Array Value)[i]? := fun u i => hp_cell u.h.2 i
    repeat (go_big_quiet_step (first | (go_at_call 112; exact calm_call (size _ (by assumption) _) (fun w' hs hr => hs.same hr))))
    refine wpQuiet_nil ?_
    intro u
    have hb := u.h.1
    go_wp2
    go_ret2
    exact ⟨rfl, hb⟩
  · simp only [Slot.kind] at e
    subst e
    have hr' : r = (4, 4) := hr
    subst hr'
    clear hr hbb hb hn
    go_enter Tryz.func114, Tryz.ntmps114
    go_wp2_with fail
    go_ret2
    exact ⟨rfl, bx⟩
  · simp only [Slot.kind] at e
    subst e
    have hr' : r = (8, 8) := hr
    subst hr'
    clear hr hbb hb hn
    go_enter Tryz.func114, Tryz.ntmps114
    go_wp2_with fail
    go_ret2
    exact ⟨rfl, bx⟩
  · simp only [Slot.kind] at e
    subst e
    have hr' : r = (1, 1) := hr
    subst hr'
    clear hr hbb hb hn
    go_enter Tryz.func114, Tryz.ntmps114
    go_wp2_with fail
    go_ret2
    exact ⟨rfl, bx⟩
  · simp only [Slot.kind] at e
    subst e
    have hr' : r = (fr least, fr most) := hr
    subst hr'
    have h2 : least ≤ most ∧ most ≤ 4194304 := by simpa using hbb.symm
    clear hr hbb hb hn
    have hq1 : wrap64 (least : Int) = (least : Int) := w64 (by omega) (by omega)
    have hq2 : wrap64 (most : Int) = (most : Int) := w64 (by omega) (by omega)
    go_enter Tryz.func114, Tryz.ntmps114
    go_wp2_with fail
    refine wp_region_calm (S := Kept w #[.int .i64 no, .int .i64 5, .int .u64 least, .int .u64 most, sv]) (by kernel_rfl) (by kernel_rfl) ⟨bx.drew, by simp [go_sem]⟩ ?_
    intro hN
    have hC : ∀ (u : Held (Kept w #[.int .i64 no, .int .i64 5, .int .u64 least, .int .u64 most, sv])) (i : Nat), u.w.cell? ⟨w.heap.size, i, none⟩ = (#[.int .i64 no, .int .i64 5, .int .u64 least, .int .u64 most, sv] : Array Value)[i]? := fun u i => hp_cell u.h.2 i
    repeat (go_big_quiet_step (first | (go_at_call 141; exact calm_call (framed _ (by omega) (by omega) _) (fun w' hs hr => hs.same hr))))
    refine wpQuiet_nil ?_
    intro u
    have hb := u.h.1
    go_wp2
    go_ret2
    exact ⟨by simp, hb⟩
  · simp only [Slot.kind] at e
    subst e
    have hr' : r = (fr least, fr most) := hr
    subst hr'
    have h2 : least ≤ most ∧ most ≤ 4194304 := by simpa using hbb.symm
    clear hr hbb hb hn
    have hq1 : wrap64 (least : Int) = (least : Int) := w64 (by omega) (by omega)
    have hq2 : wrap64 (most : Int) = (most : Int) := w64 (by omega) (by omega)
    go_enter Tryz.func114, Tryz.ntmps114
    go_wp2_with fail
    refine wp_region_calm (S := Kept w #[.int .i64 no, .int .i64 6, .int .u64 least, .int .u64 most, sv]) (by kernel_rfl) (by kernel_rfl) ⟨bx.drew, by simp [go_sem]⟩ ?_
    intro hN
    have hC : ∀ (u : Held (Kept w #[.int .i64 no, .int .i64 6, .int .u64 least, .int .u64 most, sv])) (i : Nat), u.w.cell? ⟨w.heap.size, i, none⟩ = (#[.int .i64 no, .int .i64 6, .int .u64 least, .int .u64 most, sv] : Array Value)[i]? := fun u i => hp_cell u.h.2 i
    repeat (go_big_quiet_step (first | (go_at_call 141; exact calm_call (framed _ (by omega) (by omega) _) (fun w' hs hr => hs.same hr))))
    refine wpQuiet_nil ?_
    intro u
    have hb := u.h.1
    go_wp2
    go_ret2
    exact ⟨by simp, hb⟩
  · simp only [Slot.kind] at e
    subst e
    have hr' : r = (8, 8) := hr
    subst hr'
    clear hr hbb hb hn
    go_enter Tryz.func114, Tryz.ntmps114
    go_wp2_with fail
    go_ret2
    exact ⟨rfl, bx⟩
  · simp only [Slot.kind] at e
    subst e
    have hr' : r = (fr (pSpan m sub).1, fr (pSpan m sub).2) := hr
    subst hr'
    obtain ⟨hrd, hok⟩ := hn rfl
    have hsp := pSpan_le m sub
    unfold huge at hsp
    clear hr hbb hb hn
    obtain ⟨p, hp⟩ : ∃ p, p = pSpan m sub := ⟨_, rfl⟩
    rw [← hp] at hsp ⊢
    obtain ⟨x, y⟩ := p
    simp only at hsp ⊢
    have HP := Lib.hid hp; clear hp
    have HR := Lib.hid hrd; have HK := Lib.hid hok; have IHH := Lib.hid IH; clear hrd hok IH
    go_enter Tryz.func114, Tryz.ntmps114
    go_wp2_with (go_at_call 9999)
    go_at_call 92
    refine (IHH.out k sv sub W _ HR.out HK.out (HB.out.trans (bx.mono HB.out.size))).mono ?_
    rintro e w1 ⟨rfl, hb1⟩
    rw [← HP.out]
    simp only
    have hbw : Below w.heap.size w w1 := bx.trans (hb1.mono (by simp))
    have hcc : ∀ i, w1.cell? ⟨w.heap.size, i, none⟩ = (#[.int .i64 no, .int .i64 8, .int .u64 least, .int .u64 most, sv] : Array Value)[i]? := fun i => hp_cell ((hb1.hp w.heap.size (by simp)).trans (hp_alloc_at _ _ rfl)) i
    go_wp2_with (go_at_call 9999)
    go_at_call 141
    refine (framed x (by omega) (by omega) _).mono ?_
    rintro e w2 ⟨rfl, rfl⟩
    go_wp2_with (go_at_call 9999)
    go_at_call 141
    refine (framed y (by omega) (by omega) _).mono ?_
    rintro e w2 ⟨rfl, rfl⟩
    go_wp2_with fail
    go_ret2
    exact ⟨by simp, hbw⟩
  · simp only [Slot.kind] at e
    subst e
    have hr' : r = (fr (min (least * fr (pSpan m sub).1) huge), fr (min (most * fr (pSpan m sub).2) huge)) := hr
    subst hr'
    obtain ⟨hrd, hok⟩ := hn rfl
    have hsp := pSpan_le m sub
    unfold huge at hsp ⊢
    have h2 : least ≤ most ∧ most ≤ 4096 := by simpa using hbb.symm
    clear hr hbb hb hn
    obtain ⟨p, hp⟩ : ∃ p, p = pSpan m sub := ⟨_, rfl⟩
    rw [← hp] at hsp ⊢
    obtain ⟨x, y⟩ := p
    simp only at hsp ⊢
    have HP := Lib.hid hp; clear hp
    have hx := sz_u64 x (by omega)
    have hy := sz_u64 y (by omega)
    have hfx : fr x ≤ 1073741834 := by unfold fr; omega
    have hfy : fr y ≤ 1073741834 := by unfold fr; omega
    have hm1 : least * fr x ≤ 4096 * 1073741834 := Nat.mul_le_mul (by omega) hfx
    have hm2 : most * fr y ≤ 4096 * 1073741834 := Nat.mul_le_mul (by omega) hfy
    have hw1 : wrap64 ((least : Int) * (fr x : Int)) = ((least * fr x : Nat) : Int) := by rw [← Int.natCast_mul]; exact w64 (by omega) (by omega)
    have hw2 : wrap64 ((most : Int) * (fr y : Int)) = ((most * fr y : Nat) : Int) := by rw [← Int.natCast_mul]; exact w64 (by omega) (by omega)
    clear hm1 hm2 hfx hfy hx hy
    generalize hA : least * fr x = A at hw1
    generalize hB : most * fr y = B at hw2
    have HA := Lib.hid hA; have HB' := Lib.hid hB; clear hA hB
    have HR := Lib.hid hrd; have HK := Lib.hid hok; have IHH := Lib.hid IH; clear hrd hok IH
    go_enter Tryz.func114, Tryz.ntmps114
    go_wp2_with (go_at_call 9999)
    go_at_call 92
    refine (IHH.out k sv sub W _ HR.out HK.out (HB.out.trans (bx.mono HB.out.size))).mono ?_
    rintro e w1 ⟨rfl, hb1⟩
    rw [← HP.out]
    simp only
    have hbw : Below w.heap.size w w1 := bx.trans (hb1.mono (by simp))
    have hcc : ∀ i, w1.cell? ⟨w.heap.size, i, none⟩ = (#[.int .i64 no, .int .i64 9, .int .u64 least, .int .u64 most, sv] : Array Value)[i]? := fun i => hp_cell ((hb1.hp w.heap.size (by simp)).trans (hp_alloc_at _ _ rfl)) i
    have hq1 : wrap64 (least : Int) = (least : Int) := w64 (by omega) (by omega)
    have hq2 : wrap64 (most : Int) = (most : Int) := w64 (by omega) (by omega)
    by_cases ha : (1073741824 : Int) < (A : Int) <;> by_cases hb' : (1073741824 : Int) < (B : Int)
    all_goals
      go_wp2_with fail
      have hS : Kept w #[.int .i64 no, .int .i64 9, .int .u64 least, .int .u64 most, sv] w1 := ⟨hbw, (hb1.hp w.heap.size (by simp)).trans (hp_alloc_at _ _ rfl)⟩
      clear hcc
      refine wp_region_calm (S := Kept w #[.int .i64 no, .int .i64 9, .int .u64 least, .int .u64 most, sv]) (by kernel_rfl) (by kernel_rfl) ⟨hS.1.drew, hS.2⟩ ?_
      intro hN
      have hC : ∀ (u : Held (Kept w #[.int .i64 no, .int .i64 9, .int .u64 least, .int .u64 most, sv])) (i : Nat), u.w.cell? ⟨w.heap.size, i, none⟩ = (#[.int .i64 no, .int .i64 9, .int .u64 least, .int .u64 most, sv] : Array Value)[i]? := fun u i => hp_cell u.h.2 i
      repeat (go_big_quiet_step (first | (go_at_call 141; exact calm_call (framed _ (by omega) (by omega) _) (fun w' hs hr => hs.same hr))))
      refine wpQuiet_nil ?_
      intro u
      have hb := u.h.1
      go_wp2_with (go_at_call 9999)
      go_at_call 141
      refine (framed _ (by omega) (by omega) _).mono ?_
      rintro e w2 ⟨rfl, rfl⟩
      go_wp2_with (go_at_call 9999)
      go_at_call 141
      refine (framed _ (by omega) (by omega) _).mono ?_
      rintro e w2 ⟨rfl, rfl⟩
      go_wp2_with fail
      go_ret2
      refine ⟨?_, hb⟩
      show Ending.returned (.tuple #[.int .i64 ((fr _ : Nat) : Int), .int .i64 ((fr _ : Nat) : Int)]) = _
      exact ret2 (fr_congr (by omega)) (fr_congr (by omega))
end Go.Proofs.YtinngljphjdpoaaGreatDoor.Vc
/- Fields as bytes: plain. No program in sight; no conditions. -/
namespace Go.Proofs.YtinngljphjdpoaaGreatDoor.Ep
open Go.Proofs.YtinngljphjdpoaaGreatDoor.Nz
set_option linter.unusedVariables false
set_option linter.unusedSimpArgs false
/-- A field: number, wire type, number within, bytes within. -/
structure Fd where
  no : Int
  ty : Int
  num : Nat
  data : List UInt8
/-- A number in so many bytes, the lowest first. -/
def low : Nat → Nat → List UInt8
  | _, 0 => []
  | n, k + 1 => UInt8.ofNat (n % 256) :: low (n / 256) k
theorem low_length : ∀ (n k : Nat), (low n k).length = k
  | _, 0 => rfl
  | n, k + 1 => by simp [low, low_length]
theorem low_snoc : ∀ (k n : Nat), low n (k + 1) = low n k ++ [UInt8.ofNat (n / 256 ^ k % 256)]
  | 0, n => by simp [low]
  | k + 1, n => by
    rw [low, low_snoc k (n / 256), low]
    simp only [List.cons_append]
    congr 4
    rw [Nat.div_div_eq_div_mul, Nat.pow_succ, Nat.mul_comm]
/-- A field's bytes. -/
def one (f : Fd) : List UInt8 :=
  num (8 * f.no.toNat + f.ty.toNat) ++ (if f.ty = 0 then num f.num else if f.ty = 1 then low f.num 8 else if f.ty = 5 then low f.num 4 else num f.data.length ++ f.data)
/-- What is wrong with a field behind one of a number. -/
def wrong (f : Fd) (last : Int) : Int :=
  if f.no < 1 ∨ 536870911 < f.no ∨ f.no ≤ last then 71
  else if f.ty = 2 then (if f.num ≠ 0 then 1 else 0)
  else if f.ty = 0 ∨ f.ty = 1 ∨ f.ty = 5 then (if f.data.length ≠ 0 ∨ (f.ty = 5 ∧ 4294967296 ≤ f.num) then 1 else 0)
  else 72
/-- The first that is wrong. -/
def errGo : Int → List Fd → Int
  | _, [] => 0
  | last, f :: r => if wrong f last ≠ 0 then wrong f last else errGo f.no r
theorem errGo_drop (last : Int) (l : List Fd) (i : Nat) (h : i < l.length) : errGo last (l.drop i) = if wrong l[i] last ≠ 0 then wrong l[i] last else errGo l[i].no (l.drop (i + 1)) := by
  rw [List.drop_eq_getElem_cons h]; rfl
def sumL : List Fd → Nat
  | [] => 0
  | f :: r => f.data.length + sumL r
theorem sumL_drop (l : List Fd) (i : Nat) (h : i < l.length) : sumL (l.drop i) = l[i].data.length + sumL (l.drop (i + 1)) := by
  rw [List.drop_eq_getElem_cons h]; rfl
def bytes : List Fd → List UInt8
  | [] => []
  | f :: r => one f ++ bytes r
theorem bytes_drop (l : List Fd) (i : Nat) (h : i < l.length) : bytes (l.drop i) = one l[i] ++ bytes (l.drop (i + 1)) := by
  rw [List.drop_eq_getElem_cons h]; rfl
/-- The error and the bytes. -/
def encE (l : List Fd) : Int := if 64 < l.length then 2 else if errGo 0 l ≠ 0 then errGo 0 l else if 4194304 < sumL l then 2 else if 4194304 < (bytes l).length then 2 else 0
def enc (l : List Fd) : List UInt8 := if encE l = 0 then bytes l else []
theorem enc_len (l : List Fd) : (enc l).length ≤ 4194304 := by
  unfold enc
  split
  · rename_i h
    unfold encE at h
    split at h
    · cases h
    · split at h
      · rename_i h1; exact absurd h h1
      · split at h
        · cases h
        · split at h
          · cases h
          · omega
  · simp
theorem one_len (f : Fd) (h : f.num < 18446744073709551616) (hd : f.data.length ≤ 5000000) (h1 : f.no ≤ 536870911) (h2 : f.ty ≤ 7) : (one f).length ≤ 5000020 := by
  unfold one
  have e1 := sz_u64 (8 * f.no.toNat + f.ty.toNat) (by omega)
  have e2 := sz_u64 f.num h
  have e3 := sz_u64 f.data.length (by omega)
  unfold sz at *
  split
  · simp; omega
  · split
    · simp [low_length]; omega
    · split
      · simp [low_length]; omega
      · simp; omega
theorem one_len2 (f : Fd) (h : f.num < 18446744073709551616) (hd : f.data.length ≤ 5000000) (h1 : f.no ≤ 536870911) (h2 : f.ty ≤ 7) : (one f).length ≤ f.data.length + 20 := by
  unfold one
  have e1 := sz_u64 (8 * f.no.toNat + f.ty.toNat) (by omega)
  have e2 := sz_u64 f.num h
  have e3 := sz_u64 f.data.length (by omega)
  unfold sz at *
  split
  · simp; omega
  · split
    · simp [low_length]; omega
    · split
      · simp [low_length]; omega
      · simp; omega
theorem wrong_ok {f : Fd} {last : Int} (h : wrong f last = 0) : 1 ≤ f.no ∧ f.no ≤ 536870911 ∧ (f.ty = 0 ∨ f.ty = 1 ∨ f.ty = 5 ∨ f.ty = 2) := by
  unfold wrong at h
  split at h
  · cases h
  · split at h
    · exact ⟨by omega, by omega, by omega⟩
    · split at h
      · exact ⟨by omega, by omega, by omega⟩
      · cases h
theorem errGo_ok : ∀ (l : List Fd) (last : Int), errGo last l = 0 → ∀ f ∈ l, 1 ≤ f.no ∧ f.no ≤ 536870911 ∧ (f.ty = 0 ∨ f.ty = 1 ∨ f.ty = 5 ∨ f.ty = 2)
  | [], _, _, f, hf => by cases hf
  | g :: r, last, h, f, hf => by
    simp only [errGo] at h
    split at h
    · rename_i h1; exact absurd h h1
    · rename_i h1
      rcases List.mem_cons.1 hf with rfl | hf
      · exact wrong_ok (last := last) (by omega)
      · exact errGo_ok r g.no h f hf
theorem bytes_len : ∀ (l : List Fd), (∀ f ∈ l, f.num < 18446744073709551616 ∧ f.data.length ≤ 5000000) → (∀ f ∈ l, 1 ≤ f.no ∧ f.no ≤ 536870911 ∧ (f.ty = 0 ∨ f.ty = 1 ∨ f.ty = 5 ∨ f.ty = 2)) → (bytes l).length ≤ sumL l + 20 * l.length
  | [], _, _ => by simp [bytes]
  | f :: r, h, k => by
    have h1 := bytes_len r (fun g hg => h g (by simp [hg])) (fun g hg => k g (by simp [hg]))
    have h2 := h f (by simp)
    have h3 := k f (by simp)
    have h4 := one_len2 f h2.1 h2.2 h3.2.1 (by omega)
    simp [bytes, sumL]
    omega
/-! ### Items -/
def jsum : List (List UInt8) → Nat
  | [] => 0
  | x :: r => x.length + sz x.length + jsum r
theorem jsum_drop (l : List (List UInt8)) (i : Nat) (h : i < l.length) : jsum (l.drop i) = l[i].length + sz l[i].length + jsum (l.drop (i + 1)) := by
  rw [List.drop_eq_getElem_cons h]; rfl
def jbytes : List (List UInt8) → List UInt8
  | [] => []
  | x :: r => num x.length ++ x ++ jbytes r
theorem jbytes_drop (l : List (List UInt8)) (i : Nat) (h : i < l.length) : jbytes (l.drop i) = num l[i].length ++ l[i] ++ jbytes (l.drop (i + 1)) := by
  rw [List.drop_eq_getElem_cons h]; rfl
theorem jbytes_len : ∀ (l : List (List UInt8)), (jbytes l).length = jsum l
  | [] => rfl
  | x :: r => by simp [jbytes, jsum, jbytes_len r, sz]; omega
def joinE (l : List (List UInt8)) : Int := if 4096 < l.length then 2 else if 4194304 < jsum l then 2 else 0
def join (l : List (List UInt8)) : List UInt8 := if joinE l = 0 then jbytes l else []
theorem join_len (l : List (List UInt8)) : (join l).length ≤ 4194304 := by
  unfold join
  split
  · rename_i h
    unfold joinE at h
    split at h
    · cases h
    · split at h
      · cases h
      · rw [jbytes_len]; omega
  · simp
end Go.Proofs.YtinngljphjdpoaaGreatDoor.Ep
