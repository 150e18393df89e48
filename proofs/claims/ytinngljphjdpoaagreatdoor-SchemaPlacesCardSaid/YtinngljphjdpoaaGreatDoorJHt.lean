/- slotsLeft, bigSlots. -/
import Derived.Test.YtinngljphjdpoaaGreatDoorProg
import Derived.Test.YtinngljphjdpoaaGreatDoorJRs
import Derived.Outline
import Derived.Deep.OwnRows
namespace Go.Proofs.YtinngljphjdpoaaGreatDoor.Sl
open Go Go.RowKit Go.Proofs.YtinngljphjdpoaaGreatDoor.Pa Go.Proofs.YtinngljphjdpoaaGreatDoor.Pb Go.Proofs.YtinngljphjdpoaaGreatDoor.Sc Go.Proofs.YtinngljphjdpoaaGreatDoor.Rs
set_option linter.unusedVariables false
set_option linter.unusedSimpArgs false

set_option maxRecDepth 100000 in
theorem slotsLeft : ∀ (n : Nat) (v : Value) (l : List Slot) (left : Int) (w : World), RdS w n v l → -1 ≤ left → left ≤ 10000 →
    Calls Tryz.prog 44 #[v, .int .i64 left] w fun e w' => e = .returned (.int .i64 (sl n l left)) ∧ w = w'
  | 0, v, l, left, w, h, _, _ => h.elim
  | n + 1, v, l, left, w, h, h1, h2 => by
    obtain ⟨A, c, rfl, hlc, hcm⟩ := h.slice
    unfold maxLen at hcm
    have ih := slotsLeft n
    have IH := Lib.hid ih; clear ih
    have H := Lib.hid h; clear h
    go_enter Tryz.func44, Tryz.ntmps44
    go_wp2_with fail
    go_loop [1, 5] (fun s t => ∃ (i : Nat) (x : Int), i ≤ l.length ∧ -1 ≤ x ∧ x ≤ 10000 ∧ s = .int .i64 x ∧ t = .int .i64 i ∧ slGo (sl n) (l.drop i) x = sl (n + 1) l left) (fun _ t => l.length - (intOf t).toNat)
    case atStart => exact ⟨0, left, by omega, h1, h2, rfl, rfl, rfl⟩
    case round =>
      obtain ⟨i, x, hi, hx1, hx2, rfl, rfl, he⟩ := hrel
      have HE := Lib.hid he; clear he
      by_cases hil : i < l.length
      · obtain ⟨ad, rfl, hwf, sv, hsl, hrd⟩ := H.out.at_ i hil
        obtain ⟨p, hp⟩ : ∃ p, ad.add (i * 5) = p := ⟨_, rfl⟩
        rw [hp] at hsl
        have hsub := hsl.sub
        by_cases hx0 : 0 ≤ x
        · have hst := slGo_drop (sl n) l i x hil hx0
          have hle := sl_le n l[i].sub (x - 1)
          have hge := sl_ge n l[i].sub (x - 1) (by omega)
          have HST := Lib.hid hst; have HR := Lib.hid hrd; have HS := Lib.hid hsl; have HW := Lib.hid hwf; clear hst hrd hsl hwf
          go_wp2_with (go_at_call 44; refine (IH.out _ _ _ _ HR.out (by omega) (by omega)).mono ?_; rintro e w' ⟨rfl, rfl⟩)
          go_round
          case rel => exact ⟨i + 1, _, by omega, hge, by omega, rfl, by go_num, by rw [← HE.out, HST.out]⟩
          case measure => simp [intOf]; omega
        · clear hrd hsl hwf
          have hfin : sl (n + 1) l left = x := by rw [← HE.out, slGo_neg _ _ _ (by omega)]
          have HF := Lib.hid hfin; clear hfin
          go_wp2_with fail
          go_ret
          exact ⟨ret_int HF.out.symm, rfl⟩
      · obtain rfl : i = l.length := by omega
        have hfin : sl (n + 1) l left = x := by rw [← HE.out, List.drop_length]; rfl
        have HF := Lib.hid hfin; clear hfin
        go_wp2_with fail
        go_ret
        exact ⟨ret_int HF.out.symm, rfl⟩
theorem big {n : Nat} {v : Value} {l : List Slot} (w : World) (h : RdS w n v l) :
    Calls Tryz.prog 10 #[v] w fun e w' => e = .returned (.bool (decide (sl n l 10000 < 0))) ∧ w = w' := by
  obtain ⟨A, c, rfl, -⟩ := h.slice
  have H := Lib.hid h; clear h
  go_enter Tryz.func10, Tryz.ntmps10
  go_wp2_with (go_at_call 44; refine (slotsLeft n _ _ 10000 _ H.out (by omega) (by omega)).mono ?_; rintro e w' ⟨rfl, rfl⟩)
  go_ret
  exact ⟨rfl, rfl⟩
end Go.Proofs.YtinngljphjdpoaaGreatDoor.Sl
/- The program's bounded, nested, canBe. -/
namespace Go.Proofs.YtinngljphjdpoaaGreatDoor.Va
open Go Go.RowKit Go.Proofs.YtinngljphjdpoaaGreatDoor.Pa Go.Proofs.YtinngljphjdpoaaGreatDoor.Pb Go.Proofs.YtinngljphjdpoaaGreatDoor.Pf Go.Proofs.YtinngljphjdpoaaGreatDoor.Sc Go.Proofs.YtinngljphjdpoaaGreatDoor.Rs
set_option linter.unusedVariables false
set_option linter.unusedSimpArgs false

/-- A slot's cells. -/
def sc (t : Slot) (sv : Value) : Value := .agg #[.int .i64 t.no, .int .i64 t.kind, .int .u64 t.least, .int .u64 t.most, sv]
theorem bnd_at (no kind : Int) (least most : Nat) (sub : List Slot) : bnd (.mk no kind least most sub) =
    if kind = 1 ∨ kind = 3 then decide (least ≤ most)
    else if kind = 2 then decide (least ≤ most) && decide (most ≤ 4294967295)
    else if kind = 4 ∨ kind = 8 then decide (least = 0) && decide (most = 0)
    else if kind = 5 ∨ kind = 6 then decide (least ≤ most) && decide (most ≤ 4194304)
    else if kind = 7 then decide (least = 0) && decide (most ≤ 9007199254740992)
    else if kind = 9 then decide (least ≤ most) && decide (most ≤ 4096)
    else false := rfl

theorem nested (k : Int) (w : World) : Calls Tryz.prog 111 #[.int .i64 k] w fun e w' => e = .returned (.bool (decide (k = 8 ∨ k = 9))) ∧ w = w' := by
  by_cases h : k = 8
  · subst h
    go_enter Tryz.func111, Tryz.ntmps111
    go_wp2
    go_ret
    exact ⟨rfl, rfl⟩
  · have e1 : (k == 8) = false := by simpa using h
    go_enter Tryz.func111, Tryz.ntmps111
    go_wp2
    go_ret
    exact ⟨ret_bool (by rw [Bool.eq_iff_iff]; simp [h]), rfl⟩

theorem nested' (no kind : Int) (least most : Nat) (sub : List Slot) (w : World) : Calls Tryz.prog 111 #[.int .i64 kind] w fun e w' => e = .returned (.bool (nest (.mk no kind least most sub))) ∧ w = w' := nested kind w
theorem bounded (no kind : Int) (least most : Nat) (sub : List Slot) (sv : Value) (w : World) (h1 : sv.oneCell' = true) :
    Calls Tryz.prog 110 #[.agg #[.int .i64 no, .int .i64 kind, .int .u64 least, .int .u64 most, sv]] w fun e w' => e = .returned (.bool (bnd (.mk no kind least most sub))) ∧ Below w.heap.size w w' := by
  have hb := bnd_at no kind least most sub
  generalize bnd (.mk no kind least most sub) = r at hb ⊢
  subst hb
  by_cases k1 : kind = 1
  · subst k1
    go_enter Tryz.func110, Tryz.ntmps110
    go_wp2
    go_ret
    exact ⟨ret_bool (by simp), (Below.refl _ _).alloc (Nat.le_refl _) _⟩
  by_cases k3 : kind = 3
  · subst k3
    go_enter Tryz.func110, Tryz.ntmps110
    go_wp2
    go_ret
    exact ⟨ret_bool (by simp), (Below.refl _ _).alloc (Nat.le_refl _) _⟩
  by_cases k2 : kind = 2
  · subst k2
    by_cases h : least ≤ most
    · have g : (least : Int) ≤ (most : Int) := by omega
      have H := Lib.hid h; clear h
      go_enter Tryz.func110, Tryz.ntmps110
      go_wp2
      go_ret
      have h := H.out
      exact ⟨ret_bool (by rw [Bool.eq_iff_iff]; simp [h]; try omega), (Below.refl _ _).alloc (Nat.le_refl _) _⟩
    · have g : ¬ (least : Int) ≤ (most : Int) := by omega
      have H := Lib.hid h; clear h
      go_enter Tryz.func110, Tryz.ntmps110
      go_wp2
      go_ret
      have h := H.out
      exact ⟨ret_bool (by simp [h]), (Below.refl _ _).alloc (Nat.le_refl _) _⟩
  by_cases k4 : kind = 4
  · subst k4
    by_cases h : least = 0
    · have g : ((least : Int) == 0) = true := by simp [h]
      have H := Lib.hid h; clear h
      go_enter Tryz.func110, Tryz.ntmps110
      go_wp2
      go_ret
      have h := H.out
      exact ⟨ret_bool (by rw [Bool.eq_iff_iff]; simp [h]; try omega), (Below.refl _ _).alloc (Nat.le_refl _) _⟩
    · have g : ((least : Int) == 0) = false := by simp; omega
      have H := Lib.hid h; clear h
      go_enter Tryz.func110, Tryz.ntmps110
      go_wp2
      go_ret
      have h := H.out
      exact ⟨ret_bool (by simp [h]), (Below.refl _ _).alloc (Nat.le_refl _) _⟩
  by_cases k8 : kind = 8
  · subst k8
    by_cases h : least = 0
    · have g : ((least : Int) == 0) = true := by simp [h]
      have H := Lib.hid h; clear h
      go_enter Tryz.func110, Tryz.ntmps110
      go_wp2
      go_ret
      have h := H.out
      exact ⟨ret_bool (by rw [Bool.eq_iff_iff]; simp [h]; try omega), (Below.refl _ _).alloc (Nat.le_refl _) _⟩
    · have g : ((least : Int) == 0) = false := by simp; omega
      have H := Lib.hid h; clear h
      go_enter Tryz.func110, Tryz.ntmps110
      go_wp2
      go_ret
      have h := H.out
      exact ⟨ret_bool (by simp [h]), (Below.refl _ _).alloc (Nat.le_refl _) _⟩
  by_cases k5 : kind = 5
  · subst k5
    by_cases h : least ≤ most
    · have g : (least : Int) ≤ (most : Int) := by omega
      have H := Lib.hid h; clear h
      go_enter Tryz.func110, Tryz.ntmps110
      go_wp2
      go_ret
      have h := H.out
      exact ⟨ret_bool (by rw [Bool.eq_iff_iff]; simp [h]; try omega), (Below.refl _ _).alloc (Nat.le_refl _) _⟩
    · have g : ¬ (least : Int) ≤ (most : Int) := by omega
      have H := Lib.hid h; clear h
      go_enter Tryz.func110, Tryz.ntmps110
      go_wp2
      go_ret
      have h := H.out
      exact ⟨ret_bool (by simp [h]), (Below.refl _ _).alloc (Nat.le_refl _) _⟩
  by_cases k6 : kind = 6
  · subst k6
    by_cases h : least ≤ most
    · have g : (least : Int) ≤ (most : Int) := by omega
      have H := Lib.hid h; clear h
      go_enter Tryz.func110, Tryz.ntmps110
      go_wp2
      go_ret
      have h := H.out
      exact ⟨ret_bool (by rw [Bool.eq_iff_iff]; simp [h]; try omega), (Below.refl _ _).alloc (Nat.le_refl _) _⟩
    · have g : ¬ (least : Int) ≤ (most : Int) := by omega
      have H := Lib.hid h; clear h
      go_enter Tryz.func110, Tryz.ntmps110
      go_wp2
      go_ret
      have h := H.out
      exact ⟨ret_bool (by simp [h]), (Below.refl _ _).alloc (Nat.le_refl _) _⟩
  by_cases k7 : kind = 7
  · subst k7
    by_cases h : least = 0
    · have g : ((least : Int) == 0) = true := by simp [h]
      have H := Lib.hid h; clear h
      go_enter Tryz.func110, Tryz.ntmps110
      go_wp2
      go_ret
      have h := H.out
      exact ⟨ret_bool (by rw [Bool.eq_iff_iff]; simp [h]; try omega), (Below.refl _ _).alloc (Nat.le_refl _) _⟩
    · have g : ((least : Int) == 0) = false := by simp; omega
      have H := Lib.hid h; clear h
      go_enter Tryz.func110, Tryz.ntmps110
      go_wp2
      go_ret
      have h := H.out
      exact ⟨ret_bool (by simp [h]), (Below.refl _ _).alloc (Nat.le_refl _) _⟩
  by_cases k9 : kind = 9
  · subst k9
    by_cases h : least ≤ most
    · have g : (least : Int) ≤ (most : Int) := by omega
      have H := Lib.hid h; clear h
      go_enter Tryz.func110, Tryz.ntmps110
      go_wp2
      go_ret
      have h := H.out
      exact ⟨ret_bool (by rw [Bool.eq_iff_iff]; simp [h]; try omega), (Below.refl _ _).alloc (Nat.le_refl _) _⟩
    · have g : ¬ (least : Int) ≤ (most : Int) := by omega
      have H := Lib.hid h; clear h
      go_enter Tryz.func110, Tryz.ntmps110
      go_wp2
      go_ret
      have h := H.out
      exact ⟨ret_bool (by simp [h]), (Below.refl _ _).alloc (Nat.le_refl _) _⟩
  have e1 : (kind == 1) = false := by simpa using k1
  have e3 : (kind == 3) = false := by simpa using k3
  have e2 : (kind == 2) = false := by simpa using k2
  have e4 : (kind == 4) = false := by simpa using k4
  have e8 : (kind == 8) = false := by simpa using k8
  have e5 : (kind == 5) = false := by simpa using k5
  have e6 : (kind == 6) = false := by simpa using k6
  have e7 : (kind == 7) = false := by simpa using k7
  have e9 : (kind == 9) = false := by simpa using k9
  rw [if_neg (by omega), if_neg (by omega), if_neg (by omega), if_neg (by omega), if_neg (by omega), if_neg (by omega)]
  go_enter Tryz.func110, Tryz.ntmps110
  go_wp2
  go_ret
  exact ⟨rfl, (Below.refl _ _).alloc (Nat.le_refl _) _⟩
end Go.Proofs.YtinngljphjdpoaaGreatDoor.Va
/- handSlots: a schema in memory of its own. -/
namespace Go.Proofs.YtinngljphjdpoaaGreatDoor.Hs
open Go Go.RowKit Go.Proofs.YtinngljphjdpoaaGreatDoor.Pa Go.Proofs.YtinngljphjdpoaaGreatDoor.Pb Go.Proofs.YtinngljphjdpoaaGreatDoor.Pf Go.Proofs.YtinngljphjdpoaaGreatDoor.Sc Go.Proofs.YtinngljphjdpoaaGreatDoor.Rs
set_option linter.unusedVariables false
set_option linter.unusedSimpArgs false

/-- A schema of so few slots that all its lists are short. -/
def Few : Nat → List Slot → Prop
  | 0, _ => True
  | n + 1, l => l.length ≤ 10000 ∧ ∀ t ∈ l, Few n t.sub
theorem slGo_few (f : List Slot → Int → Int) (hf : ∀ s left, f s left ≤ left) : ∀ (s : List Slot) (left : Int), 0 ≤ slGo f s left → (s.length : Int) ≤ left ∧ ∀ t ∈ s, ∃ q : Int, q ≤ left ∧ 0 ≤ f t.sub q
  | [], left, h => by simp [slGo] at h; exact ⟨by simpa using h, fun t ht => by cases ht⟩
  | t :: r, left, h => by
    simp only [slGo] at h
    by_cases h0 : 0 ≤ left
    · rw [if_pos h0] at h
      obtain ⟨h1, h2⟩ := slGo_few f hf r _ h
      have h3 := hf t.sub (left - 1)
      refine ⟨by simp; omega, fun u hu => ?_⟩
      rcases List.mem_cons.1 hu with rfl | hu
      · refine ⟨left - 1, by omega, ?_⟩
        have := Int.natCast_nonneg r.length
        omega
      · obtain ⟨q, hq, hq2⟩ := h2 u hu
        exact ⟨q, by omega, hq2⟩
    · rw [if_neg h0] at h; omega
theorem few_of : ∀ (n : Nat) (s : List Slot) (left : Int), left ≤ 10000 → 0 ≤ sl n s left → Few n s
  | 0, _, _, _, _ => trivial
  | n + 1, s, left, h, h0 => by
    obtain ⟨h1, h2⟩ := slGo_few (sl n) (sl_le n) s left h0
    refine ⟨by omega, fun t ht => ?_⟩
    obtain ⟨q, hq, hq2⟩ := h2 t ht
    exact few_of n t.sub q (by omega) hq2

/-- The slice v holds the slots l in blocks of its own from base on, each list with three marks behind it. -/
def Hd (w : World) (base : Nat) : Nat → Value → List Slot → Prop
  | 0, _, _ => False
  | n + 1, v, l => ∃ (b : Nat) (f : Nat → Value), v = .slice (some ⟨b, 0, none⟩) l.length (l.length + 3) ∧ base ≤ b ∧ w.rowIs b 117 ((l.length + 3) * 5) f ∧
      (∀ j t, l[j]? = some t → WfS t ∧ f (j * 5) = .int .i64 t.no ∧ f (j * 5 + 1) = .int .i64 t.kind ∧ f (j * 5 + 2) = .int .u64 t.least ∧ f (j * 5 + 3) = .int .u64 t.most ∧ Hd w base n (f (j * 5 + 4)) t.sub) ∧
      (∀ j, l.length ≤ j → j < l.length + 3 → f (j * 5) = .int .i64 (-77) ∧ f (j * 5 + 4) = .slice none 0 0)
theorem Hd.keep {w w' : World} {base : Nat} : ∀ (n : Nat) (v : Value) (l : List Slot), Hd w base n v l → (∀ k, base ≤ k → k < w.heap.size → w'.heap[k]? = w.heap[k]?) → Hd w' base n v l
  | 0, _, _, h, _ => h.elim
  | n + 1, v, l, h, hk => by
    obtain ⟨b, f, e, hb, hr, h1, h2⟩ := h
    exact ⟨b, f, e, hb, hr.of_block (hk b hb hr.lt), fun j t ht => by obtain ⟨g0, g1, g2, g3, g4, g5⟩ := h1 j t ht; exact ⟨g0, g1, g2, g3, g4, Hd.keep n _ _ g5 hk⟩, h2⟩
theorem Hd.below {w w' : World} {base n : Nat} {v : Value} {l : List Slot} (h : Hd w base n v l) (hb : Below w.heap.size w w') : Hd w' base n v l := Hd.keep n v l h (fun k _ hk => hb.block k hk)
theorem Hd.mono {w : World} {base base' : Nat} (hb : base' ≤ base) : ∀ (n : Nat) (v : Value) (l : List Slot), Hd w base n v l → Hd w base' n v l
  | 0, _, _, h => h.elim
  | n + 1, v, l, h => by
    obtain ⟨b, f, e, hb', hr, h1, h2⟩ := h
    exact ⟨b, f, e, by omega, hr, fun j t ht => by obtain ⟨g0, g1, g2, g3, g4, g5⟩ := h1 j t ht; exact ⟨g0, g1, g2, g3, g4, Hd.mono hb n _ _ g5⟩, h2⟩
theorem add0 (b k : Nat) : (⟨b, 0, none⟩ : Addr).add k = ⟨b, k, none⟩ := by
  unfold Addr.add; split
  · rename_i h; subst h; rfl
  · simp
theorem Hd.slice {w : World} {base n : Nat} {v : Value} {l : List Slot} (h : Hd w base n v l) : ∃ b, v = .slice (some ⟨b, 0, none⟩) l.length (l.length + 3) ∧ base ≤ b ∧ b < w.heap.size := by
  cases n with
  | zero => exact h.elim
  | succ n => obtain ⟨b, f, e, hb, hr, _⟩ := h; exact ⟨b, e, hb, hr.lt⟩
/-- It reads as a schema. -/
theorem Hd.rd {w : World} {base : Nat} : ∀ (n : Nat) (v : Value) (l : List Slot), Hd w base n v l → l.length + 3 ≤ maxLen → Few n l → RdS w n v l
  | 0, _, _, h, _, _ => h.elim
  | n + 1, v, l, h, hm, hf => by
    obtain ⟨b, f, e, hb, hr, h1, h2⟩ := h
    refine ⟨some ⟨b, 0, none⟩, l.length + 3, e, by omega, hm, fun h0 => ⟨_, rfl, fun i t ht => ?_⟩⟩
    have hi : i < l.length := (List.getElem?_eq_some_iff.1 ht).1
    obtain ⟨g0, g1, g2, g3, g4, g5⟩ := h1 i t ht
    have hft : Few n t.sub := hf.2 t (List.mem_of_getElem? ht)
    refine ⟨g0, f (i * 5 + 4), ?_, Hd.rd n _ _ g5 ?_ hft⟩
    · rw [add0]
      have k0 := hr.cell (i := i * 5) (by omega)
      have k1 := hr.cell (i := i * 5 + 1) (by omega)
      have k2 := hr.cell (i := i * 5 + 2) (by omega)
      have k3 := hr.cell (i := i * 5 + 3) (by omega)
      have k4 := hr.cell (i := i * 5 + 4) (by omega)
      rw [g1] at k0
      rw [g2] at k1
      rw [g3] at k2
      rw [g4] at k3
      exact ⟨k0, k1, k2, k3, k4⟩
    · cases n with
      | zero => exact g5.elim
      | succ n => have := hft.1; simp [maxLen]; omega

/-- The zero of a slot's cell. -/
def zc (k : Nat) : Value := if k % 5 = 0 ∨ k % 5 = 1 then .int .i64 0 else if k % 5 = 2 ∨ k % 5 = 3 then .int .u64 0 else .slice none 0 0
set_option maxRecDepth 100000 in
theorem mk_slots (n : Nat) (hn : n ≤ 20000) (W : World) : ∃ W', (Instr.makeSlice 22 (.int .i64 (n : Int)) (.int .i64 (n : Int))).run Tryz.prog W = .ok (.slice (some ⟨W.heap.size, 0, none⟩) n n) W' ∧ W'.rowIs W.heap.size 117 (n * 5) zc ∧ Below W.heap.size W W' := by
  obtain ⟨i, hi, hzz⟩ := Option.map_eq_some_iff.1 (show (Tryz.prog.info? 117).map (fun i => (i.zero, i.size, i.bytes)) = some (some (.agg #[.int .i64 0, .int .i64 0, .int .u64 0, .int .u64 0, .slice none 0 0]), 5, 56) by kernel_rfl)
  simp only [Prod.mk.injEq] at hzz
  obtain ⟨hz0, hz1, hz2⟩ := hzz
  have hr := run_make (P := Tryz.prog) W 22 117 i _ Tryz.underlying22 hi hz0 .i64 .i64 n n (by omega) (Int.le_refl _) (by rw [hz2]; omega) (by omega)
  simp only [Int.toNat_natCast, hz1] at hr
  refine ⟨_, hr, ?_, (Below.refl _ _).alloc (Nat.le_refl _) _⟩
  have := World.rowIs_alloc W (madeCells (Value.agg #[.int .i64 0, .int .i64 0, .int .u64 0, .int .u64 0, .slice none 0 0]).cells (n * 5)) 117 zc (fun k hk => by
    rw [size_madeCells] at hk
    have hk5 : k % 5 < 5 := Nat.mod_lt _ (by omega)
    have er : (Array.range (n * 5))[k]? = some k := by simp [hk]
    simp only [madeCells, Value.cells, Array.getElem?_map, er, Option.map_some]
    congr 1
    unfold zc
    have : k % 5 = 0 ∨ k % 5 = 1 ∨ k % 5 = 2 ∨ k % 5 = 3 ∨ k % 5 = 4 := by omega
    rcases this with h | h | h | h | h <;> simp [h])
  rwa [size_madeCells] at this
end Go.Proofs.YtinngljphjdpoaaGreatDoor.Hs
/- handSlots, the walk. -/
namespace Go.Proofs.YtinngljphjdpoaaGreatDoor.Ht
open Go Go.RowKit Go.Proofs.YtinngljphjdpoaaGreatDoor.Pa Go.Proofs.YtinngljphjdpoaaGreatDoor.Pb Go.Proofs.YtinngljphjdpoaaGreatDoor.Pf Go.Proofs.YtinngljphjdpoaaGreatDoor.Sc Go.Proofs.YtinngljphjdpoaaGreatDoor.Rs Go.Proofs.YtinngljphjdpoaaGreatDoor.Hs
set_option linter.unusedVariables false
set_option linter.unusedSimpArgs false

/-- Where i of the places are done. -/
structure Done (w : World) (b n : Nat) (l : List Slot) (i : Nat) (f : Nat → Value) : Prop where
  row : w.rowIs b 117 ((l.length + 3) * 5) f
  slot : ∀ j t, l[j]? = some t → j < i → WfS t ∧ f (j * 5) = .int .i64 t.no ∧ f (j * 5 + 1) = .int .i64 t.kind ∧ f (j * 5 + 2) = .int .u64 t.least ∧ f (j * 5 + 3) = .int .u64 t.most ∧ Hd w (b + 1) n (f (j * 5 + 4)) t.sub
  mark : ∀ j, l.length ≤ j → j < i → f (j * 5) = .int .i64 (-77) ∧ f (j * 5 + 4) = .slice none 0 0
  rest : ∀ j, i ≤ j → j < l.length + 3 → f (j * 5 + 4) = .slice none 0 0

/-- The world where a place's cells are laid. -/
def laid (w : World) (b i : Nat) (t : Slot) (sv : Value) : World :=
  (((((w.setCell ⟨b, i * 5, none⟩ (.int .i64 (-77))).setCell ⟨b, i * 5, none⟩ (.int .i64 t.no)).setCell ⟨b, i * 5 + 1, none⟩ (.int .i64 t.kind)).setCell ⟨b, i * 5 + 2, none⟩ (.int .u64 t.least)).setCell ⟨b, i * 5 + 3, none⟩ (.int .u64 t.most)).setCell ⟨b, i * 5 + 4, none⟩ sv
theorem laid_size (w : World) (b i : Nat) (t : Slot) (sv : Value) : (laid w b i t sv).heap.size = w.heap.size := by simp [laid, World.setCell]
theorem laid_chg (w : World) (b i : Nat) (t : Slot) (sv : Value) : Chg (fun k => k = b) w (laid w b i t sv) := by
  have s : ∀ (w : World) (k : Nat) (v : Value), Chg (fun x => x = b) w (w.setCell ⟨b, k, none⟩ v) := fun w k v => Chg.store w ⟨b, k, none⟩ v
  exact (((((s w _ _).trans (s _ _ _)).trans (s _ _ _)).trans (s _ _ _)).trans (s _ _ _)).trans (s _ _ _)
theorem Done.step {w w7 : World} {b n i : Nat} {l : List Slot} {f : Nat → Value} {t : Slot} {sv v' : Value} (hd : Done w b n l i f) (ht : l[i]? = some t) (hwf : WfS t) (hb7 : Below w.heap.size (laid w b i t sv) w7) (hv : Hd w7 (b + 1) n v' t.sub) :
    ∃ f', Done (w7.setCell ⟨b, i * 5 + 4, none⟩ v') b n l (i + 1) f' := by
  have hi : i < l.length := (List.getElem?_eq_some_iff.1 ht).1
  have hlt := hd.row.lt
  have r6 := (((((hd.row.set (i * 5) (.int .i64 (-77))).set (i * 5) (.int .i64 t.no)).set (i * 5 + 1) (.int .i64 t.kind)).set (i * 5 + 2) (.int .u64 t.least)).set (i * 5 + 3) (.int .u64 t.most)).set (i * 5 + 4) sv
  have r7 := World.rowIs.of_block (w' := w7) r6 (hb7.block b hlt)
  have r8 := r7.set (i * 5 + 4) v'
  have hkeep : ∀ (m : Nat) (u : Value) (s : List Slot), Hd w (b + 1) m u s → Hd (w7.setCell ⟨b, i * 5 + 4, none⟩ v') (b + 1) m u s := fun m u s h => by
    refine Hd.keep m u s h (fun k hk hk2 => ?_)
    rw [heap_setCell_other _ _ _ _ (by simp; omega), hb7.block k hk2]
    exact (laid_chg w b i t sv).block k hk2 (by omega)
  have hkeep2 : Hd (w7.setCell ⟨b, i * 5 + 4, none⟩ v') (b + 1) n v' t.sub := Hd.keep n v' _ hv (fun k hk hk2 => heap_setCell_other _ _ _ _ (by simp; omega))
  refine ⟨_, r8, fun j u hu hj => ?_, fun j h1 h2 => absurd h1 (by omega), fun j h1 h2 => ?_⟩
  · by_cases hji : j = i
    · subst hji
      obtain rfl : t = u := Option.some.inj (ht.symm.trans hu)
      refine ⟨hwf, ?_, ?_, ?_, ?_, ?_⟩
      · simp
      · simp
      · simp
      · simp
      · simpa using hkeep2
    · obtain ⟨g0, g1, g2, g3, g4, g5⟩ := hd.slot j u hu (by omega)
      refine ⟨g0, ?_, ?_, ?_, ?_, ?_⟩
      · repeat rw [if_neg (by omega)]
        exact g1
      · repeat rw [if_neg (by omega)]
        exact g2
      · repeat rw [if_neg (by omega)]
        exact g3
      · repeat rw [if_neg (by omega)]
        exact g4
      · repeat rw [if_neg (by omega)]
        exact hkeep n _ _ g5
  · repeat rw [if_neg (by omega)]
    exact hd.rest j (by omega) h2
theorem Done.mark1 {w : World} {b n i : Nat} {l : List Slot} {f : Nat → Value} (hd : Done w b n l i f) (hi : l.length ≤ i) (hi2 : i < l.length + 3) : ∃ f', Done (w.setCell ⟨b, i * 5, none⟩ (.int .i64 (-77))) b n l (i + 1) f' := by
  have hkeep : ∀ (m : Nat) (u : Value) (s : List Slot), Hd w (b + 1) m u s → Hd (w.setCell ⟨b, i * 5, none⟩ (.int .i64 (-77))) (b + 1) m u s := fun m u s h => Hd.keep m u s h (fun k hk hk2 => heap_setCell_other _ _ _ _ (by simp; omega))
  refine ⟨_, hd.row.set (i * 5) (.int .i64 (-77)), fun j u hu hj => ?_, fun j h1 h2 => ?_, fun j h1 h2 => ?_⟩
  · have hjl : j < l.length := (List.getElem?_eq_some_iff.1 hu).1
    obtain ⟨g0, g1, g2, g3, g4, g5⟩ := hd.slot j u hu (by omega)
    refine ⟨g0, ?_, ?_, ?_, ?_, ?_⟩
    · rw [if_neg (by omega)]; exact g1
    · rw [if_neg (by omega)]; exact g2
    · rw [if_neg (by omega)]; exact g3
    · rw [if_neg (by omega)]; exact g4
    · rw [if_neg (by omega)]; exact hkeep n _ _ g5
  · by_cases hji : j = i
    · subst hji
      exact ⟨by simp, by rw [if_neg (by omega)]; exact hd.rest j (by omega) hi2⟩
    · obtain ⟨g1, g2⟩ := hd.mark j h1 (by omega)
      exact ⟨by rw [if_neg (by omega)]; exact g1, by rw [if_neg (by omega)]; exact g2⟩
  · rw [if_neg (by omega)]; exact hd.rest j (by omega) h2
theorem Done.hd {w : World} {b n : Nat} {l : List Slot} {f : Nat → Value} (hd : Done w b n l (l.length + 3) f) : Hd w b (n + 1) (.slice (some ⟨b, 0, none⟩) l.length (l.length + 3)) l :=
  ⟨b, f, rfl, Nat.le_refl _, hd.row, fun j t ht => by
    have hjl : j < l.length := (List.getElem?_eq_some_iff.1 ht).1
    obtain ⟨g0, g1, g2, g3, g4, g5⟩ := hd.slot j t ht (by omega)
    exact ⟨g0, g1, g2, g3, g4, Hd.mono (by omega) n _ _ g5⟩, fun j h1 h2 => hd.mark j h1 (by omega)⟩

set_option maxHeartbeats 1000000 in
set_option maxRecDepth 100000 in
theorem handSlots : ∀ (n : Nat) (v : Value) (l : List Slot) (W w : World), RdS W n v l → Few n l → Below W.heap.size W w →
    Calls Tryz.prog 45 #[v] w fun e w' => ∃ v', e = .returned v' ∧ Hd w' w.heap.size n v' l ∧ Below w.heap.size w w' := by
  intro n
  induction n with
  | zero => exact fun v l W w h _ _ => h.elim
  | succ n ih =>
    intro v l W w h hf hb
    obtain ⟨A, c, rfl, hlc, hcm⟩ := h.slice
    obtain ⟨hlen, hfs⟩ := hf
    clear hlc hcm
    have IH := Lib.hid ih; have H := Lib.hid h; have HF := Lib.hid hfs; clear ih h hfs
    obtain ⟨w1, hmk, hrow, hb1⟩ := mk_slots (l.length + 3) (by omega) w
    have hmk' : (Instr.makeSlice 22 (.int .i64 ((l.length : Int) + 3)) (.int .i64 ((l.length : Int) + 3))).run Tryz.prog w = .ok (.slice (some ⟨w.heap.size, 0, none⟩) (l.length + 3) (l.length + 3)) w1 := hmk
    clear hmk
    have HROW := Lib.hid hrow; clear hrow
    go_enter Tryz.func45, Tryz.ntmps45
    go_wp2_with fail
    clear hmk'
    go_loopw [4] (fun s wr => ∃ (i : Nat) (f : Nat → Value), i ≤ l.length + 3 ∧ s = .int .i64 i ∧ Done wr w.heap.size n l i f ∧ Below w.heap.size w wr) (fun s _ => l.length + 3 - (intOf s).toNat)
    case atStart => exact ⟨0, zc, by omega, rfl, ⟨HROW.out, fun j t _ h => absurd h (by omega), fun j _ h => absurd h (by omega), fun j _ _ => by unfold zc; rw [if_neg (by omega), if_neg (by omega)]⟩, hb1⟩
    case round =>
      obtain ⟨i, f, hi, rfl, hd, hbw⟩ := hrel
      have hbr : Below W.heap.size W wr := hb.trans (hbw.mono hb.size)
      have hWw := hb.size
      have hws := hbw.size
      by_cases hil : i < l.length + 3
      · have hrow := hd.row
        have k0 := hrow.cell (i := i * 5) (by omega)
        have k1 := hrow.cell (i := i * 5 + 1) (by omega)
        have k2 := hrow.cell (i := i * 5 + 2) (by omega)
        have k3 := hrow.cell (i := i * 5 + 3) (by omega)
        have k4 := hrow.cell (i := i * 5 + 4) (by omega)
        have hfr : ∀ k, wr.frozen? ⟨w.heap.size, k, none⟩ = false := hrow.frozen
        have hlt := hrow.lt
        generalize f (i * 5) = x0 at k0
        generalize f (i * 5 + 1) = x1 at k1
        generalize f (i * 5 + 2) = x2 at k2
        generalize f (i * 5 + 3) = x3 at k3
        generalize f (i * 5 + 4) = x4 at k4
        have HD := Lib.hid hd; have HROWi := Lib.hid hrow; clear hd hrow
        by_cases hin : i < l.length
        · obtain ⟨ad, rfl, hwf, sv, hsl, hrd⟩ := H.out.at_ i hin
          have hpb : (ad.add (i * 5)).block < W.heap.size := hsl.lt
          replace hsl := hsl.keep (hbr.block _ hsl.lt)
          obtain ⟨p, hpa⟩ : ∃ p, ad.add (i * 5) = p := ⟨_, rfl⟩
          rw [hpa] at hsl hpb
          obtain ⟨c0, c1, c2, c3, c4⟩ := hsl
          obtain ⟨A2, cc2, rfl, -⟩ := hrd.slice
          have hne : ¬ w.heap.size = p.block := by omega
          have hne0 : ¬ (⟨w.heap.size, i * 5, none⟩ : Addr) = p := fun h => hne (congrArg Addr.block h)
          have HRD := Lib.hid hrd; have HWF := Lib.hid hwf; clear hrd hwf
          have hti : l[i]? = some l[i] := by simp [hin]
          have hft := HF.out l[i] (List.getElem_mem hin)
          generalize l[i] = t at *
          have hlb : Below w.heap.size w (laid wr w.heap.size i t (.slice A2 t.sub.length cc2)) := (laid_chg wr w.heap.size i t _).below hbw (fun k hk => Nat.le_of_eq hk.symm) hbw.size
          have HLB := Lib.hid hlb; have HTI := Lib.hid hti; have HFT := Lib.hid hft; clear hlb hti hft
          go_wp2_with (go_at_call 9999)
          go_at_call 45
          refine (IH.out _ t.sub W (laid wr w.heap.size i t (.slice A2 t.sub.length cc2)) HRD.out HFT.out (hb.trans (HLB.out.mono hb.size))).mono ?_
          rintro e w7 ⟨v', rfl, hv', hb7⟩
          rw [laid_size] at hb7 hv'
          have hc7 : Below w.heap.size w w7 := HLB.out.trans (hb7.mono hws)
          have hv'' := Hd.mono (base' := w.heap.size + 1) (by omega) _ _ _ hv'
          obtain ⟨b', rfl, hb'1, hb'2⟩ := hv'.slice
          have r7 := (((((((HROWi.out.set (i * 5) (.int .i64 (-77))).set (i * 5) (.int .i64 t.no)).set (i * 5 + 1) (.int .i64 t.kind)).set (i * 5 + 2) (.int .u64 t.least)).set (i * 5 + 3) (.int .u64 t.most)).set (i * 5 + 4) (.slice A2 t.sub.length cc2)).of_block (w' := w7) (hb7.block w.heap.size hlt))
          have k7 := r7.cell (i := i * 5 + 4) (by omega)
          have hfr7 := r7.frozen
          clear hfr k0 k1 k2 k3 k4
          obtain ⟨f', hd'⟩ := HD.out.step HTI.out HWF.out hb7 hv''
          have HD' := Lib.hid hd'; have HC7 := Lib.hid hc7; clear hd' hv' hv'' r7 hb7 hc7
          go_wp2_with fail
          go_roundw
          case rel => exact ⟨i + 1, f', by omega, by go_num, HD'.out, HC7.out.setCell (Nat.le_refl _) _⟩
          case measure => simp [intOf]; omega
        · obtain ⟨f', hd'⟩ := HD.out.mark1 (by omega) hil
          have HD' := Lib.hid hd'; clear hd'
          go_wp2_with fail
          go_roundw
          case rel => exact ⟨i + 1, f', by omega, by go_num, HD'.out, hbw.setCell (Nat.le_refl _) _⟩
          case measure => simp [intOf]; omega
      · obtain rfl : i = l.length + 3 := by omega
        have hfin := hd.hd
        have HFIN := Lib.hid hfin; clear hfin hd
        go_wp2_with fail
        go_ret
        exact ⟨_, rfl, HFIN.out, hbw⟩
end Go.Proofs.YtinngljphjdpoaaGreatDoor.Ht
