/- slotsLeft, bigSlots. -/
import Derived.Test.YtinngljphjdpoaaDoorProg
import Derived.Test.YtinngljphjdpoaaDoorJRs
import Derived.Outline
import Derived.Deep.OwnRows
namespace Go.Proofs.YtinngljphjdpoaaDoor.Sl
open Go Go.RowKit Go.Proofs.YtinngljphjdpoaaDoor.Pa Go.Proofs.YtinngljphjdpoaaDoor.Pb Go.Proofs.YtinngljphjdpoaaDoor.Sc Go.Proofs.YtinngljphjdpoaaDoor.Rs
set_option linter.unusedVariables false
set_option linter.unusedSimpArgs false

set_option maxRecDepth 100000 in
theorem slotsLeft : ∀ (n : Nat) (v : Value) (l : List Slot) (left : Int) (w : World), RdS w n v l → -1 ≤ left → left ≤ 10000 →
    Calls Tryd.prog 27 #[v, .int .i64 left] w fun e w' => e = .returned (.int .i64 (sl n l left)) ∧ w = w'
  | 0, v, l, left, w, h, _, _ => h.elim
  | n + 1, v, l, left, w, h, h1, h2 => by
    obtain ⟨A, c, rfl, hlc, hcm⟩ := h.slice
    unfold maxLen at hcm
    have ih := slotsLeft n
    have IH := Lib.hid ih; clear ih
    have H := Lib.hid h; clear h
    go_enter Tryd.func27, Tryd.ntmps27
    go_wp2_with fail
    go_loop [1, 5] (fun s t => ∃ (i : Nat) (x : Int), i ≤ l.length ∧ -1 ≤ x ∧ x ≤ 10000 ∧ s = .int .i64 x ∧ t = .int .i64 i ∧ slGo (sl n) (l.drop i) x = sl (n + 1) l left) (fun _ t => l.length - (intOf t).toNat)
    case atStart => exact ⟨0, left, by omega, h1, h2, rfl, rfl, rfl⟩
    case round =>
      obtain ⟨i, x, hi, hx1, hx2, rfl, rfl, he⟩ := hrel
      have HE := Lib.hid he; clear he
      by_cases hil : i < l.length
      · obtain ⟨ad, rfl, hwf, sv, hsl, hrd⟩ := H.out.at_ i hil
        obtain ⟨p, hp⟩ : ∃ p, ad.add (i * 5) = p := ⟨_, rfl⟩
        rw [hp] at hsl
        have hsub := hsl.sub
        by_cases hx0 : 0 ≤ x
        · have hst := slGo_drop (sl n) l i x hil hx0
          have hle := sl_le n l[i].sub (x - 1)
          have hge := sl_ge n l[i].sub (x - 1) (by omega)
          have HST := Lib.hid hst; have HR := Lib.hid hrd; have HS := Lib.hid hsl; have HW := Lib.hid hwf; clear hst hrd hsl hwf
          go_wp2_with (go_at_call 27; refine (IH.out _ _ _ _ HR.out (by omega) (by omega)).mono ?_; rintro e w' ⟨rfl, rfl⟩)
          go_round
          case rel => exact ⟨i + 1, _, by omega, hge, by omega, rfl, by go_num, by rw [← HE.out, HST.out]⟩
          case measure => simp [intOf]; omega
        · clear hrd hsl hwf
          have hfin : sl (n + 1) l left = x := by rw [← HE.out, slGo_neg _ _ _ (by omega)]
          have HF := Lib.hid hfin; clear hfin
          go_wp2_with fail
          go_ret
          exact ⟨ret_int HF.out.symm, rfl⟩
      · obtain rfl : i = l.length := by omega
        have hfin : sl (n + 1) l left = x := by rw [← HE.out, List.drop_length]; rfl
        have HF := Lib.hid hfin; clear hfin
        go_wp2_with fail
        go_ret
        exact ⟨ret_int HF.out.symm, rfl⟩
theorem big {n : Nat} {v : Value} {l : List Slot} (w : World) (h : RdS w n v l) :
    Calls Tryd.prog 12 #[v] w fun e w' => e = .returned (.bool (decide (sl n l 10000 < 0))) ∧ w = w' := by
  obtain ⟨A, c, rfl, -⟩ := h.slice
  have H := Lib.hid h; clear h
  go_enter Tryd.func12, Tryd.ntmps12
  go_wp2_with (go_at_call 27; refine (slotsLeft n _ _ 10000 _ H.out (by omega) (by omega)).mono ?_; rintro e w' ⟨rfl, rfl⟩)
  go_ret
  exact ⟨rfl, rfl⟩
end Go.Proofs.YtinngljphjdpoaaDoor.Sl
/- The program's bounded, nested, canBe. -/
namespace Go.Proofs.YtinngljphjdpoaaDoor.Va
open Go Go.RowKit Go.Proofs.YtinngljphjdpoaaDoor.Pa Go.Proofs.YtinngljphjdpoaaDoor.Pb Go.Proofs.YtinngljphjdpoaaDoor.Pf Go.Proofs.YtinngljphjdpoaaDoor.Sc Go.Proofs.YtinngljphjdpoaaDoor.Rs
set_option linter.unusedVariables false
set_option linter.unusedSimpArgs false

/-- A slot's cells. -/
def sc (t : Slot) (sv : Value) : Value := .agg #[.int .i64 t.no, .int .i64 t.kind, .int .u64 t.least, .int .u64 t.most, sv]
theorem bnd_at (no kind : Int) (least most : Nat) (sub : List Slot) : bnd (.mk no kind least most sub) =
    if kind = 1 ∨ kind = 3 then decide (least ≤ most)
    else if kind = 2 then decide (least ≤ most) && decide (most ≤ 4294967295)
    else if kind = 4 ∨ kind = 8 then decide (least = 0) && decide (most = 0)
    else if kind = 5 ∨ kind = 6 then decide (least ≤ most) && decide (most ≤ 4194304)
    else if kind = 7 then decide (least = 0) && decide (most ≤ 9007199254740992)
    else if kind = 9 then decide (least ≤ most) && decide (most ≤ 4096)
    else false := rfl

theorem nested (k : Int) (w : World) : Calls Tryd.prog 52 #[.int .i64 k] w fun e w' => e = .returned (.bool (decide (k = 8 ∨ k = 9))) ∧ w = w' := by
  by_cases h : k = 8
  · subst h
    go_enter Tryd.func52, Tryd.ntmps52
    go_wp2
    go_ret
    exact ⟨rfl, rfl⟩
  · have e1 : (k == 8) = false := by simpa using h
    go_enter Tryd.func52, Tryd.ntmps52
    go_wp2
    go_ret
    exact ⟨ret_bool (by rw [Bool.eq_iff_iff]; simp [h]), rfl⟩

theorem nested' (no kind : Int) (least most : Nat) (sub : List Slot) (w : World) : Calls Tryd.prog 52 #[.int .i64 kind] w fun e w' => e = .returned (.bool (nest (.mk no kind least most sub))) ∧ w = w' := nested kind w
theorem bounded (no kind : Int) (least most : Nat) (sub : List Slot) (sv : Value) (w : World) (h1 : sv.oneCell' = true) :
    Calls Tryd.prog 51 #[.agg #[.int .i64 no, .int .i64 kind, .int .u64 least, .int .u64 most, sv]] w fun e w' => e = .returned (.bool (bnd (.mk no kind least most sub))) ∧ Below w.heap.size w w' := by
  have hb := bnd_at no kind least most sub
  generalize bnd (.mk no kind least most sub) = r at hb ⊢
  subst hb
  by_cases k1 : kind = 1
  · subst k1
    go_enter Tryd.func51, Tryd.ntmps51
    go_wp2
    go_ret
    exact ⟨ret_bool (by simp), (Below.refl _ _).alloc (Nat.le_refl _) _⟩
  by_cases k3 : kind = 3
  · subst k3
    go_enter Tryd.func51, Tryd.ntmps51
    go_wp2
    go_ret
    exact ⟨ret_bool (by simp), (Below.refl _ _).alloc (Nat.le_refl _) _⟩
  by_cases k2 : kind = 2
  · subst k2
    by_cases h : least ≤ most
    · have g : (least : Int) ≤ (most : Int) := by omega
      have H := Lib.hid h; clear h
      go_enter Tryd.func51, Tryd.ntmps51
      go_wp2
      go_ret
      have h := H.out
      exact ⟨ret_bool (by rw [Bool.eq_iff_iff]; simp [h]; try omega), (Below.refl _ _).alloc (Nat.le_refl _) _⟩
    · have g : ¬ (least : Int) ≤ (most : Int) := by omega
      have H := Lib.hid h; clear h
      go_enter Tryd.func51, Tryd.ntmps51
      go_wp2
      go_ret
      have h := H.out
      exact ⟨ret_bool (by simp [h]), (Below.refl _ _).alloc (Nat.le_refl _) _⟩
  by_cases k4 : kind = 4
  · subst k4
    by_cases h : least = 0
    · have g : ((least : Int) == 0) = true := by simp [h]
      have H := Lib.hid h; clear h
      go_enter Tryd.func51, Tryd.ntmps51
      go_wp2
      go_ret
      have h := H.out
      exact ⟨ret_bool (by rw [Bool.eq_iff_iff]; simp [h]; try omega), (Below.refl _ _).alloc (Nat.le_refl _) _⟩
    · have g : ((least : Int) == 0) = false := by simp; omega
      have H := Lib.hid h; clear h
      go_enter Tryd.func51, Tryd.ntmps51
      go_wp2
      go_ret
      have h := H.out
      exact ⟨ret_bool (by simp [h]), (Below.refl _ _).alloc (Nat.le_refl _) _⟩
  by_cases k8 : kind = 8
  · subst k8
    by_cases h : least = 0
    · have g : ((least : Int) == 0) = true := by simp [h]
      have H := Lib.hid h; clear h
      go_enter Tryd.func51, Tryd.ntmps51
      go_wp2
      go_ret
      have h := H.out
      exact ⟨ret_bool (by rw [Bool.eq_iff_iff]; simp [h]; try omega), (Below.refl _ _).alloc (Nat.le_refl _) _⟩
    · have g : ((least : Int) == 0) = false := by simp; omega
      have H := Lib.hid h; clear h
      go_enter Tryd.func51, Tryd.ntmps51
      go_wp2
      go_ret
      have h := H.out
      exact ⟨ret_bool (by simp [h]), (Below.refl _ _).alloc (Nat.le_refl _) _⟩
  by_cases k5 : kind = 5
  · subst k5
    by_cases h : least ≤ most
    · have g : (least : Int) ≤ (most : Int) := by omega
      have H := Lib.hid h; clear h
      go_enter Tryd.func51, Tryd.ntmps51
      go_wp2
      go_ret
      have h := H.out
      exact ⟨ret_bool (by rw [Bool.eq_iff_iff]; simp [h]; try omega), (Below.refl _ _).alloc (Nat.le_refl _) _⟩
    · have g : ¬ (least : Int) ≤ (most : Int) := by omega
      have H := Lib.hid h; clear h
      go_enter Tryd.func51, Tryd.ntmps51
      go_wp2
      go_ret
      have h := H.out
      exact ⟨ret_bool (by simp [h]), (Below.refl _ _).alloc (Nat.le_refl _) _⟩
  by_cases k6 : kind = 6
  · subst k6
    by_cases h : least ≤ most
    · have g : (least : Int) ≤ (most : Int) := by omega
      have H := Lib.hid h; clear h
      go_enter Tryd.func51, Tryd.ntmps51
      go_wp2
      go_ret
      have h := H.out
      exact ⟨ret_bool (by rw [Bool.eq_iff_iff]; simp [h]; try omega), (Below.refl _ _).alloc (Nat.le_refl _) _⟩
    · have g : ¬ (least : Int) ≤ (most : Int) := by omega
      have H := Lib.hid h; clear h
      go_enter Tryd.func51, Tryd.ntmps51
      go_wp2
      go_ret
      have h := H.out
      exact ⟨ret_bool (by simp [h]), (Below.refl _ _).alloc (Nat.le_refl _) _⟩
  by_cases k7 : kind = 7
  · subst k7
    by_cases h : least = 0
    · have g : ((least : Int) == 0) = true := by simp [h]
      have H := Lib.hid h; clear h
      go_enter Tryd.func51, Tryd.ntmps51
      go_wp2
      go_ret
      have h := H.out
      exact ⟨ret_bool (by rw [Bool.eq_iff_iff]; simp [h]; try omega), (Below.refl _ _).alloc (Nat.le_refl _) _⟩
    · have g : ((least : Int) == 0) = false := by simp; omega
      have H := Lib.hid h; clear h
      go_enter Tryd.func51, Tryd.ntmps51
      go_wp2
      go_ret
      have h := H.out
      exact ⟨ret_bool (by simp [h]), (Below.refl _ _).alloc (Nat.le_refl _) _⟩
  by_cases k9 : kind = 9
  · subst k9
    by_cases h : least ≤ most
    · have g : (least : Int) ≤ (most : Int) := by omega
      have H := Lib.hid h; clear h
      go_enter Tryd.func51, Tryd.ntmps51
      go_wp2
      go_ret
      have h := H.out
      exact ⟨ret_bool (by rw [Bool.eq_iff_iff]; simp [h]; try omega), (Below.refl _ _).alloc (Nat.le_refl _) _⟩
    · have g : ¬ (least : Int) ≤ (most : Int) := by omega
      have H := Lib.hid h; clear h
      go_enter Tryd.func51, Tryd.ntmps51
      go_wp2
      go_ret
      have h := H.out
      exact ⟨ret_bool (by simp [h]), (Below.refl _ _).alloc (Nat.le_refl _) _⟩
  have e1 : (kind == 1) = false := by simpa using k1
  have e3 : (kind == 3) = false := by simpa using k3
  have e2 : (kind == 2) = false := by simpa using k2
  have e4 : (kind == 4) = false := by simpa using k4
  have e8 : (kind == 8) = false := by simpa using k8
  have e5 : (kind == 5) = false := by simpa using k5
  have e6 : (kind == 6) = false := by simpa using k6
  have e7 : (kind == 7) = false := by simpa using k7
  have e9 : (kind == 9) = false := by simpa using k9
  rw [if_neg (by omega), if_neg (by omega), if_neg (by omega), if_neg (by omega), if_neg (by omega), if_neg (by omega)]
  go_enter Tryd.func51, Tryd.ntmps51
  go_wp2
  go_ret
  exact ⟨rfl, (Below.refl _ _).alloc (Nat.le_refl _) _⟩
end Go.Proofs.YtinngljphjdpoaaDoor.Va
/- The program's canBe. -/
namespace Go.Proofs.YtinngljphjdpoaaDoor.Vb
open Go Go.RowKit Go.Proofs.YtinngljphjdpoaaDoor.Pa Go.Proofs.YtinngljphjdpoaaDoor.Pb Go.Proofs.YtinngljphjdpoaaDoor.Pf Go.Proofs.YtinngljphjdpoaaDoor.Sc Go.Proofs.YtinngljphjdpoaaDoor.Rs Go.Proofs.YtinngljphjdpoaaDoor.Va
set_option linter.unusedVariables false
set_option linter.unusedSimpArgs false

/-- A block of one int. -/
def One (w : World) (g : Nat) (x : Int) : Prop := hp w g = some (.cells #[.int .i64 x] 3 (0, 0))
theorem One.lt {w : World} {g : Nat} {x : Int} (h : One w g x) : g < w.heap.size := by
  rcases Nat.lt_or_ge g w.heap.size with h1 | h1
  · exact h1
  · unfold One hp at h; rw [Array.getElem?_eq_none h1] at h; cases h
theorem One.cell {w : World} {g : Nat} {x : Int} (h : One w g x) : w.cell? ⟨g, 0, none⟩ = some (.int .i64 x) := (hp_cell h 0).trans rfl
theorem One.frozen {w : World} {g : Nat} {x : Int} (h : One w g x) : w.frozen? ⟨g, 0, none⟩ = false := hp_frozen h 0
theorem One.set {w : World} {g : Nat} {x : Int} (h : One w g x) (y : Int) : One (w.setCell ⟨g, 0, none⟩ (.int .i64 y)) g y := by
  unfold One hp at *
  rw [heap_setCell_same w g 0 _ _ _ h]
  rfl
theorem One.below {w w' : World} {g : Nat} {x : Int} (h : One w g x) (hb : Below w.heap.size w w') : One w' g x := (hb.hp g h.lt).trans h
theorem One.alloc {w : World} {g : Nat} {x : Int} (h : One w g x) (o : Obj) : One (w.alloc o) g x := (hp_alloc_past o g h.lt).trans h

theorem size_alloc' (w : World) (o : Obj) : (w.alloc o).heap.size = w.heap.size + 1 := by simp
theorem size_setCell' (w : World) (a : Addr) (v : Value) : (w.setCell a v).heap.size = w.heap.size := by simp [World.setCell]
/-- How it ends. -/
def Fin (R : Option Nat) (g : Nat) (w : World) (e : Ending) (w' : World) : Prop := ∃ s : Int, e = .returned (.bool R.isSome) ∧ One w' g s ∧ (∀ r, R = some r → s = 256 - r) ∧ Chg (fun k => k = g) w w'
theorem Fin.none {g : Nat} {w w' : World} {s : Int} (h : One w' g s) (hc : Chg (fun k => k = g) w w') : Fin none g w (.returned (.bool false)) w' := ⟨s, rfl, h, (fun r h => by cases h), hc⟩
theorem fail {g i q : Nat} {w wr : World} {x y : Int} (ho : One wr g x) (hc : Chg (fun k => k = g) w wr) (o : Obj) : One ((wr.setCell ⟨g, 0, none⟩ (.int .i64 y)).alloc o) g y ∧ Chg (fun k => k = g) w ((wr.setCell ⟨g, 0, none⟩ (.int .i64 y)).alloc o) :=
  ⟨(ho.set y).alloc o, hc.trans ((Chg.store wr ⟨g, 0, none⟩ _).alloc o)⟩
set_option maxHeartbeats 1000000 in
set_option maxRecDepth 100000 in
theorem canBe : ∀ (k n : Nat) (v : Value) (l : List Slot) (deep : Int) (room g : Nat) (W w : World), RdS W n v l → Below W.heap.size W w → W.heap.size ≤ g → One w g (256 - room) → deep = 7 - k → k ≤ 7 → room ≤ 256 →
    Calls Tryd.prog 42 #[v, .int .i64 deep, .pointer (some ⟨g, 0, none⟩)] w (Fin (canL k l room) g w) := by
  intro k
  induction k with
  | zero =>
    intro n v l deep room g W w h hb hg ho hd hk hr
    obtain ⟨A, c, rfl, hlc, hcm⟩ := h.slice
    have hd' : 6 < deep := by omega
    have HO := Lib.hid ho; clear ho h hd
    by_cases h16 : l.length ≤ 16
    · go_enter Tryd.func42, Tryd.ntmps42
      go_wp2_with fail
      go_ret
      exact Fin.none HO.out (Chg.refl _ _)
    · go_enter Tryd.func42, Tryd.ntmps42
      go_wp2_with fail
      go_ret
      exact Fin.none HO.out (Chg.refl _ _)
  | succ k ih =>
    intro n v l deep room g W w h hb hg ho hd hk hr
    obtain ⟨A, c, rfl, hlc, hcm⟩ := h.slice
    unfold maxLen at hcm
    have hd' : deep ≤ 6 := by omega
    have hd0 : 0 ≤ deep := by omega
    obtain ⟨m, rfl⟩ := h.pos
    have IH := Lib.hid ih; clear ih
    have HO := Lib.hid ho; have H := Lib.hid h; have HD := Lib.hid hd; clear ho h hd
    obtain ⟨R, hR⟩ : ∃ R, R = canL (k + 1) l room := ⟨_, rfl⟩
    rw [← hR]
    by_cases h16 : 16 < l.length
    · have hcl : canL (k + 1) l room = none := by simp only [canL]; rw [if_pos h16]
      rw [hcl] at hR
      have HR := Lib.hid hR; clear hR hcl
      go_enter Tryd.func42, Tryd.ntmps42
      go_wp2_with fail
      go_ret
      rw [HR.out]
      exact Fin.none HO.out (Chg.refl _ _)
    · have hcl : canL (k + 1) l room = canGo (canL k) l 0 room := by simp only [canL]; rw [if_neg h16]
      rw [hcl] at hR
      have HRR := Lib.hid hR; clear hR hcl
      go_enter Tryd.func42, Tryd.ntmps42
      go_wp2_with fail
      go_loopw [7, 19] (fun s t wr => ∃ (i : Nat) (last : Int) (q : Nat), i ≤ l.length ∧ 0 ≤ last ∧ last ≤ 536870911 ∧ q ≤ 256 ∧ s = .int .i64 last ∧ t = .int .i64 i ∧ canGo (canL k) (l.drop i) last q = R ∧ One wr g (256 - q) ∧ Chg (fun k => k = g) w wr) (fun _ t _ => l.length - (intOf t).toNat)
      case atStart => exact ⟨0, 0, room, by omega, by omega, by omega, hr, rfl, rfl, HRR.out.symm, HO.out, Chg.refl _ _⟩
      case round =>
        obtain ⟨i, last, q, hi, hl0, hl1, hq, rfl, rfl, he, ho, hch⟩ := hrel
        have hbr := hch.below hb (fun k hk => by omega) hb.size
        have HE := Lib.hid he; have HCH := Lib.hid hch; clear he hch
        have hgl := ho.lt
        have hoc := ho.cell
        have hof := ho.frozen
        have HOr := Lib.hid ho; clear ho
        by_cases hil : i < l.length
        · obtain ⟨ad, rfl, hwf, sv, hsl, hrd⟩ := H.out.at_ i hil
          replace hsl := hsl.keep (hbr.block _ hsl.lt)
          obtain ⟨p, hp⟩ : ∃ p, ad.add (i * 5) = p := ⟨_, rfl⟩
          rw [hp] at hsl
          have hdrop := List.drop_eq_getElem_cons hil
          generalize l[i] = t at hwf hsl hrd hdrop
          have HDR := Lib.hid hdrop; clear hdrop
          obtain ⟨no, kind, least, most, sub⟩ := t
          obtain ⟨c0, c1, c2, c3, c4⟩ := hsl
          simp only [Slot.no, Slot.kind, Slot.least, Slot.most, Slot.sub] at c0 c1 c2 c3 c4 hrd
          obtain ⟨A2, cc2, rfl, hlc2, hcm2⟩ := hrd.slice
          unfold maxLen at hcm2
          have HW := Lib.hid hwf; have HR := Lib.hid hrd; clear hwf hrd
          have HN : canGo (canL k) (List.drop i l) last q = R := HE.out
          rw [HDR.out] at HN
          simp only [canGo] at HN
          clear HE
          by_cases hq0 : q = 0
          · subst hq0
            rw [if_pos rfl] at HN
            have HNN := Lib.hid HN; clear HN
            go_wp2_with fail
            go_ret
            rw [← HNN.out]
            obtain ⟨f1, f2⟩ := fail (i := 0) (q := 0) (y := 257) HOr.out HCH.out _
            exact Fin.none f1 f2
          · obtain ⟨r, rfl⟩ : ∃ r, q = r + 1 := ⟨q - 1, by omega⟩
            rw [if_neg hq0] at HN
            clear hq0
            have hy : (256 : Int) - ((r + 1 : Nat) : Int) + 1 = 256 - (r : Int) := by omega
            by_cases hn1 : no ≤ last
            · have hf : fine (.mk no kind least most sub) last = false := fine_no1 hn1
              rw [if_pos hf] at HN
              have HNN := Lib.hid HN; clear HN hf
              go_wp2_with fail
              go_ret
              rw [← HNN.out]
              obtain ⟨f1, f2⟩ := fail (i := 0) (q := 0) HOr.out HCH.out _
              exact Fin.none f1 f2
            · by_cases hn2 : 536870911 < no
              · have hf : fine (.mk no kind least most sub) last = false := fine_no2 hn2
                rw [if_pos hf] at HN
                have HNN := Lib.hid HN; clear HN hf
                go_wp2_with fail
                go_ret
                rw [← HNN.out]
                obtain ⟨f1, f2⟩ := fail (i := 0) (q := 0) HOr.out HCH.out _
                exact Fin.none f1 f2
              · by_cases hbn : bnd (.mk no kind least most sub) = true
                · have hf : fine (.mk no kind least most sub) last = true := fine_yes (by simp only [Slot.no]; omega) (by simp only [Slot.no]; omega) hbn
                  rw [if_neg (by simp [hf])] at HN
                  clear hf
                  have hyy : (256 : Int) - ((r : Int) + 1) + 1 = 256 - (r : Int) := by omega
                  have HNo := Lib.hid hn2; 
                  by_cases hne : nest (.mk no kind least most sub) = true
                  · rw [if_pos hne] at HN
                    simp only [Nat.add_sub_cancel, Slot.sub, Slot.no] at HN
                    cases hcs : canL k sub r with
                    | none =>
                      rw [hcs] at HN
                      have HNN := Lib.hid HN; clear HN
                      go_wp2_with (go_at_call 9999)
                      go_at_call 51
                      refine (bounded no kind least most sub _ _ rfl).mono ?_
                      rintro e w1 ⟨rfl, hb1⟩
                      obtain ⟨f1, f2⟩ := fail (i := 0) (q := 0) HOr.out HCH.out _
                      have f1' := f1.below hb1
                      have F1 := Lib.hid f1'
                      have F2 := Lib.hid (f2.trans (Chg.of_below hb1))
                      clear f1 f2 f1'
                      obtain ⟨hcc, hff⟩ := (⟨fun b o h => hb1.cell (p := ⟨b, o, none⟩) h, fun b o h => hb1.frozen (p := ⟨b, o, none⟩) h⟩ : (∀ b o, b < _ → w1.cell? ⟨b, o, none⟩ = _) ∧ (∀ b o, b < _ → w1.frozen? ⟨b, o, none⟩ = _))
                      have hz1 := hb1.size
                      simp only [size_alloc', size_setCell'] at hz1
                      go_wp2_with (go_at_call 9999)
                      go_at_call 52
                      refine (nested' no kind least most sub _).mono ?_
                      rintro e w2 ⟨rfl, rfl⟩
                      go_wp2_with (go_at_call 9999)
                      go_at_call 42
                      refine (IH.out m _ sub _ r g W w1 HR.out (F2.out.below hb (fun k hk => by omega) hb.size) hg F1.out (by have := HD.out; omega) (by omega) (by omega)).mono ?_
                      rintro e w2 ⟨s2, rfl, ho2, hr2, hch2⟩
                      have HO2 := Lib.hid ho2; have HCH2 := Lib.hid (F2.out.trans hch2); have HR2 := Lib.hid hr2; clear ho2 hr2
                      go_wp2_with fail
                      go_ret
                      rw [← HNN.out]
                      exact Fin.none HO2.out HCH2.out
                    | some x =>
                      rw [hcs] at HN
                      have HNN := Lib.hid HN; clear HN
                      have hxr := canL_le _ _ _ _ hcs
                      go_wp2_with (go_at_call 9999)
                      go_at_call 51
                      refine (bounded no kind least most sub _ _ rfl).mono ?_
                      rintro e w1 ⟨rfl, hb1⟩
                      obtain ⟨f1, f2⟩ := fail (i := 0) (q := 0) HOr.out HCH.out _
                      have f1' := f1.below hb1
                      have F1 := Lib.hid f1'
                      have F2 := Lib.hid (f2.trans (Chg.of_below hb1))
                      clear f1 f2 f1'
                      obtain ⟨hcc, hff⟩ := (⟨fun b o h => hb1.cell (p := ⟨b, o, none⟩) h, fun b o h => hb1.frozen (p := ⟨b, o, none⟩) h⟩ : (∀ b o, b < _ → w1.cell? ⟨b, o, none⟩ = _) ∧ (∀ b o, b < _ → w1.frozen? ⟨b, o, none⟩ = _))
                      have hz1 := hb1.size
                      simp only [size_alloc', size_setCell'] at hz1
                      go_wp2_with (go_at_call 9999)
                      go_at_call 52
                      refine (nested' no kind least most sub _).mono ?_
                      rintro e w2 ⟨rfl, rfl⟩
                      go_wp2_with (go_at_call 9999)
                      go_at_call 42
                      refine (IH.out m _ sub _ r g W w1 HR.out (F2.out.below hb (fun k hk => by omega) hb.size) hg F1.out (by have := HD.out; omega) (by omega) (by omega)).mono ?_
                      rintro e w2 ⟨s2, rfl, ho2, hr2, hch2⟩
                      have HO2 := Lib.hid ho2; have HCH2 := Lib.hid (F2.out.trans hch2); have HR2 := Lib.hid hr2; clear ho2 hr2
                      have hs2 := HR2.out x hcs
                      subst hs2
                      have hlow : ∀ i, w2.cell? ⟨wr.heap.size, i, none⟩ = w1.cell? ⟨wr.heap.size, i, none⟩ := fun i => World.cell?_of_block (hch2.block wr.heap.size (by omega) (by omega))
                      go_wp2_with fail
                      go_roundw
                      case rel => exact ⟨i + 1, no, x, by omega, by omega, by omega, by omega, rfl, by go_num, HNN.out, HO2.out, HCH2.out⟩
                      case measure => simp [intOf]; omega
                  · have hnf : nest (.mk no kind least most sub) = false := by simpa using hne
                    rw [if_neg hne] at HN
                    clear hne
                    simp only [Nat.add_sub_cancel, Slot.sub, Slot.no] at HN
                    by_cases hs0 : sub.length = 0
                    · have hse : sub = [] := List.eq_nil_of_length_eq_zero hs0
                      subst hse
                      simp only [List.isEmpty_nil, if_true] at HN
                      have HNN := Lib.hid HN; clear HN
                      go_wp2_with (go_at_call 9999)
                      go_at_call 51
                      refine (bounded no kind least most [] _ _ rfl).mono ?_
                      rintro e w1 ⟨rfl, hb1⟩
                      obtain ⟨f1, f2⟩ := fail (i := 0) (q := 0) HOr.out HCH.out _
                      have f1' := f1.below hb1
                      have F1 := Lib.hid f1'
                      have F2 := Lib.hid (f2.trans (Chg.of_below hb1))
                      clear f1 f2 f1'
                      obtain ⟨hcc, hff⟩ := (⟨fun b o h => hb1.cell (p := ⟨b, o, none⟩) h, fun b o h => hb1.frozen (p := ⟨b, o, none⟩) h⟩ : (∀ b o, b < _ → w1.cell? ⟨b, o, none⟩ = _) ∧ (∀ b o, b < _ → w1.frozen? ⟨b, o, none⟩ = _))
                      have hz1 := hb1.size
                      simp only [size_alloc', size_setCell'] at hz1
                      go_wp2_with (go_at_call 9999)
                      go_at_call 52
                      refine (nested' no kind least most [] _).mono ?_
                      rintro e w2 ⟨rfl, rfl⟩
                      go_wp2_with fail
                      go_roundw
                      case rel => exact ⟨i + 1, no, r, by omega, by omega, by omega, by omega, rfl, by go_num, HNN.out, F1.out, F2.out⟩
                      case measure => simp [intOf]; omega
                    · have hse : sub.isEmpty = false := by cases sub with | nil => simp at hs0 | cons _ _ => rfl
                      rw [hse] at HN
                      simp only [Bool.false_eq_true, if_false] at HN
                      have HNN := Lib.hid HN; clear HN hse
                      have hs1 : 0 < sub.length := by omega
                      clear hs0
                      go_wp2_with (go_at_call 9999)
                      go_at_call 51
                      refine (bounded no kind least most sub _ _ rfl).mono ?_
                      rintro e w1 ⟨rfl, hb1⟩
                      obtain ⟨f1, f2⟩ := fail (i := 0) (q := 0) HOr.out HCH.out _
                      have f1' := f1.below hb1
                      have F1 := Lib.hid f1'
                      have F2 := Lib.hid (f2.trans (Chg.of_below hb1))
                      clear f1 f2 f1'
                      obtain ⟨hcc, hff⟩ := (⟨fun b o h => hb1.cell (p := ⟨b, o, none⟩) h, fun b o h => hb1.frozen (p := ⟨b, o, none⟩) h⟩ : (∀ b o, b < _ → w1.cell? ⟨b, o, none⟩ = _) ∧ (∀ b o, b < _ → w1.frozen? ⟨b, o, none⟩ = _))
                      have hz1 := hb1.size
                      simp only [size_alloc', size_setCell'] at hz1
                      go_wp2_with (go_at_call 9999)
                      go_at_call 52
                      refine (nested' no kind least most sub _).mono ?_
                      rintro e w2 ⟨rfl, rfl⟩
                      go_wp2_with fail
                      go_ret
                      rw [← HNN.out]
                      exact Fin.none F1.out F2.out
                · have hbf : bnd (.mk no kind least most sub) = false := by simpa using hbn
                  clear hbn
                  have hf : fine (.mk no kind least most sub) last = false := fine_no3 hbf
                  rw [if_pos hf] at HN
                  have HNN := Lib.hid HN; clear HN hf
                  go_wp2_with (go_at_call 9999)
                  go_at_call 51
                  refine (bounded no kind least most sub _ _ rfl).mono ?_
                  rintro e w1 ⟨rfl, hb1⟩
                  obtain ⟨f1, f2⟩ := fail (i := 0) (q := 0) HOr.out HCH.out _
                  have F1 := Lib.hid (f1.below hb1)
                  have F2 := Lib.hid (f2.trans (Chg.of_below hb1))
                  clear f1 f2
                  go_wp2_with fail
                  go_ret
                  rw [← HNN.out]
                  exact Fin.none F1.out F2.out
        · have hfin : R = some q := by rw [← HE.out, List.drop_eq_nil_of_le (by omega)]; rfl
          have HF := Lib.hid hfin; clear hfin
          go_wp2_with fail
          go_ret
          rw [HF.out]
          exact ⟨_, rfl, HOr.out, (fun r h => by cases h; rfl), HCH.out⟩
end Go.Proofs.YtinngljphjdpoaaDoor.Vb
/- handSlots: a schema in memory of its own. -/
namespace Go.Proofs.YtinngljphjdpoaaDoor.Hs
open Go Go.RowKit Go.Proofs.YtinngljphjdpoaaDoor.Pa Go.Proofs.YtinngljphjdpoaaDoor.Pb Go.Proofs.YtinngljphjdpoaaDoor.Pf Go.Proofs.YtinngljphjdpoaaDoor.Sc Go.Proofs.YtinngljphjdpoaaDoor.Rs
set_option linter.unusedVariables false
set_option linter.unusedSimpArgs false

/-- A schema of so few slots that all its lists are short. -/
def Few : Nat → List Slot → Prop
  | 0, _ => True
  | n + 1, l => l.length ≤ 10000 ∧ ∀ t ∈ l, Few n t.sub
theorem slGo_few (f : List Slot → Int → Int) (hf : ∀ s left, f s left ≤ left) : ∀ (s : List Slot) (left : Int), 0 ≤ slGo f s left → (s.length : Int) ≤ left ∧ ∀ t ∈ s, ∃ q : Int, q ≤ left ∧ 0 ≤ f t.sub q
  | [], left, h => by simp [slGo] at h; exact ⟨by simpa using h, fun t ht => by cases ht⟩
  | t :: r, left, h => by
    simp only [slGo] at h
    by_cases h0 : 0 ≤ left
    · rw [if_pos h0] at h
      obtain ⟨h1, h2⟩ := slGo_few f hf r _ h
      have h3 := hf t.sub (left - 1)
      refine ⟨by simp; omega, fun u hu => ?_⟩
      rcases List.mem_cons.1 hu with rfl | hu
      · refine ⟨left - 1, by omega, ?_⟩
        have := Int.natCast_nonneg r.length
        omega
      · obtain ⟨q, hq, hq2⟩ := h2 u hu
        exact ⟨q, by omega, hq2⟩
    · rw [if_neg h0] at h; omega
theorem few_of : ∀ (n : Nat) (s : List Slot) (left : Int), left ≤ 10000 → 0 ≤ sl n s left → Few n s
  | 0, _, _, _, _ => trivial
  | n + 1, s, left, h, h0 => by
    obtain ⟨h1, h2⟩ := slGo_few (sl n) (sl_le n) s left h0
    refine ⟨by omega, fun t ht => ?_⟩
    obtain ⟨q, hq, hq2⟩ := h2 t ht
    exact few_of n t.sub q (by omega) hq2

/-- The slice v holds the slots l in blocks of its own from base on, each list with three marks behind it. -/
def Hd (w : World) (base : Nat) : Nat → Value → List Slot → Prop
  | 0, _, _ => False
  | n + 1, v, l => ∃ (b : Nat) (f : Nat → Value), v = .slice (some ⟨b, 0, none⟩) l.length (l.length + 3) ∧ base ≤ b ∧ w.rowIs b 53 ((l.length + 3) * 5) f ∧
      (∀ j t, l[j]? = some t → WfS t ∧ f (j * 5) = .int .i64 t.no ∧ f (j * 5 + 1) = .int .i64 t.kind ∧ f (j * 5 + 2) = .int .u64 t.least ∧ f (j * 5 + 3) = .int .u64 t.most ∧ Hd w base n (f (j * 5 + 4)) t.sub) ∧
      (∀ j, l.length ≤ j → j < l.length + 3 → f (j * 5) = .int .i64 (-77) ∧ f (j * 5 + 4) = .slice none 0 0)
theorem Hd.keep {w w' : World} {base : Nat} : ∀ (n : Nat) (v : Value) (l : List Slot), Hd w base n v l → (∀ k, base ≤ k → k < w.heap.size → w'.heap[k]? = w.heap[k]?) → Hd w' base n v l
  | 0, _, _, h, _ => h.elim
  | n + 1, v, l, h, hk => by
    obtain ⟨b, f, e, hb, hr, h1, h2⟩ := h
    exact ⟨b, f, e, hb, hr.of_block (hk b hb hr.lt), fun j t ht => by obtain ⟨g0, g1, g2, g3, g4, g5⟩ := h1 j t ht; exact ⟨g0, g1, g2, g3, g4, Hd.keep n _ _ g5 hk⟩, h2⟩
theorem Hd.below {w w' : World} {base n : Nat} {v : Value} {l : List Slot} (h : Hd w base n v l) (hb : Below w.heap.size w w') : Hd w' base n v l := Hd.keep n v l h (fun k _ hk => hb.block k hk)
theorem Hd.mono {w : World} {base base' : Nat} (hb : base' ≤ base) : ∀ (n : Nat) (v : Value) (l : List Slot), Hd w base n v l → Hd w base' n v l
  | 0, _, _, h => h.elim
  | n + 1, v, l, h => by
    obtain ⟨b, f, e, hb', hr, h1, h2⟩ := h
    exact ⟨b, f, e, by omega, hr, fun j t ht => by obtain ⟨g0, g1, g2, g3, g4, g5⟩ := h1 j t ht; exact ⟨g0, g1, g2, g3, g4, Hd.mono hb n _ _ g5⟩, h2⟩
theorem add0 (b k : Nat) : (⟨b, 0, none⟩ : Addr).add k = ⟨b, k, none⟩ := by
  unfold Addr.add; split
  · rename_i h; subst h; rfl
  · simp
theorem Hd.slice {w : World} {base n : Nat} {v : Value} {l : List Slot} (h : Hd w base n v l) : ∃ b, v = .slice (some ⟨b, 0, none⟩) l.length (l.length + 3) ∧ base ≤ b ∧ b < w.heap.size := by
  cases n with
  | zero => exact h.elim
  | succ n => obtain ⟨b, f, e, hb, hr, _⟩ := h; exact ⟨b, e, hb, hr.lt⟩
/-- It reads as a schema. -/
theorem Hd.rd {w : World} {base : Nat} : ∀ (n : Nat) (v : Value) (l : List Slot), Hd w base n v l → l.length + 3 ≤ maxLen → Few n l → RdS w n v l
  | 0, _, _, h, _, _ => h.elim
  | n + 1, v, l, h, hm, hf => by
    obtain ⟨b, f, e, hb, hr, h1, h2⟩ := h
    refine ⟨some ⟨b, 0, none⟩, l.length + 3, e, by omega, hm, fun h0 => ⟨_, rfl, fun i t ht => ?_⟩⟩
    have hi : i < l.length := (List.getElem?_eq_some_iff.1 ht).1
    obtain ⟨g0, g1, g2, g3, g4, g5⟩ := h1 i t ht
    have hft : Few n t.sub := hf.2 t (List.mem_of_getElem? ht)
    refine ⟨g0, f (i * 5 + 4), ?_, Hd.rd n _ _ g5 ?_ hft⟩
    · rw [add0]
      have k0 := hr.cell (i := i * 5) (by omega)
      have k1 := hr.cell (i := i * 5 + 1) (by omega)
      have k2 := hr.cell (i := i * 5 + 2) (by omega)
      have k3 := hr.cell (i := i * 5 + 3) (by omega)
      have k4 := hr.cell (i := i * 5 + 4) (by omega)
      rw [g1] at k0
      rw [g2] at k1
      rw [g3] at k2
      rw [g4] at k3
      exact ⟨k0, k1, k2, k3, k4⟩
    · cases n with
      | zero => exact g5.elim
      | succ n => have := hft.1; simp [maxLen]; omega

/-- The zero of a slot's cell. -/
def zc (k : Nat) : Value := if k % 5 = 0 ∨ k % 5 = 1 then .int .i64 0 else if k % 5 = 2 ∨ k % 5 = 3 then .int .u64 0 else .slice none 0 0
set_option maxRecDepth 100000 in
theorem mk_slots (n : Nat) (hn : n ≤ 20000) (W : World) : ∃ W', (Instr.makeSlice 22 (.int .i64 (n : Int)) (.int .i64 (n : Int))).run Tryd.prog W = .ok (.slice (some ⟨W.heap.size, 0, none⟩) n n) W' ∧ W'.rowIs W.heap.size 53 (n * 5) zc ∧ Below W.heap.size W W' := by
  obtain ⟨i, hi, hzz⟩ := Option.map_eq_some_iff.1 (show (Tryd.prog.info? 53).map (fun i => (i.zero, i.size, i.bytes)) = some (some (.agg #[.int .i64 0, .int .i64 0, .int .u64 0, .int .u64 0, .slice none 0 0]), 5, 56) by kernel_rfl)
  simp only [Prod.mk.injEq] at hzz
  obtain ⟨hz0, hz1, hz2⟩ := hzz
  have hr := run_make (P := Tryd.prog) W 22 53 i _ Tryd.underlying22 hi hz0 .i64 .i64 n n (by omega) (Int.le_refl _) (by rw [hz2]; omega) (by omega)
  simp only [Int.toNat_natCast, hz1] at hr
  refine ⟨_, hr, ?_, (Below.refl _ _).alloc (Nat.le_refl _) _⟩
  have := World.rowIs_alloc W (madeCells (Value.agg #[.int .i64 0, .int .i64 0, .int .u64 0, .int .u64 0, .slice none 0 0]).cells (n * 5)) 53 zc (fun k hk => by
    rw [size_madeCells] at hk
    have hk5 : k % 5 < 5 := Nat.mod_lt _ (by omega)
    have er : (Array.range (n * 5))[k]? = some k := by simp [hk]
    simp only [madeCells, Value.cells, Array.getElem?_map, er, Option.map_some]
    congr 1
    unfold zc
    have : k % 5 = 0 ∨ k % 5 = 1 ∨ k % 5 = 2 ∨ k % 5 = 3 ∨ k % 5 = 4 := by omega
    rcases this with h | h | h | h | h <;> simp [h])
  rwa [size_madeCells] at this
end Go.Proofs.YtinngljphjdpoaaDoor.Hs
