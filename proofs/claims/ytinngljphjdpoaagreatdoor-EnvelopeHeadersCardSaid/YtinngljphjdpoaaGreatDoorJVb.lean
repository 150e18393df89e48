/- The program's canBe. -/
import Derived.Test.YtinngljphjdpoaaGreatDoorJHt
namespace Go.Proofs.YtinngljphjdpoaaGreatDoor.Vb
open Go Go.RowKit Go.Proofs.YtinngljphjdpoaaGreatDoor.Pa Go.Proofs.YtinngljphjdpoaaGreatDoor.Pb Go.Proofs.YtinngljphjdpoaaGreatDoor.Pf Go.Proofs.YtinngljphjdpoaaGreatDoor.Sc Go.Proofs.YtinngljphjdpoaaGreatDoor.Rs Go.Proofs.YtinngljphjdpoaaGreatDoor.Va
set_option linter.unusedVariables false
set_option linter.unusedSimpArgs false

/-- A block of one int. -/
def One (w : World) (g : Nat) (x : Int) : Prop := hp w g = some (.cells #[.int .i64 x] 3 (0, 0))
theorem One.lt {w : World} {g : Nat} {x : Int} (h : One w g x) : g < w.heap.size := by
  rcases Nat.lt_or_ge g w.heap.size with h1 | h1
  · exact h1
  · unfold One hp at h; rw [Array.getElem?_eq_none h1] at h; cases h
theorem One.cell {w : World} {g : Nat} {x : Int} (h : One w g x) : w.cell? ⟨g, 0, none⟩ = some (.int .i64 x) := (hp_cell h 0).trans rfl
theorem One.frozen {w : World} {g : Nat} {x : Int} (h : One w g x) : w.frozen? ⟨g, 0, none⟩ = false := hp_frozen h 0
theorem One.set {w : World} {g : Nat} {x : Int} (h : One w g x) (y : Int) : One (w.setCell ⟨g, 0, none⟩ (.int .i64 y)) g y := by
  unfold One hp at *
  rw [heap_setCell_same w g 0 _ _ _ h]
  rfl
theorem One.below {w w' : World} {g : Nat} {x : Int} (h : One w g x) (hb : Below w.heap.size w w') : One w' g x := (hb.hp g h.lt).trans h
theorem One.alloc {w : World} {g : Nat} {x : Int} (h : One w g x) (o : Obj) : One (w.alloc o) g x := (hp_alloc_past o g h.lt).trans h

theorem size_alloc' (w : World) (o : Obj) : (w.alloc o).heap.size = w.heap.size + 1 := by simp
theorem size_setCell' (w : World) (a : Addr) (v : Value) : (w.setCell a v).heap.size = w.heap.size := by simp [World.setCell]
/-- How it ends. -/
def Fin (R : Option Nat) (g : Nat) (w : World) (e : Ending) (w' : World) : Prop := ∃ s : Int, e = .returned (.bool R.isSome) ∧ One w' g s ∧ (∀ r, R = some r → s = 256 - r) ∧ Chg (fun k => k = g) w w'
theorem Fin.none {g : Nat} {w w' : World} {s : Int} (h : One w' g s) (hc : Chg (fun k => k = g) w w') : Fin none g w (.returned (.bool false)) w' := ⟨s, rfl, h, (fun r h => by cases h), hc⟩
theorem fail {g i q : Nat} {w wr : World} {x y : Int} (ho : One wr g x) (hc : Chg (fun k => k = g) w wr) (o : Obj) : One ((wr.setCell ⟨g, 0, none⟩ (.int .i64 y)).alloc o) g y ∧ Chg (fun k => k = g) w ((wr.setCell ⟨g, 0, none⟩ (.int .i64 y)).alloc o) :=
  ⟨(ho.set y).alloc o, hc.trans ((Chg.store wr ⟨g, 0, none⟩ _).alloc o)⟩
set_option maxHeartbeats 1000000 in
set_option maxRecDepth 100000 in
theorem canBe : ∀ (k n : Nat) (v : Value) (l : List Slot) (deep : Int) (room g : Nat) (W w : World), RdS W n v l → Below W.heap.size W w → W.heap.size ≤ g → One w g (256 - room) → deep = 7 - k → k ≤ 7 → room ≤ 256 →
    Calls Tryz.prog 91 #[v, .int .i64 deep, .pointer (some ⟨g, 0, none⟩)] w (Fin (canL k l room) g w) := by
  intro k
  induction k with
  | zero =>
    intro n v l deep room g W w h hb hg ho hd hk hr
    obtain ⟨A, c, rfl, hlc, hcm⟩ := h.slice
    have hd' : 6 < deep := by omega
    have HO := Lib.hid ho; clear ho h hd
    by_cases h16 : l.length ≤ 16
    · go_enter Tryz.func91, Tryz.ntmps91
      go_wp2_with fail
      go_ret
      exact Fin.none HO.out (Chg.refl _ _)
    · go_enter Tryz.func91, Tryz.ntmps91
      go_wp2_with fail
      go_ret
      exact Fin.none HO.out (Chg.refl _ _)
  | succ k ih =>
    intro n v l deep room g W w h hb hg ho hd hk hr
    obtain ⟨A, c, rfl, hlc, hcm⟩ := h.slice
    unfold maxLen at hcm
    have hd' : deep ≤ 6 := by omega
    have hd0 : 0 ≤ deep := by omega
    obtain ⟨m, rfl⟩ := h.pos
    have IH := Lib.hid ih; clear ih
    have HO := Lib.hid ho; have H := Lib.hid h; have HD := Lib.hid hd; clear ho h hd
    obtain ⟨R, hR⟩ : ∃ R, R = canL (k + 1) l room := ⟨_, rfl⟩
    rw [← hR]
    by_cases h16 : 16 < l.length
    · have hcl : canL (k + 1) l room = none := by simp only [canL]; rw [if_pos h16]
      rw [hcl] at hR
      have HR := Lib.hid hR; clear hR hcl
      go_enter Tryz.func91, Tryz.ntmps91
      go_wp2_with fail
      go_ret
      rw [HR.out]
      exact Fin.none HO.out (Chg.refl _ _)
    · have hcl : canL (k + 1) l room = canGo (canL k) l 0 room := by simp only [canL]; rw [if_neg h16]
      rw [hcl] at hR
      have HRR := Lib.hid hR; clear hR hcl
      go_enter Tryz.func91, Tryz.ntmps91
      go_wp2_with fail
      go_loopw [7, 19] (fun s t wr => ∃ (i : Nat) (last : Int) (q : Nat), i ≤ l.length ∧ 0 ≤ last ∧ last ≤ 536870911 ∧ q ≤ 256 ∧ s = .int .i64 last ∧ t = .int .i64 i ∧ canGo (canL k) (l.drop i) last q = R ∧ One wr g (256 - q) ∧ Chg (fun k => k = g) w wr) (fun _ t _ => l.length - (intOf t).toNat)
      case atStart => exact ⟨0, 0, room, by omega, by omega, by omega, hr, rfl, rfl, HRR.out.symm, HO.out, Chg.refl _ _⟩
      case round =>
        obtain ⟨i, last, q, hi, hl0, hl1, hq, rfl, rfl, he, ho, hch⟩ := hrel
        have hbr := hch.below hb (fun k hk => by omega) hb.size
        have HE := Lib.hid he; have HCH := Lib.hid hch; clear he hch
        have hgl := ho.lt
        have hoc := ho.cell
        have hof := ho.frozen
        have HOr := Lib.hid ho; clear ho
        by_cases hil : i < l.length
        · obtain ⟨ad, rfl, hwf, sv, hsl, hrd⟩ := H.out.at_ i hil
          replace hsl := hsl.keep (hbr.block _ hsl.lt)
          obtain ⟨p, hp⟩ : ∃ p, ad.add (i * 5) = p := ⟨_, rfl⟩
          rw [hp] at hsl
          have hdrop := List.drop_eq_getElem_cons hil
          generalize l[i] = t at hwf hsl hrd hdrop
          have HDR := Lib.hid hdrop; clear hdrop
          obtain ⟨no, kind, least, most, sub⟩ := t
          obtain ⟨c0, c1, c2, c3, c4⟩ := hsl
          simp only [Slot.no, Slot.kind, Slot.least, Slot.most, Slot.sub] at c0 c1 c2 c3 c4 hrd
          obtain ⟨A2, cc2, rfl, hlc2, hcm2⟩ := hrd.slice
          unfold maxLen at hcm2
          have HW := Lib.hid hwf; have HR := Lib.hid hrd; clear hwf hrd
          have HN : canGo (canL k) (List.drop i l) last q = R := HE.out
          rw [HDR.out] at HN
          simp only [canGo] at HN
          clear HE
          by_cases hq0 : q = 0
          · subst hq0
            rw [if_pos rfl] at HN
            have HNN := Lib.hid HN; clear HN
            go_wp2_with fail
            go_ret
            rw [← HNN.out]
            obtain ⟨f1, f2⟩ := fail (i := 0) (q := 0) (y := 257) HOr.out HCH.out _
            exact Fin.none f1 f2
          · obtain ⟨r, rfl⟩ : ∃ r, q = r + 1 := ⟨q - 1, by omega⟩
            rw [if_neg hq0] at HN
            clear hq0
            have hy : (256 : Int) - ((r + 1 : Nat) : Int) + 1 = 256 - (r : Int) := by omega
            by_cases hn1 : no ≤ last
            · have hf : fine (.mk no kind least most sub) last = false := fine_no1 hn1
              rw [if_pos hf] at HN
              have HNN := Lib.hid HN; clear HN hf
              go_wp2_with fail
              go_ret
              rw [← HNN.out]
              obtain ⟨f1, f2⟩ := fail (i := 0) (q := 0) HOr.out HCH.out _
              exact Fin.none f1 f2
            · by_cases hn2 : 536870911 < no
              · have hf : fine (.mk no kind least most sub) last = false := fine_no2 hn2
                rw [if_pos hf] at HN
                have HNN := Lib.hid HN; clear HN hf
                go_wp2_with fail
                go_ret
                rw [← HNN.out]
                obtain ⟨f1, f2⟩ := fail (i := 0) (q := 0) HOr.out HCH.out _
                exact Fin.none f1 f2
              · by_cases hbn : bnd (.mk no kind least most sub) = true
                · have hf : fine (.mk no kind least most sub) last = true := fine_yes (by simp only [Slot.no]; omega) (by simp only [Slot.no]; omega) hbn
                  rw [if_neg (by simp [hf])] at HN
                  clear hf
                  have hyy : (256 : Int) - ((r : Int) + 1) + 1 = 256 - (r : Int) := by omega
                  have HNo := Lib.hid hn2; 
                  by_cases hne : nest (.mk no kind least most sub) = true
                  · rw [if_pos hne] at HN
                    simp only [Nat.add_sub_cancel, Slot.sub, Slot.no] at HN
                    cases hcs : canL k sub r with
                    | none =>
                      rw [hcs] at HN
                      have HNN := Lib.hid HN; clear HN
                      go_wp2_with (go_at_call 9999)
                      go_at_call 110
                      refine (bounded no kind least most sub _ _ rfl).mono ?_
                      rintro e w1 ⟨rfl, hb1⟩
                      obtain ⟨f1, f2⟩ := fail (i := 0) (q := 0) HOr.out HCH.out _
                      have f1' := f1.below hb1
                      have F1 := Lib.hid f1'
                      have F2 := Lib.hid (f2.trans (Chg.of_below hb1))
                      clear f1 f2 f1'
                      obtain ⟨hcc, hff⟩ := (⟨fun b o h => hb1.cell (p := ⟨b, o, none⟩) h, fun b o h => hb1.frozen (p := ⟨b, o, none⟩) h⟩ : (∀ b o, b < _ → w1.cell? ⟨b, o, none⟩ = _) ∧ (∀ b o, b < _ → w1.frozen? ⟨b, o, none⟩ = _))
                      have hz1 := hb1.size
                      simp only [size_alloc', size_setCell'] at hz1
                      go_wp2_with (go_at_call 9999)
                      go_at_call 111
                      refine (nested' no kind least most sub _).mono ?_
                      rintro e w2 ⟨rfl, rfl⟩
                      go_wp2_with (go_at_call 9999)
                      go_at_call 91
                      refine (IH.out m _ sub _ r g W w1 HR.out (F2.out.below hb (fun k hk => by omega) hb.size) hg F1.out (by have := HD.out; omega) (by omega) (by omega)).mono ?_
                      rintro e w2 ⟨s2, rfl, ho2, hr2, hch2⟩
                      have HO2 := Lib.hid ho2; have HCH2 := Lib.hid (F2.out.trans hch2); have HR2 := Lib.hid hr2; clear ho2 hr2
                      go_wp2_with fail
                      go_ret
                      rw [← HNN.out]
                      exact Fin.none HO2.out HCH2.out
                    | some x =>
                      rw [hcs] at HN
                      have HNN := Lib.hid HN; clear HN
                      have hxr := canL_le _ _ _ _ hcs
                      go_wp2_with (go_at_call 9999)
                      go_at_call 110
                      refine (bounded no kind least most sub _ _ rfl).mono ?_
                      rintro e w1 ⟨rfl, hb1⟩
                      obtain ⟨f1, f2⟩ := fail (i := 0) (q := 0) HOr.out HCH.out _
                      have f1' := f1.below hb1
                      have F1 := Lib.hid f1'
                      have F2 := Lib.hid (f2.trans (Chg.of_below hb1))
                      clear f1 f2 f1'
                      obtain ⟨hcc, hff⟩ := (⟨fun b o h => hb1.cell (p := ⟨b, o, none⟩) h, fun b o h => hb1.frozen (p := ⟨b, o, none⟩) h⟩ : (∀ b o, b < _ → w1.cell? ⟨b, o, none⟩ = _) ∧ (∀ b o, b < _ → w1.frozen? ⟨b, o, none⟩ = _))
                      have hz1 := hb1.size
                      simp only [size_alloc', size_setCell'] at hz1
                      go_wp2_with (go_at_call 9999)
                      go_at_call 111
                      refine (nested' no kind least most sub _).mono ?_
                      rintro e w2 ⟨rfl, rfl⟩
                      go_wp2_with (go_at_call 9999)
                      go_at_call 91
                      refine (IH.out m _ sub _ r g W w1 HR.out (F2.out.below hb (fun k hk => by omega) hb.size) hg F1.out (by have := HD.out; omega) (by omega) (by omega)).mono ?_
                      rintro e w2 ⟨s2, rfl, ho2, hr2, hch2⟩
                      have HO2 := Lib.hid ho2; have HCH2 := Lib.hid (F2.out.trans hch2); have HR2 := Lib.hid hr2; clear ho2 hr2
                      have hs2 := HR2.out x hcs
                      subst hs2
                      have hlow : ∀ i, w2.cell? ⟨wr.heap.size, i, none⟩ = w1.cell? ⟨wr.heap.size, i, none⟩ := fun i => World.cell?_of_block (hch2.block wr.heap.size (by omega) (by omega))
                      go_wp2_with fail
                      go_roundw
                      case rel => exact ⟨i + 1, no, x, by omega, by omega, by omega, by omega, rfl, by go_num, HNN.out, HO2.out, HCH2.out⟩
                      case measure => simp [intOf]; omega
                  · have hnf : nest (.mk no kind least most sub) = false := by simpa using hne
                    rw [if_neg hne] at HN
                    clear hne
                    simp only [Nat.add_sub_cancel, Slot.sub, Slot.no] at HN
                    by_cases hs0 : sub.length = 0
                    · have hse : sub = [] := List.eq_nil_of_length_eq_zero hs0
                      subst hse
                      simp only [List.isEmpty_nil, if_true] at HN
                      have HNN := Lib.hid HN; clear HN
                      go_wp2_with (go_at_call 9999)
                      go_at_call 110
                      refine (bounded no kind least most [] _ _ rfl).mono ?_
                      rintro e w1 ⟨rfl, hb1⟩
                      obtain ⟨f1, f2⟩ := fail (i := 0) (q := 0) HOr.out HCH.out _
                      have f1' := f1.below hb1
                      have F1 := Lib.hid f1'
                      have F2 := Lib.hid (f2.trans (Chg.of_below hb1))
                      clear f1 f2 f1'
                      obtain ⟨hcc, hff⟩ := (⟨fun b o h => hb1.cell (p := ⟨b, o, none⟩) h, fun b o h => hb1.frozen (p := ⟨b, o, none⟩) h⟩ : (∀ b o, b < _ → w1.cell? ⟨b, o, none⟩ = _) ∧ (∀ b o, b < _ → w1.frozen? ⟨b, o, none⟩ = _))
                      have hz1 := hb1.size
                      simp only [size_alloc', size_setCell'] at hz1
                      go_wp2_with (go_at_call 9999)
                      go_at_call 111
                      refine (nested' no kind least most [] _).mono ?_
                      rintro e w2 ⟨rfl, rfl⟩
                      go_wp2_with fail
                      go_roundw
                      case rel => exact ⟨i + 1, no, r, by omega, by omega, by omega, by omega, rfl, by go_num, HNN.out, F1.out, F2.out⟩
                      case measure => simp [intOf]; omega
                    · have hse : sub.isEmpty = false := by cases sub with | nil => simp at hs0 | cons _ _ => rfl
                      rw [hse] at HN
                      simp only [Bool.false_eq_true, if_false] at HN
                      have HNN := Lib.hid HN; clear HN hse
                      have hs1 : 0 < sub.length := by omega
                      clear hs0
                      go_wp2_with (go_at_call 9999)
                      go_at_call 110
                      refine (bounded no kind least most sub _ _ rfl).mono ?_
                      rintro e w1 ⟨rfl, hb1⟩
                      obtain ⟨f1, f2⟩ := fail (i := 0) (q := 0) HOr.out HCH.out _
                      have f1' := f1.below hb1
                      have F1 := Lib.hid f1'
                      have F2 := Lib.hid (f2.trans (Chg.of_below hb1))
                      clear f1 f2 f1'
                      obtain ⟨hcc, hff⟩ := (⟨fun b o h => hb1.cell (p := ⟨b, o, none⟩) h, fun b o h => hb1.frozen (p := ⟨b, o, none⟩) h⟩ : (∀ b o, b < _ → w1.cell? ⟨b, o, none⟩ = _) ∧ (∀ b o, b < _ → w1.frozen? ⟨b, o, none⟩ = _))
                      have hz1 := hb1.size
                      simp only [size_alloc', size_setCell'] at hz1
                      go_wp2_with (go_at_call 9999)
                      go_at_call 111
                      refine (nested' no kind least most sub _).mono ?_
                      rintro e w2 ⟨rfl, rfl⟩
                      go_wp2_with fail
                      go_ret
                      rw [← HNN.out]
                      exact Fin.none F1.out F2.out
                · have hbf : bnd (.mk no kind least most sub) = false := by simpa using hbn
                  clear hbn
                  have hf : fine (.mk no kind least most sub) last = false := fine_no3 hbf
                  rw [if_pos hf] at HN
                  have HNN := Lib.hid HN; clear HN hf
                  go_wp2_with (go_at_call 9999)
                  go_at_call 110
                  refine (bounded no kind least most sub _ _ rfl).mono ?_
                  rintro e w1 ⟨rfl, hb1⟩
                  obtain ⟨f1, f2⟩ := fail (i := 0) (q := 0) HOr.out HCH.out _
                  have F1 := Lib.hid (f1.below hb1)
                  have F2 := Lib.hid (f2.trans (Chg.of_below hb1))
                  clear f1 f2
                  go_wp2_with fail
                  go_ret
                  rw [← HNN.out]
                  exact Fin.none F1.out F2.out
        · have hfin : R = some q := by rw [← HE.out, List.drop_eq_nil_of_le (by omega)]; rfl
          have HF := Lib.hid hfin; clear hfin
          go_wp2_with fail
          go_ret
          rw [HF.out]
          exact ⟨_, rfl, HOr.out, (fun r h => by cases h; rfl), HCH.out⟩
end Go.Proofs.YtinngljphjdpoaaGreatDoor.Vb
