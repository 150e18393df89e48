/- The program's canBe. -/
import Derived.Test.YtinngljphjdpoaaGreatDoorJHt
import Derived.Test.YtinngljphjdpoaaGreatDoorJEp
import Derived.BigRegion
import Derived.Deep.RegionWith
namespace Go.Proofs.YtinngljphjdpoaaGreatDoor.Vb
open Go Go.RowKit Go.Proofs.YtinngljphjdpoaaGreatDoor.Pa Go.Proofs.YtinngljphjdpoaaGreatDoor.Pb Go.Proofs.YtinngljphjdpoaaGreatDoor.Pf Go.Proofs.YtinngljphjdpoaaGreatDoor.Sc Go.Proofs.YtinngljphjdpoaaGreatDoor.Rs Go.Proofs.YtinngljphjdpoaaGreatDoor.Va
set_option linter.unusedVariables false
set_option linter.unusedSimpArgs false

/-- A block of one int. -/
def One (w : World) (g : Nat) (x : Int) : Prop := hp w g = some (.cells #[.int .i64 x] 3 (0, 0))
theorem One.lt {w : World} {g : Nat} {x : Int} (h : One w g x) : g < w.heap.size := by
  rcases Nat.lt_or_ge g w.heap.size with h1 | h1
  · exact h1
  · unfold One hp at h; rw [Array.getElem?_eq_none h1] at h; cases h
theorem One.cell {w : World} {g : Nat} {x : Int} (h : One w g x) : w.cell? ⟨g, 0, none⟩ = some (.int .i64 x) := (hp_cell h 0).trans rfl
theorem One.frozen {w : World} {g : Nat} {x : Int} (h : One w g x) : w.frozen? ⟨g, 0, none⟩ = false := hp_frozen h 0
theorem One.set {w : World} {g : Nat} {x : Int} (h : One w g x) (y : Int) : One (w.setCell ⟨g, 0, none⟩ (.int .i64 y)) g y := by
  unfold One hp at *
  rw [heap_setCell_same w g 0 _ _ _ h]
  rfl
theorem One.below {w w' : World} {g : Nat} {x : Int} (h : One w g x) (hb : Below w.heap.size w w') : One w' g x := (hb.hp g h.lt).trans h
theorem One.alloc {w : World} {g : Nat} {x : Int} (h : One w g x) (o : Obj) : One (w.alloc o) g x := (hp_alloc_past o g h.lt).trans h

theorem size_alloc' (w : World) (o : Obj) : (w.alloc o).heap.size = w.heap.size + 1 := by simp
theorem size_setCell' (w : World) (a : Addr) (v : Value) : (w.setCell a v).heap.size = w.heap.size := by simp [World.setCell]
/-- How it ends. -/
def Fin (R : Option Nat) (g : Nat) (w : World) (e : Ending) (w' : World) : Prop := ∃ s : Int, e = .returned (.bool R.isSome) ∧ One w' g s ∧ (∀ r, R = some r → s = 256 - r) ∧ Chg (fun k => k = g) w w'
theorem Fin.none {g : Nat} {w w' : World} {s : Int} (h : One w' g s) (hc : Chg (fun k => k = g) w w') : Fin none g w (.returned (.bool false)) w' := ⟨s, rfl, h, (fun r h => by cases h), hc⟩
theorem fail {g i q : Nat} {w wr : World} {x y : Int} (ho : One wr g x) (hc : Chg (fun k => k = g) w wr) (o : Obj) : One ((wr.setCell ⟨g, 0, none⟩ (.int .i64 y)).alloc o) g y ∧ Chg (fun k => k = g) w ((wr.setCell ⟨g, 0, none⟩ (.int .i64 y)).alloc o) :=
  ⟨(ho.set y).alloc o, hc.trans ((Chg.store wr ⟨g, 0, none⟩ _).alloc o)⟩
set_option maxHeartbeats 1000000 in
set_option maxRecDepth 100000 in
theorem canBe : ∀ (k n : Nat) (v : Value) (l : List Slot) (deep : Int) (room g : Nat) (W w : World), RdS W n v l → Below W.heap.size W w → W.heap.size ≤ g → One w g (256 - room) → deep = 7 - k → k ≤ 7 → room ≤ 256 →
    Calls Tryz.prog 91 #[v, .int .i64 deep, .pointer (some ⟨g, 0, none⟩)] w (Fin (canL k l room) g w) := by
  intro k
  induction k with
  | zero =>
    intro n v l deep room g W w h hb hg ho hd hk hr
    obtain ⟨A, c, rfl, hlc, hcm⟩ := h.slice
    have hd' : 6 < deep := by omega
    have HO := Lib.hid ho; clear ho h hd
    by_cases h16 : l.length ≤ 16
    · go_enter Tryz.func91, Tryz.ntmps91
      go_wp2_with fail
      go_ret
      exact Fin.none HO.out (Chg.refl _ _)
    · go_enter Tryz.func91, Tryz.ntmps91
      go_wp2_with fail
      go_ret
      exact Fin.none HO.out (Chg.refl _ _)
  | succ k ih =>
    intro n v l deep room g W w h hb hg ho hd hk hr
    obtain ⟨A, c, rfl, hlc, hcm⟩ := h.slice
    unfold maxLen at hcm
    have hd' : deep ≤ 6 := by omega
    have hd0 : 0 ≤ deep := by omega
    obtain ⟨m, rfl⟩ := h.pos
    have IH := Lib.hid ih; clear ih
    have HO := Lib.hid ho; have H := Lib.hid h; have HD := Lib.hid hd; clear ho h hd
    obtain ⟨R, hR⟩ : ∃ R, R = canL (k + 1) l room := ⟨_, rfl⟩
    rw [← hR]
    by_cases h16 : 16 < l.length
    · have hcl : canL (k + 1) l room = none := by simp only [canL]; rw [if_pos h16]
      rw [hcl] at hR
      have HR := Lib.hid hR; clear hR hcl
      go_enter Tryz.func91, Tryz.ntmps91
      go_wp2_with fail
      go_ret
      rw [HR.out]
      exact Fin.none HO.out (Chg.refl _ _)
    · have hcl : canL (k + 1) l room = canGo (canL k) l 0 room := by simp only [canL]; rw [if_neg h16]
      rw [hcl] at hR
      have HRR := Lib.hid hR; clear hR hcl
      go_enter Tryz.func91, Tryz.ntmps91
      go_wp2_with fail
      go_loopw [7, 19] (fun s t wr => ∃ (i : Nat) (last : Int) (q : Nat), i ≤ l.length ∧ 0 ≤ last ∧ last ≤ 536870911 ∧ q ≤ 256 ∧ s = .int .i64 last ∧ t = .int .i64 i ∧ canGo (canL k) (l.drop i) last q = R ∧ One wr g (256 - q) ∧ Chg (fun k => k = g) w wr) (fun _ t _ => l.length - (intOf t).toNat)
      case atStart => exact ⟨0, 0, room, by omega, by omega, by omega, hr, rfl, rfl, HRR.out.symm, HO.out, Chg.refl _ _⟩
      case round =>
        obtain ⟨i, last, q, hi, hl0, hl1, hq, rfl, rfl, he, ho, hch⟩ := hrel
        have hbr := hch.below hb (fun k hk => by omega) hb.size
        have HE := Lib.hid he; have HCH := Lib.hid hch; clear he hch
        have hgl := ho.lt
        have hoc := ho.cell
        have hof := ho.frozen
        have HOr := Lib.hid ho; clear ho
        by_cases hil : i < l.length
        · obtain ⟨ad, rfl, hwf, sv, hsl, hrd⟩ := H.out.at_ i hil
          replace hsl := hsl.keep (hbr.block _ hsl.lt)
          obtain ⟨p, hp⟩ : ∃ p, ad.add (i * 5) = p := ⟨_, rfl⟩
          rw [hp] at hsl
          have hdrop := List.drop_eq_getElem_cons hil
          generalize l[i] = t at hwf hsl hrd hdrop
          have HDR := Lib.hid hdrop; clear hdrop
          obtain ⟨no, kind, least, most, sub⟩ := t
          obtain ⟨c0, c1, c2, c3, c4⟩ := hsl
          simp only [Slot.no, Slot.kind, Slot.least, Slot.most, Slot.sub] at c0 c1 c2 c3 c4 hrd
          obtain ⟨A2, cc2, rfl, hlc2, hcm2⟩ := hrd.slice
          unfold maxLen at hcm2
          have HW := Lib.hid hwf; have HR := Lib.hid hrd; clear hwf hrd
          have HN : canGo (canL k) (List.drop i l) last q = R := HE.out
          rw [HDR.out] at HN
          simp only [canGo] at HN
          clear HE
          by_cases hq0 : q = 0
          · subst hq0
            rw [if_pos rfl] at HN
            have HNN := Lib.hid HN; clear HN
            go_wp2_with fail
            go_ret
            rw [← HNN.out]
            obtain ⟨f1, f2⟩ := fail (i := 0) (q := 0) (y := 257) HOr.out HCH.out _
            exact Fin.none f1 f2
          · obtain ⟨r, rfl⟩ : ∃ r, q = r + 1 := ⟨q - 1, by omega⟩
            rw [if_neg hq0] at HN
            clear hq0
            have hy : (256 : Int) - ((r + 1 : Nat) : Int) + 1 = 256 - (r : Int) := by omega
            by_cases hn1 : no ≤ last
            · have hf : fine (.mk no kind least most sub) last = false := fine_no1 hn1
              rw [if_pos hf] at HN
              have HNN := Lib.hid HN; clear HN hf
              go_wp2_with fail
              go_ret
              rw [← HNN.out]
              obtain ⟨f1, f2⟩ := fail (i := 0) (q := 0) HOr.out HCH.out _
              exact Fin.none f1 f2
            · by_cases hn2 : 536870911 < no
              · have hf : fine (.mk no kind least most sub) last = false := fine_no2 hn2
                rw [if_pos hf] at HN
                have HNN := Lib.hid HN; clear HN hf
                go_wp2_with fail
                go_ret
                rw [← HNN.out]
                obtain ⟨f1, f2⟩ := fail (i := 0) (q := 0) HOr.out HCH.out _
                exact Fin.none f1 f2
              · by_cases hbn : bnd (.mk no kind least most sub) = true
                · have hf : fine (.mk no kind least most sub) last = true := fine_yes (by simp only [Slot.no]; omega) (by simp only [Slot.no]; omega) hbn
                  rw [if_neg (by simp [hf])] at HN
                  clear hf
                  have hyy : (256 : Int) - ((r : Int) + 1) + 1 = 256 - (r : Int) := by omega
                  have HNo := Lib.hid hn2; 
                  by_cases hne : nest (.mk no kind least most sub) = true
                  · rw [if_pos hne] at HN
                    simp only [Nat.add_sub_cancel, Slot.sub, Slot.no] at HN
                    cases hcs : canL k sub r with
                    | none =>
                      rw [hcs] at HN
                      have HNN := Lib.hid HN; clear HN
                      go_wp2_with (go_at_call 9999)
                      go_at_call 110
                      refine (bounded no kind least most sub _ _ rfl).mono ?_
                      rintro e w1 ⟨rfl, hb1⟩
                      obtain ⟨f1, f2⟩ := fail (i := 0) (q := 0) HOr.out HCH.out _
                      have f1' := f1.below hb1
                      have F1 := Lib.hid f1'
                      have F2 := Lib.hid (f2.trans (Chg.of_below hb1))
                      clear f1 f2 f1'
                      obtain ⟨hcc, hff⟩ := (⟨fun b o h => hb1.cell (p := ⟨b, o, none⟩) h, fun b o h => hb1.frozen (p := ⟨b, o, none⟩) h⟩ : (∀ b o, b < _ → w1.cell? ⟨b, o, none⟩ = _) ∧ (∀ b o, b < _ → w1.frozen? ⟨b, o, none⟩ = _))
                      have hz1 := hb1.size
                      simp only [size_alloc', size_setCell'] at hz1
                      go_wp2_with (go_at_call 9999)
                      go_at_call 111
                      refine (nested' no kind least most sub _).mono ?_
                      rintro e w2 ⟨rfl, rfl⟩
                      go_wp2_with (go_at_call 9999)
                      go_at_call 91
                      refine (IH.out m _ sub _ r g W w1 HR.out (F2.out.below hb (fun k hk => by omega) hb.size) hg F1.out (by have := HD.out; omega) (by omega) (by omega)).mono ?_
                      rintro e w2 ⟨s2, rfl, ho2, hr2, hch2⟩
                      have HO2 := Lib.hid ho2; have HCH2 := Lib.hid (F2.out.trans hch2); have HR2 := Lib.hid hr2; clear ho2 hr2
                      go_wp2_with fail
                      go_ret
                      rw [← HNN.out]
                      exact Fin.none HO2.out HCH2.out
                    | some x =>
                      rw [hcs] at HN
                      have HNN := Lib.hid HN; clear HN
                      have hxr := canL_le _ _ _ _ hcs
                      go_wp2_with (go_at_call 9999)
                      go_at_call 110
                      refine (bounded no kind least most sub _ _ rfl).mono ?_
                      rintro e w1 ⟨rfl, hb1⟩
                      obtain ⟨f1, f2⟩ := fail (i := 0) (q := 0) HOr.out HCH.out _
                      have f1' := f1.below hb1
                      have F1 := Lib.hid f1'
                      have F2 := Lib.hid (f2.trans (Chg.of_below hb1))
                      clear f1 f2 f1'
                      obtain ⟨hcc, hff⟩ := (⟨fun b o h => hb1.cell (p := ⟨b, o, none⟩) h, fun b o h => hb1.frozen (p := ⟨b, o, none⟩) h⟩ : (∀ b o, b < _ → w1.cell? ⟨b, o, none⟩ = _) ∧ (∀ b o, b < _ → w1.frozen? ⟨b, o, none⟩ = _))
                      have hz1 := hb1.size
                      simp only [size_alloc', size_setCell'] at hz1
                      go_wp2_with (go_at_call 9999)
                      go_at_call 111
                      refine (nested' no kind least most sub _).mono ?_
                      rintro e w2 ⟨rfl, rfl⟩
                      go_wp2_with (go_at_call 9999)
                      go_at_call 91
                      refine (IH.out m _ sub _ r g W w1 HR.out (F2.out.below hb (fun k hk => by omega) hb.size) hg F1.out (by have := HD.out; omega) (by omega) (by omega)).mono ?_
                      rintro e w2 ⟨s2, rfl, ho2, hr2, hch2⟩
                      have HO2 := Lib.hid ho2; have HCH2 := Lib.hid (F2.out.trans hch2); have HR2 := Lib.hid hr2; clear ho2 hr2
                      have hs2 := HR2.out x hcs
                      subst hs2
                      have hlow : ∀ i, w2.cell? ⟨wr.heap.size, i, none⟩ = w1.cell? ⟨wr.heap.size, i, none⟩ := fun i => World.cell?_of_block (hch2.block wr.heap.size (by omega) (by omega))
                      go_wp2_with fail
                      go_roundw
                      case rel => exact ⟨i + 1, no, x, by omega, by omega, by omega, by omega, rfl, by go_num, HNN.out, HO2.out, HCH2.out⟩
                      case measure => simp [intOf]; omega
                  · have hnf : nest (.mk no kind least most sub) = false := by simpa using hne
                    rw [if_neg hne] at HN
                    clear hne
                    simp only [Nat.add_sub_cancel, Slot.sub, Slot.no] at HN
                    by_cases hs0 : sub.length = 0
                    · have hse : sub = [] := List.eq_nil_of_length_eq_zero hs0
                      subst hse
                      simp only [List.isEmpty_nil, if_true] at HN
                      have HNN := Lib.hid HN; clear HN
                      go_wp2_with (go_at_call 9999)
                      go_at_call 110
                      refine (bounded no kind least most [] _ _ rfl).mono ?_
                      rintro e w1 ⟨rfl, hb1⟩
                      obtain ⟨f1, f2⟩ := fail (i := 0) (q := 0) HOr.out HCH.out _
                      have f1' := f1.below hb1
                      have F1 := Lib.hid f1'
                      have F2 := Lib.hid (f2.trans (Chg.of_below hb1))
                      clear f1 f2 f1'
                      obtain ⟨hcc, hff⟩ := (⟨fun b o h => hb1.cell (p := ⟨b, o, none⟩) h, fun b o h => hb1.frozen (p := ⟨b, o, none⟩) h⟩ : (∀ b o, b < _ → w1.cell? ⟨b, o, none⟩ = _) ∧ (∀ b o, b < _ → w1.frozen? ⟨b, o, none⟩ = _))
                      have hz1 := hb1.size
                      simp only [size_alloc', size_setCell'] at hz1
                      go_wp2_with (go_at_call 9999)
                      go_at_call 111
                      refine (nested' no kind least most [] _).mono ?_
                      rintro e w2 ⟨rfl, rfl⟩
                      go_wp2_with fail
                      go_roundw
                      case rel => exact ⟨i + 1, no, r, by omega, by omega, by omega, by omega, rfl, by go_num, HNN.out, F1.out, F2.out⟩
                      case measure => simp [intOf]; omega
                    · have hse : sub.isEmpty = false := by cases sub with | nil => simp at hs0 | cons _ _ => rfl
                      rw [hse] at HN
                      simp only [Bool.false_eq_true, if_false] at HN
                      have HNN := Lib.hid HN; clear HN hse
                      have hs1 : 0 < sub.length := by omega
                      clear hs0
                      go_wp2_with (go_at_call 9999)
                      go_at_call 110
                      refine (bounded no kind least most sub _ _ rfl).mono ?_
                      rintro e w1 ⟨rfl, hb1⟩
                      obtain ⟨f1, f2⟩ := fail (i := 0) (q := 0) HOr.out HCH.out _
                      have f1' := f1.below hb1
                      have F1 := Lib.hid f1'
                      have F2 := Lib.hid (f2.trans (Chg.of_below hb1))
                      clear f1 f2 f1'
                      obtain ⟨hcc, hff⟩ := (⟨fun b o h => hb1.cell (p := ⟨b, o, none⟩) h, fun b o h => hb1.frozen (p := ⟨b, o, none⟩) h⟩ : (∀ b o, b < _ → w1.cell? ⟨b, o, none⟩ = _) ∧ (∀ b o, b < _ → w1.frozen? ⟨b, o, none⟩ = _))
                      have hz1 := hb1.size
                      simp only [size_alloc', size_setCell'] at hz1
                      go_wp2_with (go_at_call 9999)
                      go_at_call 111
                      refine (nested' no kind least most sub _).mono ?_
                      rintro e w2 ⟨rfl, rfl⟩
                      go_wp2_with fail
                      go_ret
                      rw [← HNN.out]
                      exact Fin.none F1.out F2.out
                · have hbf : bnd (.mk no kind least most sub) = false := by simpa using hbn
                  clear hbn
                  have hf : fine (.mk no kind least most sub) last = false := fine_no3 hbf
                  rw [if_pos hf] at HN
                  have HNN := Lib.hid HN; clear HN hf
                  go_wp2_with (go_at_call 9999)
                  go_at_call 110
                  refine (bounded no kind least most sub _ _ rfl).mono ?_
                  rintro e w1 ⟨rfl, hb1⟩
                  obtain ⟨f1, f2⟩ := fail (i := 0) (q := 0) HOr.out HCH.out _
                  have F1 := Lib.hid (f1.below hb1)
                  have F2 := Lib.hid (f2.trans (Chg.of_below hb1))
                  clear f1 f2
                  go_wp2_with fail
                  go_ret
                  rw [← HNN.out]
                  exact Fin.none F1.out F2.out
        · have hfin : R = some q := by rw [← HE.out, List.drop_eq_nil_of_le (by omega)]; rfl
          have HF := Lib.hid hfin; clear hfin
          go_wp2_with fail
          go_ret
          rw [HF.out]
          exact ⟨_, rfl, HOr.out, (fun r h => by cases h; rfl), HCH.out⟩
end Go.Proofs.YtinngljphjdpoaaGreatDoor.Vb
/- The program's span, Valid. -/
namespace Go.Proofs.YtinngljphjdpoaaGreatDoor.Vd
open Go Go.RowKit Go.Proofs.YtinngljphjdpoaaGreatDoor.Pa Go.Proofs.YtinngljphjdpoaaGreatDoor.Pb Go.Proofs.YtinngljphjdpoaaGreatDoor.Pf Go.Proofs.YtinngljphjdpoaaGreatDoor.Nz Go.Proofs.YtinngljphjdpoaaGreatDoor.Nm Go.Proofs.YtinngljphjdpoaaGreatDoor.Sc Go.Proofs.YtinngljphjdpoaaGreatDoor.Rs Go.Proofs.YtinngljphjdpoaaGreatDoor.Va Go.Proofs.YtinngljphjdpoaaGreatDoor.Vb Go.Proofs.YtinngljphjdpoaaGreatDoor.Vc
set_option linter.unusedVariables false
set_option linter.unusedSimpArgs false

theorem sizeI (x : Int) (h0 : 0 ≤ x) (h1 : x < 18446744073709551616) (w : World) : Calls Tryz.prog 112 #[.int .u64 x] w fun e w' => e = .returned (.int .i64 (sz x.toNat : Nat)) ∧ w = w' := by
  obtain ⟨n, rfl⟩ := Int.eq_ofNat_of_zero_le h0
  exact size n (by omega) w
theorem sz_congr {a b : Nat} (h : a = b) : sz a = sz b := by rw [h]
/-- A box of some call's own, kept. -/
def KeptG (W0 : World) (g : Nat) (C : Array Value) (W : World) : Prop := Below W0.heap.size W0 W ∧ hp W g = some (.cells C 117 (0, 0))
theorem KeptG.on {W0 W W' : World} {g : Nat} {C : Array Value} (h : KeptG W0 g C W) (hb : Below W.heap.size W W') : KeptG W0 g C W' := by
  have hlt : g < W.heap.size := by
    rcases Nat.lt_or_ge g W.heap.size with h1 | h1
    · exact h1
    · have := h.2; unfold hp at this; rw [Array.getElem?_eq_none h1] at this; cases this
  exact ⟨h.1.trans (hb.mono h.1.size), (hb.hp _ hlt).trans h.2⟩
theorem KeptG.same {W0 W W' : World} {g : Nat} {C : Array Value} (h : KeptG W0 g C W) (hb : W = W') : KeptG W0 g C W' := hb ▸ h

set_option maxHeartbeats 1000000 in
set_option maxRecDepth 100000 in
theorem span : ∀ (m : Nat), SpanSaid m := by
  intro m
  induction m with
  | zero => exact fun k v l W w h _ _ => h.elim
  | succ m ih =>
    intro k v l W w h hok hb
    obtain ⟨A, c, rfl, hlc, hcm⟩ := h.slice
    unfold maxLen at hcm
    cases k with
    | zero => exact hok.elim
    | succ k =>
    obtain ⟨h16, hall⟩ := hok
    have IH := Lib.hid ih; clear ih
    have H := Lib.hid h; have HA := Lib.hid hall; clear h hall
    obtain ⟨R, hR⟩ : ∃ R, R = pSpan (m + 1) l := ⟨_, rfl⟩
    rw [← hR]
    have HR := Lib.hid hR; clear hR
    go_enter Tryz.func92, Tryz.ntmps92
    go_wp2_with fail
    go_loopw [4, 5, 13] (fun s t u wr => ∃ (i : Nat), i ≤ l.length ∧ u = .int .i64 i ∧ s = .int .i64 (pGo (pSpan m) (l.take i)).1 ∧ t = .int .i64 (pGo (pSpan m) (l.take i)).2 ∧ Below w.heap.size w wr) (fun _ _ u _ => l.length - (intOf u).toNat)
    case atStart => exact ⟨0, by omega, rfl, rfl, rfl, Below.refl _ _⟩
    case round =>
      obtain ⟨i, hi, rfl, rfl, rfl, hbw⟩ := hrel
      have hbr : Below W.heap.size W wr := hb.trans (hbw.mono hb.size)
      by_cases hil : i < l.length
      · obtain ⟨ad, rfl, hwf, sv, hsl, hrd⟩ := H.out.at_ i hil
        replace hsl := hsl.keep (hbr.block _ hsl.lt)
        obtain ⟨p, hpa⟩ : ∃ p, ad.add (i * 5) = p := ⟨_, rfl⟩
        rw [hpa] at hsl
        have hit := HA.out l[i] (List.getElem_mem hil)
        have hnx := pGo_take (pSpan m) l i hil
        obtain ⟨hg1, hg2⟩ := pGo_le (pSpan m) (l.take i)
        have hvl := pVal_le m l[i] hit.2.2.1 hwf.least hwf.most
        generalize pGo (pSpan m) (l.take i) = q at *
        obtain ⟨x, y⟩ := q
        simp only at hg1 hg2 ⊢
        generalize l[i] = t at hwf hsl hrd hit hnx hvl
        obtain ⟨no, kind, least, most, sub⟩ := t
        obtain ⟨c0, c1, c2, c3, c4⟩ := hsl
        obtain ⟨i1, i2, i3, i4, i5⟩ := hit
        have hl0 := hwf.least
        have hm0 := hwf.most
        simp only [Slot.no, Slot.kind, Slot.least, Slot.most, Slot.sub] at c0 c1 c2 c3 c4 hrd i1 i2 i4 i5 hl0 hm0
        obtain ⟨N, rfl⟩ := Int.eq_ofNat_of_zero_le (show 0 ≤ no by omega)
        obtain ⟨A2, cc2, rfl, hlc2, hcm2⟩ := hrd.slice
        clear hlc2 hcm2
        have HRD := Lib.hid hrd; have I3 := Lib.hid i3; have I4 := Lib.hid i4; have hnx' : pGo (pSpan m) (l.take (i + 1)) = (min (x + hd (.mk (N : Int) kind least most sub) + (pVal (pSpan m) (.mk (N : Int) kind least most sub)).1) 1073741824, min (y + hd (.mk (N : Int) kind least most sub) + (pVal (pSpan m) (.mk (N : Int) kind least most sub)).2) 1073741824) := hnx
        have HNX := Lib.hid hnx'; clear hnx'; have HL0 := Lib.hid hl0; have HM0 := Lib.hid hm0; clear hrd i3 i4 i5 hwf hnx hl0 hm0
        have hwt := wt_le kind
        have hs0 := sz_u64 (8 * N + wt kind) (by omega)
        have hq1 : IntKind.u64.wrap (N : Int) = (N : Int) := wu64 (by omega) (by omega)
        have hq2 : IntKind.u64.wrap (wt kind : Int) = (wt kind : Int) := wu64 (by omega) (by omega)
        have hq3 : IntKind.u64.wrap (8 * (N : Int)) = 8 * (N : Int) := wu64 (by omega) (by omega)
        have hq4 : IntKind.u64.wrap (8 * (N : Int) + (wt kind : Int)) = 8 * (N : Int) + (wt kind : Int) := wu64 (by omega) (by omega)
        have bx : Below wr.heap.size wr (wr.alloc (.cells #[.int .i64 N, .int .i64 kind, .int .u64 least, .int .u64 most, .slice A2 sub.length cc2] 117)) := (Below.refl _ _).alloc (Nat.le_refl _) _
        go_wp2_with fail
        refine wp_region_calm (S := KeptG wr wr.heap.size #[.int .i64 N, .int .i64 kind, .int .u64 least, .int .u64 most, .slice A2 sub.length cc2]) (by kernel_rfl) (by kernel_rfl) ⟨bx.drew, (hp_alloc_at _ _ rfl : hp (wr.alloc (.cells #[.int .i64 N, .int .i64 kind, .int .u64 least, .int .u64 most, .slice A2 sub.length cc2] 117)) wr.heap.size = _)⟩ ?_
        intro hN
        have hC : ∀ (u : Held (KeptG wr wr.heap.size #[.int .i64 N, .int .i64 kind, .int .u64 least, .int .u64 most, .slice A2 sub.length cc2])) (i : Nat), u.w.cell? ⟨wr.heap.size, i, none⟩ = (#[.int .i64 N, .int .i64 kind, .int .u64 least, .int .u64 most, .slice A2 sub.length cc2] : Array Value)[i]? := fun u i => hp_cell u.h.2 i
        repeat (go_big_quiet_step (first | (go_at_call 113; exact calm_call (wireOf _ _) (fun w' hs hr => hs.same hr)) | (go_at_call 112; exact calm_call (sizeI _ (by omega) (by omega) _) (fun w' hs hr => hs.same hr))))
        refine wpQuiet_nil ?_
        intro u
        have hub := u.h.1
        have he : (8 * (N : Int) + (wt kind : Int)).toNat = 8 * N + wt kind := by omega
        rw [he]
        clear he hq1 hq2 hq3 hq4
        have hhd : hd (.mk (N : Int) kind least most sub) = sz (8 * N + wt kind) := rfl
        rw [← hhd] at hs0 ⊢
        generalize hd (.mk (N : Int) kind least most sub) = h0 at *
        generalize hpv : pVal (pSpan m) (.mk (N : Int) kind least most sub) = z at *
        obtain ⟨a, b⟩ := z
        simp only at hvl
        have HPV := Lib.hid hpv; clear hpv hhd
        go_wp2_with (go_at_call 9999)
        go_at_call 114
        refine (valueSpan m k IH.out (N : Int) kind least most sub _ W _ rfl I3.out HL0.out HM0.out (fun hn => ⟨HRD.out, I4.out hn⟩) (hbr.trans (hub.mono hbr.size))).mono ?_
        rw [HPV.out]
        rintro e w1 ⟨rfl, hb1⟩
        simp only
        have hub1 := u.h.1.trans (hb1.mono u.h.1.size)
        have hfin : ∀ c d : Nat, c = min (x + h0 + a) 1073741824 → d = min (y + h0 + b) 1073741824 → pGo (pSpan m) (l.take (i + 1)) = (c, d) := fun c d hc hd' => by rw [hc, hd']; exact HNX.out
        have HFIN := Lib.hid hfin; clear hfin
        have hbw1 : Below w.heap.size w w1 := hbw.trans (hub1.mono hbw.size)
        by_cases ha : (1073741824 : Int) < (x : Int) + (h0 : Int) + (a : Int) <;> by_cases hb' : (1073741824 : Int) < (y : Int) + (h0 : Int) + (b : Int)
        all_goals
          go_wp2_with fail
          go_roundw
          case rel => exact ⟨i + 1, by omega, by go_num, by rw [HFIN.out _ _ rfl rfl]; go_num, by rw [HFIN.out _ _ rfl rfl]; go_num, hbw1⟩
          case measure => simp [intOf]; omega
      · obtain rfl : i = l.length := by omega
        rw [List.take_length] at *
        go_wp2_with fail
        go_ret2
        rw [HR.out]
        exact ⟨rfl, hbw⟩

/-- The program's Valid. -/
theorem pvalid {n : Nat} {v : Value} {l : List Slot} (w : World) (h : RdS w n v l) : Calls Tryz.prog 63 #[v] w fun e w' => e = .returned (.int .i64 (valid n l)) ∧ Below w.heap.size w w' := by
  obtain ⟨A, c, rfl, -⟩ := h.slice
  have H := Lib.hid h; clear h
  have b1 : Below w.heap.size w (w.alloc (.cells #[.int .i64 0] 3)) := (Below.refl _ _).alloc (Nat.le_refl _) _
  cases hc : canL 6 l 256 with
  | none =>
    have hv : valid n l = 80 := by unfold valid; rw [if_pos hc]
    have HV := Lib.hid hv; clear hv
    go_enter Tryz.func63, Tryz.ntmps63
    go_wp2_with (go_at_call 9999)
    go_at_call 91
    refine (canBe 6 n _ l 1 256 w.heap.size w _ H.out b1 (Nat.le_refl _) (hp_alloc_at _ _ rfl) (by omega) (by omega) (by omega)).mono ?_
    rw [hc]
    rintro e w1 ⟨s, rfl, ho, hr, hch⟩
    have hbw : Below w.heap.size w w1 := hch.below b1 (fun k hk => Nat.le_of_eq hk.symm) (by simp)
    go_wp2_with fail
    go_ret
    exact ⟨ret_int HV.out.symm, hbw⟩
  | some r =>
    have hal := pSpan_al n l
    have hle := pSpan_le n l
    unfold huge at hle
    have hok := canL_ok 6 l 256 r hc
    have HOK := Lib.hid hok; clear hok
    have hv : valid n l = if 4194304 < (exSpan n l).2 then 2 else 0 := by unfold valid; rw [if_neg (by rw [hc]; exact fun h => by cases h)]
    have hgt := al_gt hal.2 (Al.refl _)
    simp only [← hgt] at hv
    have HV := Lib.hid hv; clear hv hgt hal
    go_enter Tryz.func63, Tryz.ntmps63
    go_wp2_with (go_at_call 9999)
    go_at_call 91
    refine (canBe 6 n _ l 1 256 w.heap.size w _ H.out b1 (Nat.le_refl _) (hp_alloc_at _ _ rfl) (by omega) (by omega) (by omega)).mono ?_
    rw [hc]
    rintro e w1 ⟨s, rfl, ho, hr, hch⟩
    have hbw : Below w.heap.size w w1 := hch.below b1 (fun k hk => Nat.le_of_eq hk.symm) (by simp)
    go_wp2_with (go_at_call 9999)
    go_at_call 92
    refine (span n 6 _ l w w1 H.out HOK.out hbw).mono ?_
    rintro e w2 ⟨rfl, hb2⟩
    have hbw2 : Below w.heap.size w w2 := hbw.trans (hb2.mono hbw.size)
    generalize pSpan n l = q at *
    obtain ⟨x, y⟩ := q
    by_cases hy : (4194304 : Int) < (y : Int)
    · go_wp2_with fail
      go_ret
      rw [HV.out]
      exact ⟨ret_int (by rw [if_pos (by omega)]), hbw2⟩
    · go_wp2_with fail
      go_ret
      rw [HV.out]
      exact ⟨ret_int (by rw [if_neg (by omega)]), hbw2⟩
end Go.Proofs.YtinngljphjdpoaaGreatDoor.Vd
/- How a compiled schema lies in memory (the program's codec). -/
namespace Go.Proofs.YtinngljphjdpoaaGreatDoor.Ca
open Go Go.RowKit Go.Proofs.YtinngljphjdpoaaGreatDoor.Pa Go.Proofs.YtinngljphjdpoaaGreatDoor.Pb Go.Proofs.YtinngljphjdpoaaGreatDoor.Pf Go.Proofs.YtinngljphjdpoaaGreatDoor.Sc Go.Proofs.YtinngljphjdpoaaGreatDoor.Rs Go.Proofs.YtinngljphjdpoaaGreatDoor.Va Go.Proofs.YtinngljphjdpoaaGreatDoor.Vc Go.Proofs.YtinngljphjdpoaaGreatDoor.Vd
set_option linter.unusedVariables false
set_option linter.unusedSimpArgs false

/-- Where it lies. -/
abbrev Pl := Nat → Prop
@[go_sem] def ptr (b : Nat) : Value := .pointer (some ⟨b, 0, none⟩)
/-- A whole number as a float. -/
def fbits (n : Nat) : Value := .float .f64 (FloatKind.f64.nearest (n : Int))
theorem run_f64 (n : Nat) (w : World) : (convert 29 205 (.int .u64 (n : Int))).run Tryz.prog w = .ok (fbits n) w := by
  simp only [convert, Sem.run_bind, run_underlying Tryz.underlying29, run_underlying Tryz.underlying205, Result.andThen_ok]
  rfl
/-- The shape of a slot without a schema within. -/
def flat (t : Slot) : Value :=
  if t.kind = 4 then .iface 204 (.agg #[.int .u64 0, .int .u64 1])
  else if t.kind = 7 then .iface 207 (.agg #[fbits t.most])
  else if t.kind = 5 ∨ t.kind = 6 then .iface 210 (.agg #[.int .u64 t.least, .int .u64 t.most, .bool (decide (t.kind = 6))])
  else .iface 204 (.agg #[.int .u64 t.least, .int .u64 t.most])
/-- A shape: C tells which codec lies in a block. -/
def Shp (C : Nat → List Slot → Prop) (t : Slot) (sh : Value) : Prop :=
  if t.kind = 8 then ∃ c, C c t.sub ∧ sh = .iface 197 (.agg #[ptr c])
  else if t.kind = 9 then ∃ c, C c t.sub ∧ sh = .iface 201 (.agg #[ptr c, .int .u64 t.least, .int .u64 t.most])
  else sh = flat t
/-- A slot made ready: its three functions, in blocks of S. -/
def Rdy (C : Nat → List Slot → Prop) (w : World) (S : Pl) (t : Slot) (chk wr rd : Value) : Prop :=
  if t.kind = 8 then ∃ c b5 b9, C c t.sub ∧ S b5 ∧ S b9 ∧ hp w b5 = some (.cells #[ptr c] 197 (0, 0)) ∧ hp w b9 = some (.cells #[ptr c] 197 (0, 0)) ∧
    chk = .func (.func 116) #[] #[ptr b5] ∧ wr = .func (.func 124) #[] #[ptr b9] ∧ rd = .func (.func 125) #[] #[ptr b9]
  else ∃ sh b4 b1 sv, Shp C t sh ∧ S b4 ∧ S b1 ∧ hp w b4 = some (.cells #[sh] 194 (0, 0)) ∧ hp w b1 = some (.cells #[.int .i64 t.no, .int .i64 t.kind, .int .u64 t.least, .int .u64 t.most, sv] 117 (0, 0)) ∧
    chk = .func (.func 117) #[] #[ptr b4, ptr b1] ∧
    (if t.kind = 9 then ∃ c, sh = .iface 201 (.agg #[ptr c, .int .u64 t.least, .int .u64 t.most]) ∧
        wr = .func (.func 127) #[.agg #[ptr c, .int .u64 t.least, .int .u64 t.most]] #[] ∧ rd = .func (.func 128) #[.agg #[ptr c, .int .u64 t.least, .int .u64 t.most]] #[]
      else if t.kind = 5 ∨ t.kind = 6 then wr = .func (.func 122) #[] #[] ∧ rd = .func (.func 123) #[] #[ptr b4]
      else wr = .func (.func 119) #[] #[] ∧ rd = .func (.func 120) #[] #[ptr b4])
/-- The codec in block g is that of the slots l, less than n levels deep, in blocks of S. -/
def Cd (w : World) (S : Pl) : Nat → Nat → List Slot → Prop
  | 0, _, _ => False
  | n + 1, g, l => S g ∧ ∃ (A : Option Addr) (c : Nat), hp w g = some (.cells #[.slice A l.length c, .int .i64 (pSpan (n + 1) l).1, .int .i64 (pSpan (n + 1) l).2] 114 (0, 0)) ∧
      (0 < l.length → ∃ b, A = some ⟨b, 0, none⟩ ∧ S b ∧ ∀ i t, l[i]? = some t → WfS t ∧ bnd t = true ∧ ∃ chk wr rd, w.cell? ⟨b, i * 5, none⟩ = some (.int .i64 t.no) ∧ w.cell? ⟨b, i * 5 + 1, none⟩ = some (.int .i64 (wt t.kind : Nat)) ∧
        w.cell? ⟨b, i * 5 + 2, none⟩ = some chk ∧ w.cell? ⟨b, i * 5 + 3, none⟩ = some wr ∧ w.cell? ⟨b, i * 5 + 4, none⟩ = some rd ∧ Rdy (Cd w S n) w S t chk wr rd)
theorem Shp.mono {C C' : Nat → List Slot → Prop} (h : ∀ c s, C c s → C' c s) {t : Slot} {sh : Value} (hs : Shp C t sh) : Shp C' t sh := by
  unfold Shp at *
  split
  · rename_i e; rw [if_pos e] at hs; obtain ⟨c, h1, h2⟩ := hs; exact ⟨c, h _ _ h1, h2⟩
  · rename_i e; rw [if_neg e] at hs
    split
    · rename_i e2; rw [if_pos e2] at hs; obtain ⟨c, h1, h2⟩ := hs; exact ⟨c, h _ _ h1, h2⟩
    · rename_i e2; rw [if_neg e2] at hs; exact hs
theorem Rdy.mono {C C' : Nat → List Slot → Prop} {w w' : World} {S S' : Pl} (h : ∀ c s, C c s → C' c s) (hS : ∀ b, S b → S' b) (hk : ∀ b, S b → ∀ o, hp w b = some o → hp w' b = some o) {t : Slot} {chk wr rd : Value} (hr : Rdy C w S t chk wr rd) : Rdy C' w' S' t chk wr rd := by
  unfold Rdy at *
  split
  · rename_i e; rw [if_pos e] at hr
    obtain ⟨c, b5, b9, h1, h2, h3, h4, h5, h6⟩ := hr
    exact ⟨c, b5, b9, h _ _ h1, hS _ h2, hS _ h3, hk _ h2 _ h4, hk _ h3 _ h5, h6⟩
  · rename_i e; rw [if_neg e] at hr
    obtain ⟨sh, b4, b1, sv, h1, h2, h3, h4, h5, h6⟩ := hr
    exact ⟨sh, b4, b1, sv, h1.mono h, hS _ h2, hS _ h3, hk _ h2 _ h4, hk _ h3 _ h5, h6⟩
/-- It stays, where none of its blocks turns. -/
theorem Cd.keep {w w' : World} {S S' : Pl} (hS : ∀ b, S b → S' b) (hk : ∀ b, S b → b < w.heap.size → w'.heap[b]? = w.heap[b]?) : ∀ (n g : Nat) (l : List Slot), Cd w S n g l → Cd w' S' n g l
  | 0, _, _, h => h.elim
  | n + 1, g, l, h => by
    obtain ⟨h1, A, c, h2, h3⟩ := h
    have hk' : ∀ b, S b → ∀ o, hp w b = some o → hp w' b = some o := fun b hb o ho => by
      have hlt : b < w.heap.size := by unfold hp at ho; exact (Array.getElem?_eq_some_iff.1 ho).1
      unfold hp at *; rw [hk b hb hlt]; exact ho
    refine ⟨hS _ h1, A, c, hk' _ h1 _ h2, fun h0 => ?_⟩
    obtain ⟨b, ha, hb, hc⟩ := h3 h0
    refine ⟨b, ha, hS _ hb, fun i t ht => ?_⟩
    obtain ⟨g0, gb, chk, wr, rd, g1, g2, g3, g4, g5, g6⟩ := hc i t ht
    have k : ∀ o v, w.cell? ⟨b, o, none⟩ = some v → w'.cell? ⟨b, o, none⟩ = some v := fun o v hv => (World.cell?_of_block (hk b hb (World.block_lt_of_cell? w _ hv))).trans hv
    exact ⟨g0, gb, chk, wr, rd, k _ _ g1, k _ _ g2, k _ _ g3, k _ _ g4, k _ _ g5, g6.mono (fun c s => Cd.keep hS hk n c s) hS hk'⟩
theorem Cd.below {w w' : World} {S : Pl} {n g : Nat} {l : List Slot} (h : Cd w S n g l) (hb : Below w.heap.size w w') : Cd w' S n g l := Cd.keep (fun _ h => h) (fun b _ hlt => hb.block b hlt) n g l h
end Go.Proofs.YtinngljphjdpoaaGreatDoor.Ca
/- shapeOf. -/
namespace Go.Proofs.YtinngljphjdpoaaGreatDoor.Cb
open Go Go.RowKit Go.Proofs.YtinngljphjdpoaaGreatDoor.Pa Go.Proofs.YtinngljphjdpoaaGreatDoor.Pb Go.Proofs.YtinngljphjdpoaaGreatDoor.Pf Go.Proofs.YtinngljphjdpoaaGreatDoor.Sc Go.Proofs.YtinngljphjdpoaaGreatDoor.Rs Go.Proofs.YtinngljphjdpoaaGreatDoor.Va Go.Proofs.YtinngljphjdpoaaGreatDoor.Vc Go.Proofs.YtinngljphjdpoaaGreatDoor.Vd Go.Proofs.YtinngljphjdpoaaGreatDoor.Ca
set_option linter.unusedVariables false
set_option linter.unusedSimpArgs false
/-- The blocks between two worlds. -/
def Bt (w w' : World) : Pl := fun b => w.heap.size ≤ b ∧ b < w'.heap.size
/-- What compile answers. -/
def CompSaid (m : Nat) : Prop := ∀ (k : Nat) (v : Value) (l : List Slot) (W w : World), RdS W m v l → okL k l → Below W.heap.size W w →
  Calls Tryz.prog 64 #[v] w fun e w' => ∃ c, e = .returned (ptr c) ∧ Cd w' (Bt w w') m c l ∧ Below w.heap.size w w'
theorem Bt.sub {w0 w w' w1 : World} (h1 : w0.heap.size ≤ w.heap.size) (h2 : w'.heap.size ≤ w1.heap.size) : ∀ b, Bt w w' b → Bt w0 w1 b := fun b h => ⟨Nat.le_trans h1 h.1, Nat.lt_of_lt_of_le h.2 h2⟩
theorem shp_flat {C : Nat → List Slot → Prop} {t : Slot} (h : nest t = false) : Shp C t (flat t) := by
  have h8 : ¬ t.kind = 8 := fun e => by simp [nest, e] at h
  have h9 : ¬ t.kind = 9 := fun e => by simp [nest, e] at h
  unfold Shp
  rw [if_neg h8, if_neg h9]
theorem shp8 {C : Nat → List Slot → Prop} {no : Int} {least most c : Nat} {sub : List Slot} (h : C c sub) : Shp C (.mk no 8 least most sub) (.iface 197 (.agg #[ptr c])) := by
  unfold Shp; rw [if_pos (show (Slot.mk no 8 least most sub).kind = 8 from rfl)]; exact ⟨c, h, rfl⟩
theorem shp9 {C : Nat → List Slot → Prop} {no : Int} {least most c : Nat} {sub : List Slot} (h : C c sub) : Shp C (.mk no 9 least most sub) (.iface 201 (.agg #[ptr c, .int .u64 least, .int .u64 most])) := by
  unfold Shp; rw [if_neg (by show ¬ (9 : Int) = 8; decide), if_pos (show (Slot.mk no 9 least most sub).kind = 9 from rfl)]; exact ⟨c, h, rfl⟩
set_option maxHeartbeats 1000000 in
set_option maxRecDepth 100000 in
theorem shapeOf (m k : Nat) (IH : CompSaid m) (no kind : Int) (least most : Nat) (sub : List Slot) (sv : Value) (W w : World) (h1 : sv.oneCell' = true) (hb : bnd (.mk no kind least most sub) = true)
    (hn : nest (.mk no kind least most sub) = true → RdS W m sv sub ∧ okL k sub) (hB : Below W.heap.size W w) :
    Calls Tryz.prog 115 #[.agg #[.int .i64 no, .int .i64 kind, .int .u64 least, .int .u64 most, sv]] w fun e w' =>
      ∃ sh, e = .returned sh ∧ Shp (Cd w' (Bt w w') m) (.mk no kind least most sub) sh ∧ Below w.heap.size w w' := by
  have HB := Lib.hid hB
  have bx : Below w.heap.size w (w.alloc (.cells #[.int .i64 no, .int .i64 kind, .int .u64 least, .int .u64 most, sv] 117)) := (Below.refl _ _).alloc (Nat.le_refl _) _
  have BX := Lib.hid bx
  clear hB bx
  have hF : ∀ K : Int, kind = K → K ≠ 8 → K ≠ 9 → ∀ w' : World, Shp (Cd w' (Bt w w') m) (.mk no kind least most sub) (flat (.mk no kind least most sub)) := fun K e h8 h9 w' => by subst e; exact shp_flat (by simp [nest, Slot.kind, h8, h9])
  have HF := Lib.hid hF; clear hF
  have hf64 := run_f64 most
  unfold fbits at hf64
  rcases bnd_kind hb with e | e | e | e | e | e | e | e | e
  · simp only [Slot.kind] at e
    subst e
    have hfl := HF.out 1 rfl (by decide) (by decide)
    have HFL := Lib.hid hfl; clear hfl hb hn
    go_enter Tryz.func115, Tryz.ntmps115
    go_wp2_with fail
    go_ret
    exact ⟨_, rfl, HFL.out _, BX.out⟩
  · simp only [Slot.kind] at e
    subst e
    have hfl := HF.out 2 rfl (by decide) (by decide)
    have HFL := Lib.hid hfl; clear hfl hb hn
    go_enter Tryz.func115, Tryz.ntmps115
    go_wp2_with fail
    go_ret
    exact ⟨_, rfl, HFL.out _, BX.out⟩
  · simp only [Slot.kind] at e
    subst e
    have hfl := HF.out 3 rfl (by decide) (by decide)
    have HFL := Lib.hid hfl; clear hfl hb hn
    go_enter Tryz.func115, Tryz.ntmps115
    go_wp2_with fail
    go_ret
    exact ⟨_, rfl, HFL.out _, BX.out⟩
  · simp only [Slot.kind] at e
    subst e
    have hfl := HF.out 4 rfl (by decide) (by decide)
    have HFL := Lib.hid hfl; clear hfl hb hn
    go_enter Tryz.func115, Tryz.ntmps115
    go_wp2_with fail
    go_ret
    exact ⟨_, rfl, HFL.out _, BX.out⟩
  · simp only [Slot.kind] at e
    subst e
    have hfl := HF.out 5 rfl (by decide) (by decide)
    have HFL := Lib.hid hfl; clear hfl hb hn
    go_enter Tryz.func115, Tryz.ntmps115
    go_wp2_with fail
    go_ret
    exact ⟨_, rfl, HFL.out _, BX.out⟩
  · simp only [Slot.kind] at e
    subst e
    have hfl := HF.out 6 rfl (by decide) (by decide)
    have HFL := Lib.hid hfl; clear hfl hb hn
    go_enter Tryz.func115, Tryz.ntmps115
    go_wp2_with fail
    go_ret
    exact ⟨_, rfl, HFL.out _, BX.out⟩
  · simp only [Slot.kind] at e
    subst e
    have hfl := HF.out 7 rfl (by decide) (by decide)
    have HFL := Lib.hid hfl; clear hfl hb hn
    go_enter Tryz.func115, Tryz.ntmps115
    go_wp2_with fail
    go_ret
    exact ⟨_, rfl, HFL.out _, BX.out⟩
  · simp only [Slot.kind] at e
    subst e
    obtain ⟨r1, r2⟩ := hn (by simp [nest, Slot.kind])
    have R1 := Lib.hid r1; have R2 := Lib.hid r2; clear r1 r2 hb hn HF
    go_enter Tryz.func115, Tryz.ntmps115
    go_wp2_with (go_at_call 9999)
    go_at_call 64
    refine (IH k sv sub W _ R1.out R2.out (HB.out.trans (BX.out.mono HB.out.size))).mono ?_
    rintro _ w2 ⟨c, rfl, hc, b2⟩
    have B2 := Lib.hid (BX.out.trans (b2.mono (by simp)))
    have HC := Lib.hid (Cd.keep (S' := Bt w w2) (Bt.sub (by simp) (Nat.le_refl _)) (fun _ _ _ => rfl) m c sub hc)
    clear hc b2
    go_wp2_with fail
    go_ret
    exact ⟨_, rfl, shp8 HC.out, B2.out⟩
  · simp only [Slot.kind] at e
    subst e
    obtain ⟨r1, r2⟩ := hn (by simp [nest, Slot.kind])
    have R1 := Lib.hid r1; have R2 := Lib.hid r2; clear r1 r2 hb hn HF
    go_enter Tryz.func115, Tryz.ntmps115
    go_wp2_with fail
    obtain ⟨wx, hwx⟩ : ∃ x, x = w.alloc (.cells #[.int .i64 no, .int .i64 9, .int .u64 least, .int .u64 most, sv] 117) := ⟨_, rfl⟩
    have hx : hp wx w.heap.size = some (.cells #[.int .i64 no, .int .i64 9, .int .u64 least, .int .u64 most, sv] 117 (0, 0)) := by rw [hwx]; exact hp_alloc_at _ _ rfl
    rw [← hwx]
    rw [← hwx] at BX
    have hsz : wx.heap.size = w.heap.size + 1 := by rw [hwx]; simp
    have HSZ := Lib.hid hsz; clear hsz hwx
    have c2 : wx.cell? ⟨w.heap.size, 2, none⟩ = some (.int .u64 least) := hp_cell hx 2
    have c3 : wx.cell? ⟨w.heap.size, 3, none⟩ = some (.int .u64 most) := hp_cell hx 3
    have c4 : wx.cell? ⟨w.heap.size, 4, none⟩ = some sv := hp_cell hx 4
    have HX := Lib.hid hx; clear hx
    go_region_with (go_at_call 64; refine (IH k sv sub W _ R1.out R2.out (HB.out.trans (Below.mono (Below.drew BX.out) HB.out.size))).mono ?_; rintro _ w2 ⟨c, rfl, hc, b2⟩; have d2 : w2.cell? ⟨w.heap.size, 2, none⟩ = some (.int .u64 least) := hp_cell ((b2.hp _ (by have := HSZ.out; simp; omega)).trans ((hp_drew _).trans HX.out)) 2; have d3 : w2.cell? ⟨w.heap.size, 3, none⟩ = some (.int .u64 most) := hp_cell ((b2.hp _ (by have := HSZ.out; simp; omega)).trans ((hp_drew _).trans HX.out)) 3)
    all_goals
      have B2 := Lib.hid ((BX.out.drew).trans (b2.mono (by have := HSZ.out; simp; omega)))
      have HC := Lib.hid (Cd.keep (S' := Bt w w2) (Bt.sub (by have := HSZ.out; simp; omega) (Nat.le_refl _)) (fun _ _ _ => rfl) m c sub hc)
      clear hc b2
      go_wp2_with fail
      go_ret
      exact ⟨_, rfl, shp9 HC.out, B2.out⟩
@[go_sem] theorem ta_message (t xT : TypeId) (v : Value) (w : World) : (Instr.typeAssert (.iface t v) xT 197 true).run Tryz.prog w = .ok (if t = 197 then .tuple #[v, .bool true] else .tuple #[.agg #[.pointer none], .bool false]) w := by
  have hz : (zeroValue 197).run Tryz.prog w = .ok (.agg #[.pointer none]) w := by kernel_rfl
  by_cases h : t = 197
  · subst h; simp [Instr.typeAssert, Sem.run_bind, run_underlying Tryz.underlying197, Result.andThen_ok]
  · simp [Instr.typeAssert, Sem.run_bind, run_underlying Tryz.underlying197, Result.andThen_ok, h, hz]
@[go_sem] theorem ta_list (t xT : TypeId) (v : Value) (w : World) : (Instr.typeAssert (.iface t v) xT 201 true).run Tryz.prog w = .ok (if t = 201 then .tuple #[v, .bool true] else .tuple #[.agg #[.pointer none, .int .u64 0, .int .u64 0], .bool false]) w := by
  have hz : (zeroValue 201).run Tryz.prog w = .ok (.agg #[.pointer none, .int .u64 0, .int .u64 0]) w := by kernel_rfl
  by_cases h : t = 201
  · subst h; simp [Instr.typeAssert, Sem.run_bind, run_underlying Tryz.underlying201, Result.andThen_ok]
  · simp [Instr.typeAssert, Sem.run_bind, run_underlying Tryz.underlying201, Result.andThen_ok, h, hz]
@[go_sem] theorem ta_number (t xT : TypeId) (v : Value) (w : World) : (Instr.typeAssert (.iface t v) xT 204 true).run Tryz.prog w = .ok (if t = 204 then .tuple #[v, .bool true] else .tuple #[.agg #[.int .u64 0, .int .u64 0], .bool false]) w := by
  have hz : (zeroValue 204).run Tryz.prog w = .ok (.agg #[.int .u64 0, .int .u64 0]) w := by kernel_rfl
  by_cases h : t = 204
  · subst h; simp [Instr.typeAssert, Sem.run_bind, run_underlying Tryz.underlying204, Result.andThen_ok]
  · simp [Instr.typeAssert, Sem.run_bind, run_underlying Tryz.underlying204, Result.andThen_ok, h, hz]
@[go_sem] theorem ta_data (t xT : TypeId) (v : Value) (w : World) : (Instr.typeAssert (.iface t v) xT 210 true).run Tryz.prog w = .ok (if t = 210 then .tuple #[v, .bool true] else .tuple #[.agg #[.int .u64 0, .int .u64 0, .bool false], .bool false]) w := by
  have hz : (zeroValue 210).run Tryz.prog w = .ok (.agg #[.int .u64 0, .int .u64 0, .bool false]) w := by kernel_rfl
  by_cases h : t = 210
  · subst h; simp [Instr.typeAssert, Sem.run_bind, run_underlying Tryz.underlying210, Result.andThen_ok]
  · simp [Instr.typeAssert, Sem.run_bind, run_underlying Tryz.underlying210, Result.andThen_ok, h, hz]
@[go_sem] theorem ta_float (t xT : TypeId) (v : Value) (w : World) : (Instr.typeAssert (.iface t v) xT 207 true).run Tryz.prog w = .ok (if t = 207 then .tuple #[v, .bool true] else .tuple #[.agg #[.float .f64 0], .bool false]) w := by
  have hz : (zeroValue 207).run Tryz.prog w = .ok (.agg #[.float .f64 0]) w := by kernel_rfl
  by_cases h : t = 207
  · subst h; simp [Instr.typeAssert, Sem.run_bind, run_underlying Tryz.underlying207, Result.andThen_ok]
  · simp [Instr.typeAssert, Sem.run_bind, run_underlying Tryz.underlying207, Result.andThen_ok, h, hz]
theorem shp_inv8 {C : Nat → List Slot → Prop} {no : Int} {least most : Nat} {sub : List Slot} {sh : Value} (h : Shp C (.mk no 8 least most sub) sh) : ∃ c, C c sub ∧ sh = .iface 197 (.agg #[ptr c]) := by
  unfold Shp at h
  rw [if_pos (show (Slot.mk no 8 least most sub).kind = 8 from rfl)] at h
  exact h
theorem shp_inv9 {C : Nat → List Slot → Prop} {no : Int} {least most : Nat} {sub : List Slot} {sh : Value} (h : Shp C (.mk no 9 least most sub) sh) : ∃ c, C c sub ∧ sh = .iface 201 (.agg #[ptr c, .int .u64 least, .int .u64 most]) := by
  unfold Shp at h
  rw [if_neg (show ¬ (Slot.mk no 9 least most sub).kind = 8 by show ¬ (9 : Int) = 8; decide), if_pos (show (Slot.mk no 9 least most sub).kind = 9 from rfl)] at h
  exact h
theorem shp_invN {C : Nat → List Slot → Prop} {no kind : Int} {least most : Nat} {sub : List Slot} {sh : Value} (h8 : kind ≠ 8) (h9 : kind ≠ 9) (h : Shp C (.mk no kind least most sub) sh) : sh = flat (.mk no kind least most sub) := by
  unfold Shp at h
  rw [if_neg (show ¬ (Slot.mk no kind least most sub).kind = 8 from h8), if_neg (show ¬ (Slot.mk no kind least most sub).kind = 9 from h9)] at h
  exact h
end Go.Proofs.YtinngljphjdpoaaGreatDoor.Cb
