/- A schema within one, as the only slot of a message or of a list: plain. -/
import Derived.Test.YtinngljphjdpoaaDoorJYk
namespace Go.Proofs.YtinngljphjdpoaaDoor.Yw
open Go Go.Proofs.YtinngljphjdpoaaDoor Go.Proofs.YtinngljphjdpoaaDoor.Nz Go.Proofs.YtinngljphjdpoaaDoor.Sc Go.Proofs.YtinngljphjdpoaaDoor.Rs Go.Proofs.YtinngljphjdpoaaDoor.Ep Go.Proofs.YtinngljphjdpoaaDoor.Gp Go.Proofs.YtinngljphjdpoaaDoor.Hp Go.Proofs.YtinngljphjdpoaaDoor.Hq Go.Proofs.YtinngljphjdpoaaDoor.Gq Go.Proofs.YtinngljphjdpoaaDoor.Ya Go.Proofs.YtinngljphjdpoaaDoor.Yb Go.Proofs.YtinngljphjdpoaaDoor.Yc Go.Proofs.YtinngljphjdpoaaDoor.Gw Go.Proofs.YtinngljphjdpoaaDoor.Gi Go.Proofs.YtinngljphjdpoaaDoor.Es Go.Proofs.YtinngljphjdpoaaDoor.Cm Go.Proofs.YtinngljphjdpoaaDoor.Vu Go.Proofs.YtinngljphjdpoaaDoor.Vo Go.Proofs.YtinngljphjdpoaaDoor.Yk
set_option linter.unusedVariables false
set_option linter.unusedSimpArgs false
def w8 (no : Int) (l : List Slot) : Slot := .mk no 8 0 0 l
def w9 (no : Int) (l : List Slot) : Slot := .mk no 9 1 1 l
/-- What is wrong does not hang on how deep it is. -/
theorem go_code {f g : Slot → Va → Flt} (h : ∀ t y, (f t y).2.2 = (g t y).2.2) : ∀ (s : List Slot) (l : List Va), (chkGo f s l).2.2 = (chkGo g s l).2.2
  | [], _ => by simp [chkGo]
  | _ :: _, [] => by simp [chkGo]
  | t :: s, y :: l => by
    simp only [chkGo]
    by_cases hz : (f t y).2.2 = 0
    · rw [if_neg (by simp [hz]), if_neg (by simp [← h, hz])]; exact go_code h s l
    · rw [if_pos hz, if_pos (by rw [← h]; exact hz)]; exact h t y
theorem it_code {f g : Va → Flt} (h : ∀ y, (f y).2.2 = (g y).2.2) : ∀ (l : List Va), (itemsGo f l).2.2 = (itemsGo g l).2.2
  | [] => by simp [itemsGo]
  | y :: l => by
    simp only [itemsGo]
    by_cases hz : (f y).2.2 = 0
    · rw [if_neg (by simp [hz]), if_neg (by simp [← h, hz])]; exact it_code h l
    · rw [if_pos hz, if_pos (by rw [← h]; exact hz)]; exact h y
theorem chk_deep (F : Nat → Nat → Int) (U : List UInt8 → Bool) : ∀ (n : Nat) (s : List Slot) (v : Va) (d d' : Int), (chk F U n s v d).2.2 = (chk F U n s v d').2.2
  | 0, _, _, _, _ => rfl
  | n + 1, s, v, d, d' => by
    rw [chk_succ, chk_succ]
    split
    · rfl
    · split
      · rfl
      · refine go_code (fun t y => ?_) _ _
        unfold slotC
        split
        · exact chk_deep F U n _ _ _ _
        · split
          · rfl
          · split
            · rfl
            · split
              · exact it_code (fun z => chk_deep F U n _ _ _ _) _
              · rfl
theorem chk8 (F : Nat → Nat → Int) (U : List UInt8 → Bool) (n : Nat) (no : Int) (l : List Slot) (v : Va) (d d' : Int) : (chk F U (n + 1) [w8 no l] (.mk 0 [] [v]) d).2.2 = (chk F U n l v d').2.2 := by
  rw [chk_succ, if_neg (by simp [Va.num, Va.data]), if_neg (by simp [Va.parts])]
  simp only [Va.parts, chkGo]
  have hs : slotC F U n d (w8 no l) v = chk F U n l v (d + 1) := by unfold slotC; rw [if_pos (by rfl)]; rfl
  rw [hs, chk_deep F U n l v d' (d + 1)]
  by_cases hz : (chk F U n l v (d + 1)).2.2 = 0
  · rw [if_neg (by simp [hz]), hz]
  · rw [if_pos hz]
theorem chk9 (F : Nat → Nat → Int) (U : List UInt8 → Bool) (n : Nat) (no : Int) (l : List Slot) (v : Va) (d d' : Int) : (chk F U (n + 1) [w9 no l] (.mk 0 [] [.mk 0 [] [v]]) d).2.2 = (chk F U n l v d').2.2 := by
  rw [chk_succ, if_neg (by simp [Va.num, Va.data]), if_neg (by simp [Va.parts])]
  simp only [Va.parts, chkGo]
  have hs : slotC F U n d (w9 no l) (.mk 0 [] [v]) = itemsGo (fun y => chk F U n l y (d + 1)) [v] := by
    unfold slotC
    rw [if_neg (by simp [w9, Slot.kind]), if_neg (by simp [w9, isOf, Slot.kind, Va.num, Va.data]), if_neg (by simp [w9, badOf, Slot.kind, Va.parts, within, Slot.least, Slot.most]), if_pos (by rfl)]
    rfl
  rw [hs, chk_deep F U n l v d' (d + 1)]
  have hi : (itemsGo (fun y => chk F U n l y (d + 1)) [v]).2.2 = (chk F U n l v (d + 1)).2.2 := by
    simp only [itemsGo]
    by_cases hz : (chk F U n l v (d + 1)).2.2 = 0
    · rw [if_neg (by simp [hz]), hz]
    · rw [if_pos hz]
  rw [← hi]
  generalize itemsGo (fun y => chk F U n l y (d + 1)) [v] = q
  by_cases hz : q.2.2 = 0
  · rw [if_neg (by simp [hz]), hz]
  · rw [if_pos hz]
/-! ### The bytes -/
theorem bytes1 (f : Ep.Fd) (h1 : 1 ≤ f.no) (h2 : f.no ≤ 536870911) (h3 : f.ty = 2) (h4 : f.num = 0) (h5 : (Ep.one f).length ≤ 4194304) : Ep.enc [f] = Ep.one f := by
  have hb : Ep.bytes [f] = Ep.one f := by simp [Ep.bytes]
  have hd : f.data.length ≤ (Ep.one f).length := by unfold Ep.one; rw [h3]; simp; omega
  unfold Ep.enc
  rw [if_pos, hb]
  unfold Ep.encE
  have hw : Ep.wrong f 0 = 0 := by unfold Ep.wrong; rw [if_neg (by omega), if_pos h3, if_neg (by omega)]
  rw [if_neg (by simp), if_neg (by simp [Ep.errGo, hw]), if_neg (by simp [Ep.sumL]; omega), if_neg (by rw [hb]; omega)]
theorem encW_succ (n : Nat) (s : List Slot) (x : Va) : encW (n + 1) s x = Ep.enc (List.zipWith (fdW (encW n)) s x.parts) := rfl
theorem enc8 (n : Nat) (no : Int) (l : List Slot) (v : Va) (h1 : 1 ≤ no) (h2 : no ≤ 536870911) (h3 : sz (8 * no.toNat + 2) + fr (encW n l v).length ≤ 4194304) :
    encW (n + 1) [w8 no l] (.mk 0 [] [v]) = num (8 * no.toNat + 2) ++ (num (encW n l v).length ++ encW n l v) := by
  have hf : fdW (encW n) (w8 no l) v = ⟨no, 2, 0, encW n l v⟩ := by
    unfold fdW
    simp [w8, Slot.no, Slot.kind, wt, numW, datW, Slot.sub]
  have ho : Ep.one ⟨no, 2, 0, encW n l v⟩ = num (8 * no.toNat + 2) ++ (num (encW n l v).length ++ encW n l v) := by simp [Ep.one]
  rw [encW_succ]
  simp only [Va.parts, List.zipWith_cons_cons, List.zipWith_nil_right]
  rw [hf, bytes1 _ h1 h2 rfl rfl, ho]
  rw [ho]
  simp only [List.length_append]
  unfold sz fr at h3
  unfold sz at h3
  omega
theorem enc9 (n : Nat) (no : Int) (l : List Slot) (v : Va) (h1 : 1 ≤ no) (h2 : no ≤ 536870911) (h3 : sz (8 * no.toNat + 2) + fr (fr (encW n l v).length) ≤ 4194304) :
    encW (n + 1) [w9 no l] (.mk 0 [] [.mk 0 [] [v]]) = num (8 * no.toNat + 2) ++ (num (num (encW n l v).length ++ encW n l v).length ++ (num (encW n l v).length ++ encW n l v)) := by
  have hfl : (num (encW n l v).length ++ encW n l v).length = fr (encW n l v).length := by simp [fr, sz]
  have hj : Ep.join [encW n l v] = num (encW n l v).length ++ encW n l v := by
    unfold Ep.join
    rw [if_pos]
    · simp [Ep.jbytes]
    · unfold Ep.joinE
      rw [if_neg (by simp), if_neg]
      simp only [Ep.jsum]
      have : fr (encW n l v).length ≤ fr (fr (encW n l v).length) := by unfold fr; omega
      unfold fr at this h3
      omega
  have hf : fdW (encW n) (w9 no l) (.mk 0 [] [v]) = ⟨no, 2, 0, num (encW n l v).length ++ encW n l v⟩ := by
    unfold fdW
    simp only [w9, Slot.no, Slot.kind, wt, numW, datW, Slot.sub, Va.parts, List.map_cons, List.map_nil, hj]
    simp
  have ho : Ep.one ⟨no, 2, 0, num (encW n l v).length ++ encW n l v⟩ = num (8 * no.toNat + 2) ++ (num (num (encW n l v).length ++ encW n l v).length ++ (num (encW n l v).length ++ encW n l v)) := by simp [Ep.one]
  rw [encW_succ]
  simp only [Va.parts, List.zipWith_cons_cons, List.zipWith_nil_right]
  rw [hf, bytes1 _ h1 h2 rfl rfl, ho]
  rw [ho]
  simp only [List.length_append, hfl]
  unfold fr at h3 ⊢
  unfold sz at h3 ⊢
  simp only [List.length_append] at *
  omega
/-! ### Whether it can be -/
theorem ex1 (n : Nat) (t : Slot) : exSpan (n + 1) [t] = (hd t + (exVal (exSpan n) t).1, hd t + (exVal (exSpan n) t).2) := by
  show exGo (exSpan n) [t] = _
  rw [exGo_cons]
  simp [exGo]
theorem ex8 (n : Nat) (no : Int) (l : List Slot) : (exSpan (n + 1) [w8 no l]).2 = sz (8 * no.toNat + 2) + fr (exSpan n l).2 := by
  rw [ex1]
  simp [hd, w8, Slot.no, Slot.kind, wt, exVal, Slot.sub]
theorem ex9 (n : Nat) (no : Int) (l : List Slot) : (exSpan (n + 1) [w9 no l]).2 = sz (8 * no.toNat + 2) + fr (fr (exSpan n l).2) := by
  rw [ex1]
  simp [hd, w9, Slot.no, Slot.kind, wt, exVal, Slot.sub, Slot.most]
theorem can_one (t : Slot) (h : fine t 0 = true) (hn : nest t = true) : canL 6 [t] 256 = canL 5 t.sub 255 := by
  show (if 16 < [t].length then none else canGo (canL 5) [t] 0 256) = _
  rw [if_neg (by simp)]
  unfold canGo
  rw [if_neg (by omega), if_neg (by simp [h]), if_pos hn]
  show (match canL 5 t.sub 255 with | none => none | some q => canGo (canL 5) [] t.no q) = _
  generalize canL 5 t.sub 255 = o
  cases o <;> rfl
theorem can8 (no : Int) (l : List Slot) (h1 : 1 ≤ no) (h2 : no ≤ 536870911) : canL 6 [w8 no l] 256 = canL 5 l 255 :=
  can_one _ (fine_yes (by simp [w8, Slot.no]; omega) (by simp [w8, Slot.no]; omega) (by simp [bnd, w8, Slot.kind, Slot.least, Slot.most])) (by simp [nest, w8, Slot.kind])
theorem can9 (no : Int) (l : List Slot) (h1 : 1 ≤ no) (h2 : no ≤ 536870911) : canL 6 [w9 no l] 256 = canL 5 l 255 :=
  can_one _ (fine_yes (by simp [w9, Slot.no]; omega) (by simp [w9, Slot.no]; omega) (by simp [bnd, w9, Slot.kind, Slot.least, Slot.most])) (by simp [nest, w9, Slot.kind])
theorem out_can (t : Slot) (h : ¬ (1 ≤ t.no ∧ t.no ≤ 536870911)) : canL 6 [t] 256 = none := by
  have hf : fine t 0 = false := by
    by_cases h1 : 1 ≤ t.no
    · exact fine_no2 (by omega)
    · exact fine_no1 (by omega)
  show (if 16 < [t].length then none else canGo (canL 5) [t] 0 256) = _
  rw [if_neg (by simp)]
  unfold canGo
  rw [if_neg (by omega), if_pos hf]
theorem out_valid (n : Nat) (t : Slot) (h : ¬ (1 ≤ t.no ∧ t.no ≤ 536870911)) : valid n [t] = 80 := by
  unfold valid
  rw [if_pos (out_can t h)]
/-- Of the two both can be or neither, else the longest messages are all but too long. -/
theorem both (no : Int) (l : List Slot) (hg : Yk.Good l) (h1 : 1 ≤ no) (h2 : no ≤ 536870911) : (valid 8 [w8 no l] = 0 ∧ valid 8 [w9 no l] = 0) ∨ (valid 8 [w8 no l] ≠ 0 ∧ valid 8 [w9 no l] = valid 8 [w8 no l]) ∨ (valid 8 [w8 no l] = 0 ∧ valid 8 [w9 no l] = 2 ∧ 4194284 < (exSpan 7 l).2) := by
  unfold valid
  rw [can8 no l h1 h2, can9 no l h1 h2, ex8, ex9]
  split
  · exact .inr (.inl ⟨by decide, rfl⟩)
  · have hh : sz (8 * no.toNat + 2) ≤ 5 := sz_le 4 _ (by omega)
    have hr := hg.room
    generalize (exSpan 7 l).2 = m at *
    have s1 : sz m ≤ 4 := sz_le 3 m (by omega)
    have hfm : fr m ≤ 4194308 := by unfold fr; omega
    have s2 : sz (fr m) ≤ 4 := sz_le 3 _ (by omega)
    have hf2 : fr (fr m) = sz (fr m) + fr m := rfl
    have hf1 : fr m = sz m + m := rfl
    by_cases h8 : 4194304 < sz (8 * no.toNat + 2) + fr m
    · rw [if_pos h8, if_pos (by omega)]
      exact .inr (.inl ⟨by decide, rfl⟩)
    · rw [if_neg h8]
      by_cases h9 : 4194304 < sz (8 * no.toNat + 2) + fr (fr m)
      · rw [if_pos h9]
        exact .inr (.inr ⟨rfl, rfl, by omega⟩)
      · rw [if_neg h9]
        exact .inl ⟨rfl, rfl⟩
end Go.Proofs.YtinngljphjdpoaaDoor.Yw
