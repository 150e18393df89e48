/- The walks of the two functions Offer and of the law AgreeOffers. -/
import Derived.Test.YtdnblgdakkbjbaaTy
namespace Go.Proofs.Ytdnblgdakkbjbaa.Offers
open Go Go.RowKit Go.Proofs.Ytdnblgdakkbjbaa.Pa Go.Proofs.Ytdnblgdakkbjbaa.Ty

def made (A B C : Pair) (h : Bool) : Bundle := ⟨A.Public, B.Public, if h then C.Public else Vector.replicate 32 0, h⟩

set_option maxRecDepth 100000 in
theorem offer (A B C : Pair) (h : Bool) (w : World) :
    Calls Try.prog 4 #[.agg A.c, .agg B.c, .agg C.c, .bool h] w fun e w' => e = .returned (.agg (made A B C h).c) ∧ Below w.heap.size w w' := by
  cases h
  all_goals
    go_enter Try.func4, Try.ntmps4
    go_wp2
    refine ret_row Try.results4 Try.underlying29 rfl (riBundle (made A B C _)) rfl (by simp [go_sem, made, Bundle.zero]; exact ⟨rfl, rfl⟩) rfl ⟨rfl, ?_⟩
    repeat (first | exact Below.refl _ _ | refine Below.alloc ?_ (by simp; try omega) _)

set_option maxRecDepth 100000 in
theorem refOffer (A B C : Pair) (h : Bool) (w : World) :
    Calls Try.prog 5 #[.agg A.c, .agg B.c, .agg C.c, .bool h] w fun e w' => e = .returned (.agg (made A B C h).c) ∧ Below w.heap.size w w' := by
  cases h
  all_goals
    go_enter Try.func5, Try.ntmps5
    go_wp2
    refine ret_row Try.results5 Try.underlying29 rfl (riBundle (made A B C _)) rfl (by simp [go_sem, made, Bundle.zero]; exact ⟨rfl, rfl⟩) rfl ⟨rfl, ?_⟩
    repeat (first | exact Below.refl _ _ | refine Below.alloc ?_ (by simp; try omega) _)

/-- The law's own block, kept. -/
def Kept (w : World) (p : Pairs) (W : World) : Prop := Below w.heap.size w W ∧ hp W w.heap.size = some (.cells p.c 27)
theorem Kept.on {w : World} {p : Pairs} {W W' : World} (h : Kept w p W) (hb : Below W.heap.size W W') : Kept w p W' := by
  have hlt : w.heap.size < W.heap.size := by
    rcases Nat.lt_or_ge w.heap.size W.heap.size with h1 | h1
    · exact h1
    · have := h.2; unfold hp at this; rw [Array.getElem?_eq_none h1] at this; cases this
  exact ⟨h.1.trans (hb.mono h.1.size), (hb.hp _ hlt).trans h.2⟩

set_option maxRecDepth 100000 in
theorem walk (p : Pairs) (w : World) :
    Calls Try.prog 3 #[.agg p.c] w fun e w' => e = .returned (.bool true) ∧ Below w.heap.size w w' := by
  go_enter Try.func3, Try.ntmps3
  go_wp2_with fail
  refine wp_region_calm (S := Kept w p) (by kernel_rfl) (by kernel_rfl) ⟨((Below.refl _ _).alloc (by simp) _).drew, by simp [go_sem]⟩ ?_
  intro hN
  have hF : ∀ u : Held (Kept w p), hp u.w w.heap.size = some (.cells p.c 27) := fun u => u.h.2
  have hC : ∀ (u : Held (Kept w p)) (i : Nat), u.w.cell? ⟨w.heap.size, i, none⟩ = p.c[i]? := fun u i => hp_cell (hF u) i
  repeat (go_big_quiet_step (first | (go_at_call 4; exact calm_call (offer _ _ _ _ _) (fun w' hs hr => hs.on hr)) | (go_at_call 5; exact calm_call (refOffer _ _ _ _ _) (fun w' hs hr => hs.on hr))))
  refine wpQuiet_nil ?_
  intro u
  have hb := u.h.1
  go_wp2
  go_ret
  exact ⟨rfl, hb⟩
end Go.Proofs.Ytdnblgdakkbjbaa.Offers
