/- Arguments of those types, opened: what reads as such a datum is made of such cells. No conditions. -/
import Derived.Test.YtdnblgdakkbjbaaTy
import Derived.Test.YtdnblgdakkbjbaaPl
namespace Go.Proofs.Ytdnblgdakkbjbaa.Ty
open Go Go.RowKit Go.ChangeShapes Go.WideShapes Go.ChangeAt Go.Proofs.Ytdnblgdakkbjbaa.Pa Go.Proofs.Ytdnblgdakkbjbaa.Pl
set_option linter.unusedSimpArgs false
set_option linter.unusedVariables false

theorem opKey {H : Type} {enc : TypeId × Value → H} {w : World} {base : Nat} {spare : Nat → Bool} {held : Bool} {fuel : Nat} {cs : List Value} {x : DataW H × List MemPlace} (h : DataW.trod enc Try.prog w base spare held fuel 23 cs = some x) : ∃ k : Vector UInt8 32, cs = (bv k).toList :=
  open_bytes Try.underlying23 Try.underlying5 (by kernel_rfl) (by kernel_rfl) h
theorem ovKey {H : Type} {enc : TypeId × Value → H} {w : World} {base b0 : Nat} {r : Reach} {spare : Nat → Bool} {held : Bool} {v : Value} {d : DataW H} {ps : List MemPlace} (hv : Value.okWide Try.prog w r b0 23 v) (h : DataW.Trod enc Try.prog w base spare held 23 v d ps) : ∃ k : Vector UInt8 32, v = .agg (bv k) := by
  obtain ⟨cs, rfl⟩ := okWide_arr Try.underlying23 hv
  obtain ⟨m, hm⟩ := h
  obtain ⟨k, hk⟩ := opKey hm
  exact ⟨k, agg_of_list rfl (by simpa [Value.cells] using hk)⟩
theorem opPair {H : Type} {enc : TypeId × Value → H} {w : World} {base : Nat} {spare : Nat → Bool} {held : Bool} {fuel : Nat} {cs : List Value} {x : DataW H × List MemPlace} (h : DataW.trod enc Try.prog w base spare held fuel 25 cs = some x) : ∃ p : Pair, cs = p.c.toList := by
  obtain ⟨xs, m, _, _, hlen, hxl, hi⟩ := DataW.trod_struct Try.underlying25 h
  rw [show Try.prog.cellsOf 25 = 64 from by kernel_rfl] at hlen
  simp only [List.size_toArray, List.length_cons, List.length_nil] at hxl
  have g0 : DataW.trod enc Try.prog w base spare held m 23 ((cs.drop 0).take (Try.prog.cellsOf 23)) = some (xs[0]'(by omega)) := (hi 0 _ rfl).trans (List.getElem?_eq_getElem (by omega))
  rw [show Try.prog.cellsOf 23 = 32 from by kernel_rfl] at g0
  obtain ⟨f0, e0⟩ := opKey g0
  have g1 : DataW.trod enc Try.prog w base spare held m 23 ((cs.drop 32).take (Try.prog.cellsOf 23)) = some (xs[1]'(by omega)) := (hi 1 _ rfl).trans (List.getElem?_eq_getElem (by omega))
  rw [show Try.prog.cellsOf 23 = 32 from by kernel_rfl] at g1
  obtain ⟨f1, e1⟩ := opKey g1
  refine ⟨⟨f0, f1⟩, ?_⟩
  rw [← List.drop_zero (l := cs)]
  rw [split_on cs 0 32, e0]
  rw [show 0 + 32 = 32 from rfl]
  rw [split_end cs 32 32 (by omega), e1]
  simp [Pair.c, o1, Array.toList_append]
theorem ovPair {H : Type} {enc : TypeId × Value → H} {w : World} {base b0 : Nat} {r : Reach} {spare : Nat → Bool} {held : Bool} {v : Value} {d : DataW H} {ps : List MemPlace} (hv : Value.okWide Try.prog w r b0 25 v) (h : DataW.Trod enc Try.prog w base spare held 25 v d ps) : ∃ p : Pair, v = .agg p.c := by
  obtain ⟨cs, rfl, _⟩ := okWide_struct Try.underlying25 hv
  obtain ⟨m, hm⟩ := h
  obtain ⟨p, hp⟩ := opPair hm
  exact ⟨p, agg_of_list rfl (by simpa [Value.cells] using hp)⟩
theorem opPairs {H : Type} {enc : TypeId × Value → H} {w : World} {base : Nat} {spare : Nat → Bool} {held : Bool} {fuel : Nat} {cs : List Value} {x : DataW H × List MemPlace} (h : DataW.trod enc Try.prog w base spare held fuel 27 cs = some x) : ∃ p : Pairs, cs = p.c.toList := by
  obtain ⟨xs, m, _, _, hlen, hxl, hi⟩ := DataW.trod_struct Try.underlying27 h
  rw [show Try.prog.cellsOf 27 = 193 from by kernel_rfl] at hlen
  simp only [List.size_toArray, List.length_cons, List.length_nil] at hxl
  have g0 : DataW.trod enc Try.prog w base spare held m 25 ((cs.drop 0).take (Try.prog.cellsOf 25)) = some (xs[0]'(by omega)) := (hi 0 _ rfl).trans (List.getElem?_eq_getElem (by omega))
  rw [show Try.prog.cellsOf 25 = 64 from by kernel_rfl] at g0
  obtain ⟨f0, e0⟩ := opPair g0
  have g1 : DataW.trod enc Try.prog w base spare held m 25 ((cs.drop 64).take (Try.prog.cellsOf 25)) = some (xs[1]'(by omega)) := (hi 1 _ rfl).trans (List.getElem?_eq_getElem (by omega))
  rw [show Try.prog.cellsOf 25 = 64 from by kernel_rfl] at g1
  obtain ⟨f1, e1⟩ := opPair g1
  have g2 : DataW.trod enc Try.prog w base spare held m 25 ((cs.drop 128).take (Try.prog.cellsOf 25)) = some (xs[2]'(by omega)) := (hi 2 _ rfl).trans (List.getElem?_eq_getElem (by omega))
  rw [show Try.prog.cellsOf 25 = 64 from by kernel_rfl] at g2
  obtain ⟨f2, e2⟩ := opPair g2
  have g3 : DataW.trod enc Try.prog w base spare held m 4 ((cs.drop 192).take (Try.prog.cellsOf 4)) = some (xs[3]'(by omega)) := (hi 3 _ rfl).trans (List.getElem?_eq_getElem (by omega))
  rw [show Try.prog.cellsOf 4 = 1 from by kernel_rfl] at g3
  obtain ⟨f3, e3, _⟩ := DataW.trod_bool Try.underlying4 g3
  refine ⟨⟨f0, f1, f2, f3⟩, ?_⟩
  rw [← List.drop_zero (l := cs)]
  rw [split_on cs 0 64, e0]
  rw [show 0 + 64 = 64 from rfl]
  rw [split_on cs 64 64, e1]
  rw [show 64 + 64 = 128 from rfl]
  rw [split_on cs 128 64, e2]
  rw [show 128 + 64 = 192 from rfl]
  rw [split_end cs 192 1 (by omega), e3]
  simp [Pairs.c, o1, Array.toList_append]
theorem ovPairs {H : Type} {enc : TypeId × Value → H} {w : World} {base b0 : Nat} {r : Reach} {spare : Nat → Bool} {held : Bool} {v : Value} {d : DataW H} {ps : List MemPlace} (hv : Value.okWide Try.prog w r b0 27 v) (h : DataW.Trod enc Try.prog w base spare held 27 v d ps) : ∃ p : Pairs, v = .agg p.c := by
  obtain ⟨cs, rfl, _⟩ := okWide_struct Try.underlying27 hv
  obtain ⟨m, hm⟩ := h
  obtain ⟨p, hp⟩ := opPairs hm
  exact ⟨p, agg_of_list rfl (by simpa [Value.cells] using hp)⟩
theorem opBundle {H : Type} {enc : TypeId × Value → H} {w : World} {base : Nat} {spare : Nat → Bool} {held : Bool} {fuel : Nat} {cs : List Value} {x : DataW H × List MemPlace} (h : DataW.trod enc Try.prog w base spare held fuel 29 cs = some x) : ∃ p : Bundle, cs = p.c.toList := by
  obtain ⟨xs, m, _, _, hlen, hxl, hi⟩ := DataW.trod_struct Try.underlying29 h
  rw [show Try.prog.cellsOf 29 = 97 from by kernel_rfl] at hlen
  simp only [List.size_toArray, List.length_cons, List.length_nil] at hxl
  have g0 : DataW.trod enc Try.prog w base spare held m 23 ((cs.drop 0).take (Try.prog.cellsOf 23)) = some (xs[0]'(by omega)) := (hi 0 _ rfl).trans (List.getElem?_eq_getElem (by omega))
  rw [show Try.prog.cellsOf 23 = 32 from by kernel_rfl] at g0
  obtain ⟨f0, e0⟩ := opKey g0
  have g1 : DataW.trod enc Try.prog w base spare held m 23 ((cs.drop 32).take (Try.prog.cellsOf 23)) = some (xs[1]'(by omega)) := (hi 1 _ rfl).trans (List.getElem?_eq_getElem (by omega))
  rw [show Try.prog.cellsOf 23 = 32 from by kernel_rfl] at g1
  obtain ⟨f1, e1⟩ := opKey g1
  have g2 : DataW.trod enc Try.prog w base spare held m 23 ((cs.drop 64).take (Try.prog.cellsOf 23)) = some (xs[2]'(by omega)) := (hi 2 _ rfl).trans (List.getElem?_eq_getElem (by omega))
  rw [show Try.prog.cellsOf 23 = 32 from by kernel_rfl] at g2
  obtain ⟨f2, e2⟩ := opKey g2
  have g3 : DataW.trod enc Try.prog w base spare held m 4 ((cs.drop 96).take (Try.prog.cellsOf 4)) = some (xs[3]'(by omega)) := (hi 3 _ rfl).trans (List.getElem?_eq_getElem (by omega))
  rw [show Try.prog.cellsOf 4 = 1 from by kernel_rfl] at g3
  obtain ⟨f3, e3, _⟩ := DataW.trod_bool Try.underlying4 g3
  refine ⟨⟨f0, f1, f2, f3⟩, ?_⟩
  rw [← List.drop_zero (l := cs)]
  rw [split_on cs 0 32, e0]
  rw [show 0 + 32 = 32 from rfl]
  rw [split_on cs 32 32, e1]
  rw [show 32 + 32 = 64 from rfl]
  rw [split_on cs 64 32, e2]
  rw [show 64 + 32 = 96 from rfl]
  rw [split_end cs 96 1 (by omega), e3]
  simp [Bundle.c, o1, Array.toList_append]
theorem ovBundle {H : Type} {enc : TypeId × Value → H} {w : World} {base b0 : Nat} {r : Reach} {spare : Nat → Bool} {held : Bool} {v : Value} {d : DataW H} {ps : List MemPlace} (hv : Value.okWide Try.prog w r b0 29 v) (h : DataW.Trod enc Try.prog w base spare held 29 v d ps) : ∃ p : Bundle, v = .agg p.c := by
  obtain ⟨cs, rfl, _⟩ := okWide_struct Try.underlying29 hv
  obtain ⟨m, hm⟩ := h
  obtain ⟨p, hp⟩ := opBundle hm
  exact ⟨p, agg_of_list rfl (by simpa [Value.cells] using hp)⟩
end Go.Proofs.Ytdnblgdakkbjbaa.Ty
