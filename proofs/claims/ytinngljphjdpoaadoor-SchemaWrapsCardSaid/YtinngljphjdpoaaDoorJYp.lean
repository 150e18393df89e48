/- Put, and rows of one. -/
import Derived.Test.YtinngljphjdpoaaDoorJYw
import Derived.Test.YtinngljphjdpoaaDoorJEb
namespace Go.Proofs.YtinngljphjdpoaaDoor.Yp
open Go Go.RowKit Go.Proofs.YtinngljphjdpoaaDoor Go.Proofs.YtinngljphjdpoaaDoor.Pa Go.Proofs.YtinngljphjdpoaaDoor.Pb Go.Proofs.YtinngljphjdpoaaDoor.Pc Go.Proofs.YtinngljphjdpoaaDoor.Pf Go.Proofs.YtinngljphjdpoaaDoor.Nz Go.Proofs.YtinngljphjdpoaaDoor.Sc Go.Proofs.YtinngljphjdpoaaDoor.Rs Go.Proofs.YtinngljphjdpoaaDoor.Ea Go.Proofs.YtinngljphjdpoaaDoor.Hx Go.Proofs.YtinngljphjdpoaaDoor.Vu Go.Proofs.YtinngljphjdpoaaDoor.Vo Go.Proofs.YtinngljphjdpoaaDoor.Ce Go.Proofs.YtinngljphjdpoaaDoor.Yw
set_option linter.unusedVariables false
set_option linter.unusedSimpArgs false
theorem add0' (g k : Nat) : (⟨g, 0, none⟩ : Addr).add k = ⟨g, k, none⟩ := by unfold Addr.add; split <;> simp_all
theorem rds_one {w : World} {n g : Nat} {T : TypeId} {sv : Value} (t : Slot) (hw : WfS t) (hg : Pa.hp w g = some (.cells #[.int .i64 t.no, .int .i64 t.kind, .int .u64 (t.least : Int), .int .u64 (t.most : Int), sv] T (0, 0))) (hs : RdS w n sv t.sub) : RdS w (n + 1) (.slice (some ⟨g, 0, none⟩) 1 1) [t] := by
  refine ⟨_, 1, rfl, by simp, by simp [maxLen], fun _ => ⟨_, rfl, fun i u hu => ?_⟩⟩
  have c := fun k => hp_cell hg k
  rw [add0']
  rcases i with _ | i
  · obtain rfl : u = t := by simpa using hu.symm
    exact ⟨hw, sv, ⟨c 0, c 1, c 2, c 3, c 4⟩, hs⟩
  · simp at hu
theorem rdv_one {w : World} {m g : Nat} {T : TypeId} {nv dv pv : Value} {x : Va} (hg : Pa.hp w g = some (.cells #[nv, dv, pv] T (0, 0))) (hx : RdV w m nv dv pv x) : RdV w (m + 1) (.int .u64 0) (.slice none 0 0) (.slice (some ⟨g, 0, none⟩) 1 1) (.mk 0 [] [x]) := by
  obtain ⟨hn, rfl, hd, hp⟩ := hx
  have c := fun k => hp_cell hg k
  refine ⟨by simp [Va.num], rfl, Rd.nil w, ⟨_, 1, rfl, by simp [Va.parts], by simp [maxLen], fun _ => ⟨_, rfl, fun i y hy => ?_⟩⟩⟩
  simp only [add0']
  rcases i with _ | i
  · obtain rfl : y = x := by simpa [Va.parts] using hy.symm
    exact ⟨hn, _, _, c 0, c 1, c 2, hd, hp⟩
  · simp [Va.parts] at hy
theorem few_one {m : Nat} {x : Va} (h : FewV m x) : FewV (m + 1) (.mk 0 [] [x]) := ⟨by simp [Va.data], by simp [Va.parts], fun y hy => by
  obtain rfl : y = x := by simpa [Va.parts] using hy
  exact h⟩
set_option maxRecDepth 100000 in
/-- Put of nil and a number. -/
theorem put (n : Nat) (hn : n < 18446744073709551616) (w : World) : Calls Tryd.prog 22 #[.slice none 0 0, .int .u64 n] w fun e w' => ∃ A c, e = .returned (.slice A (num n).length c) ∧ Pb.Own w' w.heap.size 5 (.slice A (num n).length c) (num n) ∧ Below w.heap.size w w' := by
  have h0 : Pb.Own w w.heap.size 5 (.slice none 0 0) [] := World.ownsRow_nil _ _ _ _
  obtain ⟨v1, w1, hap, ho1, hgr⟩ := Eb.run_appX Nm.u8 24 h0 (Rd.nil w) (Nat.le_refl _) (by simp)
  simp only [List.append_nil] at ho1
  have hb1 := hgr.toBelow h0 (Nat.le_refl _)
  have AD := Lib.hid (add v1 [] n hn w1 ho1 hb1.size (by simp))
  have HO1 := Lib.hid ho1; have HB1 := Lib.hid hb1
  clear h0 ho1 hgr hb1
  go_enter Tryd.func22, Tryd.ntmps22
  go_wp2_with (go_at_call 9999)
  go_at_call 37
  refine AD.out.mono ?_
  rintro _ w2 ⟨v2, rfl, ho2, gr2⟩
  simp only [List.nil_append] at ho2
  have hb2 : Below w.heap.size w w2 := HB1.out.trans (gr2.toBelow HO1.out HB1.out.size)
  obtain ⟨A2, c2, rfl⟩ := ho2.slice
  have HB2 := Lib.hid hb2; have HO2 := Lib.hid ho2
  clear ho2 hb2 gr2 hap
  go_wp2_with fail
  go_ret
  exact ⟨A2, c2, rfl, HO2.out, HB2.out⟩
end Go.Proofs.YtinngljphjdpoaaDoor.Yp
