/- From a walk to a law's row: arguments opened to bytes and numbers; the law's post out of a walk that answers true and leaves all old memory as it was. No program in sight; no conditions. -/
import Derived.Test.YtpfckpaokoifhaaGreatDoorPa
import Derived.ProofKit
import Derived.OpenShut
import Derived.ShutString
import Derived.ChangeOld
import Derived.Below
import Derived.SizedLaws
import Derived.ChangeSlices
import Derived.Test.YtpfckpaokoifhaaGreatDoorPb
namespace Go.Proofs.YtpfckpaokoifhaaGreatDoor.Pl
open Go Go.RowKit Go.ChangeShapes Go.WideShapes Go.ChangeAt Go.Proofs.YtpfckpaokoifhaaGreatDoor.Pa Go.Proofs.YtpfckpaokoifhaaGreatDoor.Pb

section
variable {H : Type} {enc : TypeId × Value → H} {P : Program}

/-- What reads still reads behind a call that leaves old memory as it was. -/
theorem trodAll_below (hl : laidOutB P = true) {W W' : World} (hb : Below W.heap.size W W') : ∀ (ts : List TypeId) (vs : List Value) (ds : List (DataW H)) (p : List MemPlace), ts.all (fun t => P.readableRec t && decide (t < P.types.size)) = true →
    DataW.TrodAll enc P W 0 (fun _ => true) true ts vs ds p → DataW.TrodAll enc P W' 0 (fun b => decide (b < W.heap.size)) true ts vs ds p
  | [], vs, ds, p, _, h => by
    obtain ⟨rfl, rfl, rfl⟩ := trodAll_nil h
    exact trodAll_mk0
  | t :: ts, vs, ds, p, ha, h => by
    obtain ⟨v0, vs0, d0, ds0, p0, q0, rfl, rfl, rfl, h0, r0⟩ := trodAll_cons h
    simp only [List.all_cons, Bool.and_eq_true, decide_eq_true_eq] at ha
    obtain ⟨⟨h1, h2⟩, h3⟩ := ha
    have hlt : ∀ x ∈ p0, x.block < W.heap.size := by
      obtain ⟨m, hm⟩ := h0
      exact DataW.trod_lt m _ _ _ hm
    exact trodAll_cons_mk (Below.trod hl h1 h2 h0 hb hlt) (trodAll_below hl hb ts vs0 ds0 q0 h3 r0)

theorem post_of_below {fn : Func} {s : ChangeSpec} {W W' : World} {args : Array Value} {ds gs : List (DataW H)} {before : List MemPlace} {tb : TypeId} (hW : DataW.Whole enc P fn.params.toList s.vars false W args.toList ds gs before)
    (hvars : s.vars = []) (hres : fn.resultTypes = #[tb]) (htb : P.underlying tb = some .bool) (hspec : s.fn H (ds ++ gs) = { results := [.lit (.bool true)], args := ds, vars := [] }) (hl : laidOutB P = true)
    (hall : fn.params.toList.all (fun t => P.readableRec t && decide (t < P.types.size)) = true) (hb : Below W.heap.size W W') : s.post enc P fn false true false false W args (.bool true) W' := by
  have hW0 := hW
  obtain ⟨p, q, hA, hV, rfl, hfz, hnd⟩ := hW
  refine ⟨ds, gs, _, [], p, [], hW0, ?_, ?_, ?_, hb.frame _, fun h => by cases h⟩
  · rw [hspec, hres]
    exact trodAll_mk1 (shut_bool htb _)
  · rw [hspec]
    exact trodAll_below hl hb _ _ _ _ hall hA
  · rw [hspec, hvars]
    rfl

variable {w : World} {base : Nat} {spare : Nat → Bool} {held : Bool} {fuel : Nat} {t e : TypeId} {cs : List Value} {x : DataW H × List MemPlace}
/-- An array of bytes. -/
theorem open_bytes {n : Nat} (ht : P.underlying t = some (.array n e)) (he : P.underlying e = some (.int .u8)) (hc : P.cellsOf e = 1) (hct : P.cellsOf t = n) (h : DataW.trod enc P w base spare held fuel t cs = some x) :
    ∃ k : Vector UInt8 n, cs = (bv k).toList := by
  obtain ⟨xs, m, _, _, hlen, hxl, hi⟩ := DataW.trod_array ht h
  rw [hct] at hlen
  have hcell : ∀ i (hi : i < n), ∃ b : UInt8, cs[i]'(by omega) = .int .u8 (b.toNat : Int) := by
    intro i hin
    have h1 := hi i hin
    rw [hc, Nat.mul_one, List.drop_eq_getElem_cons (by omega), List.getElem?_eq_getElem (by omega)] at h1
    simp only [List.take_succ_cons, List.take_zero] at h1
    obtain ⟨z, hz, _, hw⟩ := DataW.trod_int he h1
    have hz' : cs[i]'(by omega) = .int .u8 z := by simpa using hz
    have hb := bounds_u8 hw
    refine ⟨UInt8.ofNat z.toNat, ?_⟩
    rw [hz']
    have : (UInt8.ofNat z.toNat).toNat = z.toNat := by simp; omega
    rw [this]
    congr 1
    omega
  let g : Value → UInt8 := fun | .int _ z => UInt8.ofNat z.toNat | _ => 0
  refine ⟨⟨(cs.map g).toArray, by simp [hlen]⟩, ?_⟩
  apply List.ext_getElem
  · simp [bv]
  · intro i h1 h2
    obtain ⟨b, hb⟩ := hcell i (by omega)
    simp [bv, hb, g]
/-- Parts of a list, joined again. -/
theorem split_on (cs : List Value) (o n : Nat) : cs.drop o = (cs.drop o).take n ++ cs.drop (o + n) := by
  rw [← List.drop_drop, List.take_append_drop]
theorem split_end (cs : List Value) (o n : Nat) (h : cs.length = o + n) : cs.drop o = (cs.drop o).take n := by
  rw [List.take_of_length_le]; simp [h]
theorem agg_of_list {v : Value} {c : Array Value} {cs : Array Value} (hv : v = .agg cs) (h : cs.toList = c.toList) : v = .agg c := by
  rw [hv, Array.toList_inj.1 h]
theorem okWide_arr {n : Nat} {r : Reach} {v : Value} (ht : P.underlying t = some (.array n e)) (h : Value.okWide P w r base t v) : ∃ cs, v = .agg cs := by
  simp only [Value.okWide, ht] at h
  obtain ⟨cs, h1, _⟩ := h
  exact ⟨cs, h1⟩
/-- A slice of bytes that came in: what it reads as, and how long it may be. -/
theorem open_u8s {W : World} {v : Value} {d : DataW H} {ps : List MemPlace} {r : Reach} {b0 : Nat} {ts : List TypeId} {ds : List (DataW H)} {j : Nat} (ht : P.underlying t = some (.slice e)) (he : P.underlying e = some (.int .u8)) (hc : P.cellsOf e = 1) (hby : P.bytesOf e = 1)
    (hv : Value.okWide P W r b0 t v) (h : DataW.Trod enc P W base spare held t v d ps) (hsz : (DataW.weightsEach P ts ds).all (· ≤ reachBytes) = true) (htj : ts[j]? = some t) (hdj : ds[j]? = some d) :
    ∃ l : List UInt8, Rd W v l ∧ l.length ≤ 140737488351232 := by
  obtain ⟨a, len, cap, rfl⟩ := okWide_slice ht hv
  obtain ⟨fuel, hf⟩ := h
  rcases open_ints ht he hc hf with ⟨hcs, _⟩ | ⟨x, n, c, zs, hcs, _, hl, hm, hz, hx, hcell, hwf⟩
  · simp [Value.cells] at hcs
    obtain ⟨rfl, rfl, rfl⟩ := hcs
    exact ⟨[], Rd.nil W, by simp⟩
  · simp [Value.cells] at hcs
    obtain ⟨rfl, rfl, rfl⟩ := hcs
    obtain ⟨hx, _⟩ := Prod.mk.inj hx
    subst hx
    have z := sized_slice hsz htj hdj ht
    rw [hby, Nat.mul_one] at z
    have hlz : len ≤ zs.length := by rw [hz]; split <;> omega
    simp [lits, Nat.min_eq_left hlz] at z
    have hrb : reachBytes = 140737488351232 := rfl
    refine ⟨(zs.take len).map fun z => UInt8.ofNat z.toNat, ⟨some x, cap, by simp [Nat.min_eq_left hlz], by simp; omega, hm, fun _ => ⟨x, rfl, fun i u hu => ?_⟩⟩, by simp; omega⟩
    have hi : i < len := by
      have := (List.getElem?_eq_some_iff.1 hu).1
      simp at this
      omega
    have hcl := hcell i (by omega)
    rw [hcl, ← hu]
    have hiz : i < zs.length := by omega
    have hw := bounds_u8 (hwf zs[i] (List.getElem_mem hiz))
    simp only [cb, List.map_map, List.getElem?_map, List.getElem?_take, if_pos hi, List.getElem?_eq_getElem hiz, Option.map_some, Function.comp_apply, List.getD_eq_getElem?_getD, Option.getD_some]
    congr 2
    have : (UInt8.ofNat (zs[i]).toNat).toNat = (zs[i]).toNat := by simp; omega
    rw [this]
    omega
end
end Go.Proofs.YtpfckpaokoifhaaGreatDoor.Pl
