/- The reference's twin: a schema in new memory. -/
import Derived.Test.YtinngljphjdpoaaGreatDoorJCd
import Derived.Test.YtinngljphjdpoaaGreatDoorJEu
import Derived.Test.YtinngljphjdpoaaGreatDoorJRq
namespace Go.Proofs.YtinngljphjdpoaaGreatDoor.Tw
open Go Go.RowKit Go.Proofs.YtinngljphjdpoaaGreatDoor.Pa Go.Proofs.YtinngljphjdpoaaGreatDoor.Pb Go.Proofs.YtinngljphjdpoaaGreatDoor.Pf Go.Proofs.YtinngljphjdpoaaGreatDoor.Sc Go.Proofs.YtinngljphjdpoaaGreatDoor.Rs Go.Proofs.YtinngljphjdpoaaGreatDoor.Hs Go.Proofs.YtinngljphjdpoaaGreatDoor.Va Go.Proofs.YtinngljphjdpoaaGreatDoor.Vc Go.Proofs.YtinngljphjdpoaaGreatDoor.Vd Go.Proofs.YtinngljphjdpoaaGreatDoor.Ca Go.Proofs.YtinngljphjdpoaaGreatDoor.Cb Go.Proofs.YtinngljphjdpoaaGreatDoor.Cc Go.Proofs.YtinngljphjdpoaaGreatDoor.Ce
set_option linter.unusedVariables false
set_option linter.unusedSimpArgs false
/-- The slice v reads as the slots l, in blocks of S. -/
def Tw (w : World) (S : Pl) : Nat → Value → List Slot → Prop
  | 0, _, _ => False
  | n + 1, v, l => ∃ (A : Option Addr) (c : Nat), v = .slice A l.length c ∧ l.length ≤ c ∧ c ≤ maxLen ∧
      (0 < l.length → ∃ b, A = some ⟨b, 0, none⟩ ∧ S b ∧ ∀ i t, l[i]? = some t → WfS t ∧ ∃ sv, SlotAt w ⟨b, i * 5, none⟩ t sv ∧ Tw w S n sv t.sub)
theorem Tw.rd {w : World} {S : Pl} : ∀ (n : Nat) (v : Value) (l : List Slot), Tw w S n v l → RdS w n v l
  | 0, _, _, h => h.elim
  | n + 1, v, l, h => by
    obtain ⟨A, c, e, h1, h2, h3⟩ := h
    refine ⟨A, c, e, h1, h2, fun h0 => ?_⟩
    obtain ⟨b, hA, hb, hc⟩ := h3 h0
    refine ⟨_, hA, fun i t ht => ?_⟩
    obtain ⟨g0, sv, g1, g2⟩ := hc i t ht
    exact ⟨g0, sv, by rw [add0]; exact g1, Tw.rd n sv t.sub g2⟩
theorem Tw.keep {w w' : World} {S S' : Pl} (hS : ∀ b, S b → S' b) (hk : ∀ b, S b → b < w.heap.size → w'.heap[b]? = w.heap[b]?) : ∀ (n : Nat) (v : Value) (l : List Slot), Tw w S n v l → Tw w' S' n v l
  | 0, _, _, h => h.elim
  | n + 1, v, l, h => by
    obtain ⟨A, c, e, h1, h2, h3⟩ := h
    refine ⟨A, c, e, h1, h2, fun h0 => ?_⟩
    obtain ⟨b, hA, hb, hc⟩ := h3 h0
    refine ⟨b, hA, hS b hb, fun i t ht => ?_⟩
    obtain ⟨g0, sv, g1, g2⟩ := hc i t ht
    exact ⟨g0, sv, g1.keep (hk b hb g1.lt), Tw.keep hS hk n sv t.sub g2⟩
set_option maxRecDepth 100000 in
theorem slot_info : (Tryz.prog.info? 117).map (fun i => (i.zero, i.size, i.bytes)) = some (some (.agg #[.int .i64 0, .int .i64 0, .int .u64 0, .int .u64 0, .slice none 0 0]), 5, 56) := by kernel_rfl
theorem pushT {w : World} {base : Nat} {A : Option Addr} {i c : Nat} {xs : List Value} (ho : w.ownsRow base 117 5 (.slice A i c) i xs) (hb : base ≤ w.heap.size) (hi : i ≤ 20000) (v0 v1 v2 v3 v4 : Value)
    (h1 : ∀ u ∈ [v0, v1, v2, v3, v4], u.oneCell' = true) :
    ∃ A' c' w', (appX #[22, 22] 22 #[.slice A i c, .slice (some ⟨w.heap.size, 0, none⟩) 1 1]).run Tryz.prog (w.alloc (.cells #[v0, v1, v2, v3, v4] 117)) = .ok (.slice A' (i + 1) c') w' ∧
      w'.ownsRow base 117 5 (.slice A' (i + 1) c') (i + 1) (xs ++ [v0, v1, v2, v3, v4]) ∧ w.heap.size < w'.heap.size ∧ w'.os = w.os ∧ w'.tape = w.tape ∧ w'.output = w.output ∧
      (∀ b, b < w.heap.size → (Value.slice A i c).ownBlock ≠ some b → w'.heap[b]? = w.heap[b]?) ∧ ((Value.slice A' (i + 1) c').ownBlock = (Value.slice A i c).ownBlock ∨ (Value.slice A' (i + 1) c').ownBlock = some (w.heap.size + 1)) := by
  obtain ⟨ti, hi', hzz⟩ := Option.map_eq_some_iff.1 slot_info
  simp only [Prod.mk.injEq] at hzz
  obtain ⟨hz0, hz1, hz2⟩ := hzz
  have hcell : ∀ j u, [v0, v1, v2, v3, v4][j]? = some u → (w.alloc (.cells #[v0, v1, v2, v3, v4] 117)).cell? ((⟨w.heap.size, 0, none⟩ : Addr).add j) = some u := by
    intro j u hu
    have hj := (List.getElem?_eq_some_iff.1 hu).1
    rw [Hs.add0]
    have := hp_cell (hp_alloc_at (.cells #[v0, v1, v2, v3, v4] 117) w.heap.size (w := w) rfl) j
    rw [this]
    simpa using hu
  obtain ⟨v', w', hr, h2, h3, _, h5⟩ := run_append_own_at (P := Tryz.prog) (w.alloc (.cells #[v0, v1, v2, v3, v4] 117)) base 22 22 117 ti _ 5 56 Tryz.underlying22 hi' hz0 hz1 hz2 rfl (by omega)
    (.slice A i c) i xs (ho.alloc _) ⟨w.heap.size, 0, none⟩ 1 1 [v0, v1, v2, v3, v4] rfl hcell h1 (by simp only [maxLen]; omega) (by omega) (by simp; omega)
  have hsl : ∃ A' c', v' = .slice A' (i + 1) c' := by
    rcases h2.2 with ⟨-, h0⟩ | ⟨g, cap, cur, e, -⟩
    · omega
    · exact ⟨_, _, e⟩
  obtain ⟨A', c', rfl⟩ := hsl
  have hz := h3.size
  simp at hz
  refine ⟨A', c', w', hr, h2, by omega, h3.os, h3.tape, h3.output, fun b hb hne => ?_, ?_⟩
  · rw [h3.block b (by simp; omega) (fun e => hne e.symm)]
    exact hp_alloc_past _ _ hb
  · rcases h5 with h | h
    · exact .inl h
    · exact .inr (by simpa using h)
/-- What stands of i slots. -/
structure Ut (w : World) (m : Nat) (g : Nat) (l : List Slot) (i : Nat) (A : Option Addr) (c : Nat) (xs : List Value) : Prop where
  row : w.ownsRow g 117 5 (.slice A i c) i xs
  slot : ∀ j t, l[j]? = some t → j < i → WfS t ∧ ∃ sv, xs[j * 5]? = some (.int .i64 t.no) ∧ xs[j * 5 + 1]? = some (.int .i64 t.kind) ∧ xs[j * 5 + 2]? = some (.int .u64 t.least) ∧ xs[j * 5 + 3]? = some (.int .u64 t.most) ∧ xs[j * 5 + 4]? = some sv ∧
    Tw w (fun b => g ≤ b ∧ b < w.heap.size ∧ (Value.slice A i c).ownBlock ≠ some b) m sv t.sub
theorem Ut.below {w w' : World} {m g : Nat} {l : List Slot} {i : Nat} {A : Option Addr} {c : Nat} {xs : List Value} (h : Ut w m g l i A c xs) (hb : Below w.heap.size w w') : Ut w' m g l i A c xs := by
  refine ⟨h.row.kept (grown_below hb none) (by cases (Value.slice A i c).ownBlock <;> simp), fun j u hu hj => ?_⟩
  obtain ⟨g0, sv, g1, g2, g3, g4, g5, g6⟩ := h.slot j u hu hj
  exact ⟨g0, sv, g1, g2, g3, g4, g5, Tw.keep (fun q hq => ⟨hq.1, Nat.lt_of_lt_of_le hq.2.1 hb.size, hq.2.2⟩) (fun q hq _ => hb.block q hq.2.1) m sv u.sub g6⟩
theorem Ut.step {w w6 w8 : World} {m g : Nat} {l : List Slot} {i : Nat} {A A' : Option Addr} {c c' : Nat} {xs : List Value} (h : Ut w m g l i A c xs) {t : Slot} {sv : Value} (ht : l[i]? = some t) (hwf : WfS t)
    (hgw : g ≤ w.heap.size) (h6 : ∀ k, k < w.heap.size → w6.heap[k]? = w.heap[k]?) (hs6 : w.heap.size ≤ w6.heap.size) (hr : Tw w6 (fun b => w.heap.size ≤ b ∧ b < w6.heap.size) m sv t.sub)
    (h8 : w8.ownsRow g 117 5 (.slice A' (i + 1) c') (i + 1) (xs ++ [.int .i64 t.no, .int .i64 t.kind, .int .u64 t.least, .int .u64 t.most, sv])) (hs8 : w6.heap.size < w8.heap.size)
    (h68 : ∀ b, b < w6.heap.size → (Value.slice A i c).ownBlock ≠ some b → w8.heap[b]? = w6.heap[b]?) (hown : (Value.slice A' (i + 1) c').ownBlock = (Value.slice A i c).ownBlock ∨ (Value.slice A' (i + 1) c').ownBlock = some (w6.heap.size + 1)) :
    Ut w8 m g l (i + 1) A' c' (xs ++ [.int .i64 t.no, .int .i64 t.kind, .int .u64 t.least, .int .u64 t.most, sv]) := by
  have hlen : xs.length = i * 5 := h.row.1
  have ownlt : ∀ k, (Value.slice A i c).ownBlock = some k → g ≤ k ∧ k < w.heap.size := h.row.lt
  have ne' : ∀ b, b < w6.heap.size → (Value.slice A i c).ownBlock ≠ some b → (Value.slice A' (i + 1) c').ownBlock ≠ some b := fun b h1 h2 e => by
    rcases hown with h | h
    · exact h2 (h.symm.trans e)
    · rw [h] at e; simp at e; omega
  refine ⟨h8, fun j u hu hj => ?_⟩
  by_cases hji : j = i
  · subst hji
    obtain rfl : t = u := Option.some.inj (ht.symm.trans hu)
    have e : ∀ q, q < 5 → (xs ++ [.int .i64 t.no, .int .i64 t.kind, .int .u64 t.least, .int .u64 t.most, sv])[j * 5 + q]? = [Value.int .i64 t.no, .int .i64 t.kind, .int .u64 t.least, .int .u64 t.most, sv][q]? := fun q hq => by
      rw [List.getElem?_append_right (by omega)]; congr 1; omega
    refine ⟨hwf, sv, e 0 (by omega), e 1 (by omega), e 2 (by omega), e 3 (by omega), e 4 (by omega), Tw.keep (fun b hb => ⟨by omega, by omega, ne' b hb.2 (fun e => by have := (ownlt b e).2; omega)⟩) (fun b hb _ => h68 b hb.2 (fun e => by have := (ownlt b e).2; omega)) m sv t.sub hr⟩
  · obtain ⟨g0, sv', g1, g2, g3, g4, g5, g6⟩ := h.slot j u hu (by omega)
    have e : ∀ q v, q < 5 → xs[j * 5 + q]? = some v → (xs ++ [.int .i64 t.no, .int .i64 t.kind, .int .u64 t.least, .int .u64 t.most, sv])[j * 5 + q]? = some v := fun q v hq hv => by
      rw [List.getElem?_append_left (by omega)]; exact hv
    exact ⟨g0, sv', e 0 _ (by omega) g1, e 1 _ (by omega) g2, e 2 _ (by omega) g3, e 3 _ (by omega) g4, e 4 _ (by omega) g5, Tw.keep (fun b hb => ⟨hb.1, by omega, ne' b (by omega) hb.2.2⟩) (fun b hb _ => (h68 b (by omega) hb.2.2).trans (h6 b hb.2.1)) m sv' u.sub g6⟩
theorem Ut.done {w0 w : World} {m : Nat} {l : List Slot} {A : Option Addr} {c : Nat} {xs : List Value} (h : Ut w m w0.heap.size l l.length A c xs) : Tw w (Bt w0 w) (m + 1) (.slice A l.length c) l := by
  rcases h.row.2 with ⟨e, h1⟩ | ⟨b, cap, cur, e, hb, hbb, h1, h2, -⟩
  · simp only [Value.slice.injEq] at e
    obtain ⟨rfl, -, rfl⟩ := e
    exact ⟨none, 0, by rw [h1], by omega, by simp [maxLen], fun h0 => by omega⟩
  · simp only [Value.slice.injEq] at e
    obtain ⟨rfl, -, rfl⟩ := e
    have hbl : b < w.heap.size := (Array.getElem?_eq_some_iff.1 hbb).1
    refine ⟨_, c, rfl, h1, h2, fun h0 => ⟨b, rfl, ⟨hb, hbl⟩, fun i t ht => ?_⟩⟩
    have hi : i < l.length := (List.getElem?_eq_some_iff.1 ht).1
    obtain ⟨g0, sv, g1, g2, g3, g4, g5, g6⟩ := h.slot i t ht hi
    have k : ∀ o v, xs[o]? = some v → w.cell? ⟨b, o, none⟩ = some v := fun o v hv => by
      have := World.ownsRow.cells h.row (g := b) rfl o v hv
      rwa [Hs.add0] at this
    exact ⟨g0, sv, ⟨k _ _ g1, k _ _ g2, k _ _ g3, k _ _ g4, k _ _ g5⟩, Tw.keep (fun q hq => ⟨hq.1, hq.2.1⟩) (fun _ _ _ => rfl) m sv t.sub g6⟩
set_option maxHeartbeats 4000000 in
set_option maxRecDepth 100000 in
theorem twin : ∀ (n : Nat) (v : Value) (l : List Slot) (W w : World), RdS W n v l → Few n l → Below W.heap.size W w →
    Calls Tryz.prog 74 #[v] w fun e w' => ∃ v', e = .returned v' ∧ Tw w' (Bt w w') n v' l ∧ Below w.heap.size w w' := by
  intro n
  induction n with
  | zero => exact fun v l W w h _ _ => h.elim
  | succ n ih =>
    intro v l W w h hf hb
    obtain ⟨A, c, rfl, hlc, hcm⟩ := h.slice
    obtain ⟨hlen, hfs⟩ := hf
    clear hlc hcm
    have IH := Lib.hid ih; have H := Lib.hid h; have HF := Lib.hid hfs; clear ih h hfs
    go_enter Tryz.func74, Tryz.ntmps74
    go_wp2_with fail
    go_loopw [3, 4] (fun s u wr => ∃ (i : Nat) (A' : Option Addr) (c' : Nat) (xs : List Value), i ≤ l.length ∧ u = .int .i64 i ∧ s = .slice A' i c' ∧ Ut wr n w.heap.size l i A' c' xs ∧ Below w.heap.size w wr) (fun _ u _ => l.length - (intOf u).toNat)
    case atStart => exact ⟨0, none, 0, [], by omega, rfl, rfl, ⟨World.ownsRow_nil _ _ _ _, fun j t _ hj => absurd hj (by omega)⟩, Below.refl _ _⟩
    case round =>
      obtain ⟨i, A', c', xs, hi, rfl, rfl, hu, hbw⟩ := hrel
      have HU := Lib.hid hu; have HBW := Lib.hid hbw; clear hu hbw
      by_cases hil : i < l.length
      · obtain ⟨ad, rfl, hwf, sv, hsl, hrd⟩ := H.out.at_ i hil
        have hbr : Below W.heap.size W wr := hb.trans (HBW.out.mono hb.size)
        replace hsl := hsl.keep (hbr.block _ hsl.lt)
        obtain ⟨p, hpa⟩ : ∃ p, ad.add (i * 5) = p := ⟨_, rfl⟩
        rw [hpa] at hsl
        have hti : l[i]? = some l[i] := by simp [hil]
        have hft := HF.out l[i] (List.getElem_mem hil)
        generalize l[i] = t at hwf hsl hrd hti hft
        obtain ⟨no, kind, least, most, sub⟩ := t
        obtain ⟨c0, c1, c2, c3, c4⟩ := hsl
        simp only [Slot.no, Slot.kind, Slot.least, Slot.most, Slot.sub] at c0 c1 c2 c3 c4 hrd hft
        obtain ⟨A2, cc2, rfl, hlc2, hcm2⟩ := hrd.slice
        clear hlc2 hcm2
        have HRD := Lib.hid hrd; have HTI := Lib.hid hti; have HWF := Lib.hid hwf; have HBR := Lib.hid hbr; have HFT := Lib.hid hft
        clear hrd hti hwf hbr hft
        go_wp2_with (go_at_call 9999)
        obtain ⟨wx, hwx⟩ : ∃ x, x = wr.alloc (.cells #[.int .i64 no, .int .i64 kind, .int .u64 least, .int .u64 most, .slice A2 sub.length cc2] 117) := ⟨_, rfl⟩
        rw [← hwx]
        have hbx : Below wr.heap.size wr wx := by rw [hwx]; exact (Below.refl _ _).alloc (Nat.le_refl _) _
        have hgx : hp wx wr.heap.size = some (.cells #[.int .i64 no, .int .i64 kind, .int .u64 least, .int .u64 most, .slice A2 sub.length cc2] 117 (0, 0)) := by rw [hwx]; exact hp_alloc_at _ _ rfl
        have hsx : wx.heap.size = wr.heap.size + 1 := by rw [hwx]; simp
        go_at_call 74
        refine (IH.out _ sub W wx HRD.out HFT.out (HBR.out.trans (hbx.mono HBR.out.size))).mono ?_
        rintro _ w6 ⟨v6, rfl, ht6, b6⟩
        obtain ⟨A6, c6, rfl, -⟩ := (Tw.rd n v6 sub ht6).slice
        have hg6 : hp w6 wr.heap.size = some (.cells #[.int .i64 no, .int .i64 kind, .int .u64 least, .int .u64 most, .slice A2 sub.length cc2] 117 (0, 0)) := (b6.hp _ (by omega)).trans hgx
        have hC6 := fun j => hp_cell hg6 j
        have hF6 := fun j => hp_frozen hg6 j
        have hl6 : wr.heap.size < w6.heap.size := by have := b6.size; omega
        have hws := HBW.out.size
        -- the world where the box has the new schema
        have hu6 := (HU.out.below hbx).below b6
        have hcg : Below wr.heap.size wr (w6.setCell ⟨wr.heap.size, 4, none⟩ (.slice A6 sub.length c6)) := (hbx.trans (b6.mono (by omega))).setCell (Nat.le_refl _) _
        have huc := HU.out.below hcg
        obtain ⟨A8, c8, w8, hap, o8, z8, e81, e82, e83, k8, ow8⟩ := pushT huc.row (by have := hcg.size; omega) (by omega) (.int .i64 no) (.int .i64 kind) (.int .u64 least) (.int .u64 most) (.slice A6 sub.length c6) (by
          intro u hu
          simp only [List.mem_cons, List.not_mem_nil, or_false] at hu
          rcases hu with rfl | rfl | rfl | rfl | rfl <;> rfl)
        have hzc : (w6.setCell ⟨wr.heap.size, 4, none⟩ (.slice A6 sub.length c6)).heap.size = w6.heap.size := by simp [World.setCell]
        have hup := HU.out.step (t := .mk no kind least most sub) (w6 := w6.setCell ⟨wr.heap.size, 4, none⟩ (.slice A6 sub.length c6)) HTI.out HWF.out (by omega) hcg.block hcg.size
          (Tw.keep (fun b hb => ⟨by have := hb.1; omega, by rw [hzc]; exact hb.2⟩) (fun b hb _ => heap_setCell_other _ _ _ _ (show b ≠ wr.heap.size by have := hb.1; omega)) n _ sub ht6) o8 z8 k8 ow8
        have hb8 : Below w.heap.size w w8 := (HBW.out.trans (hcg.mono HBW.out.size)).trans ⟨e81, e82, e83, Nat.le_of_lt z8, fun q hq => k8 q (by have := hcg.size; omega) (fun e => by have := (huc.row.lt _ e).1; omega)⟩
        rw [hzc] at hap
        have HUP := Lib.hid hup; have HB8 := Lib.hid hb8
        clear hup hb8 o8 z8 e81 e82 e83 k8 ow8 huc hcg hu6 hg6 hgx hbx b6 ht6 hwx hsx hzc
        go_wp2_with fail
        exact ⟨⟨i + 1, A8, c8, _, by omega, by go_num, rfl, HUP.out, HB8.out⟩, by simp [intOf]; omega⟩
      · obtain rfl : i = l.length := by omega
        go_wp2_with fail
        go_ret
        exact ⟨_, rfl, HU.out.done, HBW.out⟩
end Go.Proofs.YtinngljphjdpoaaGreatDoor.Tw
/- Lists of fields and of items that grow; what a message's bytes are. -/
namespace Go.Proofs.YtinngljphjdpoaaGreatDoor.Eq
open Go Go.RowKit Go.Proofs.YtinngljphjdpoaaGreatDoor.Pa Go.Proofs.YtinngljphjdpoaaGreatDoor.Pb Go.Proofs.YtinngljphjdpoaaGreatDoor.Pf Go.Proofs.YtinngljphjdpoaaGreatDoor.Sc Go.Proofs.YtinngljphjdpoaaGreatDoor.Rs Go.Proofs.YtinngljphjdpoaaGreatDoor.Hs Go.Proofs.YtinngljphjdpoaaGreatDoor.Va Go.Proofs.YtinngljphjdpoaaGreatDoor.Ce Go.Proofs.YtinngljphjdpoaaGreatDoor.Tw Go.Proofs.YtinngljphjdpoaaGreatDoor.Ea Go.Proofs.YtinngljphjdpoaaGreatDoor.Eb Go.Proofs.YtinngljphjdpoaaGreatDoor.Eu Go.Proofs.YtinngljphjdpoaaGreatDoor.Hx
set_option linter.unusedVariables false
set_option linter.unusedSimpArgs false
set_option maxRecDepth 100000 in
theorem infoF : (Tryz.prog.info? 140).map (fun i => (i.zero, i.size, i.bytes)) = some (some (.agg #[.int .i64 0, .int .i64 0, .int .u64 0, .slice none 0 0]), 4, 48) := by kernel_rfl
theorem pushF {w : World} {base : Nat} {A : Option Addr} {i c : Nat} {xs : List Value} (ho : w.ownsRow base 140 4 (.slice A i c) i xs) (hb : base ≤ w.heap.size) (hi : i ≤ 20000) (v0 v1 v2 v3 : Value)
    (h1 : ∀ u ∈ [v0, v1, v2, v3], u.oneCell' = true) :
    ∃ A' c' w', (appX #[135, 135] 135 #[.slice A i c, .slice (some ⟨w.heap.size, 0, none⟩) 1 1]).run Tryz.prog (w.alloc (.cells #[v0, v1, v2, v3] 140)) = .ok (.slice A' (i + 1) c') w' ∧
      w'.ownsRow base 140 4 (.slice A' (i + 1) c') (i + 1) (xs ++ [v0, v1, v2, v3]) ∧ w.heap.size < w'.heap.size ∧ w'.os = w.os ∧ w'.tape = w.tape ∧ w'.output = w.output ∧
      (∀ b, b < w.heap.size → (Value.slice A i c).ownBlock ≠ some b → w'.heap[b]? = w.heap[b]?) ∧ ((Value.slice A' (i + 1) c').ownBlock = (Value.slice A i c).ownBlock ∨ (Value.slice A' (i + 1) c').ownBlock = some (w.heap.size + 1)) := by
  obtain ⟨ti, hi', hzz⟩ := Option.map_eq_some_iff.1 infoF
  simp only [Prod.mk.injEq] at hzz
  obtain ⟨hz0, hz1, hz2⟩ := hzz
  have hcell : ∀ j u, [v0, v1, v2, v3][j]? = some u → (w.alloc (.cells #[v0, v1, v2, v3] 140)).cell? ((⟨w.heap.size, 0, none⟩ : Addr).add j) = some u := by
    intro j u hu
    have hj := (List.getElem?_eq_some_iff.1 hu).1
    rw [Hs.add0]
    have := hp_cell (hp_alloc_at (.cells #[v0, v1, v2, v3] 140) w.heap.size (w := w) rfl) j
    rw [this]
    simpa using hu
  obtain ⟨v', w', hr, h2, h3, _, h5⟩ := run_append_own_at (P := Tryz.prog) (w.alloc (.cells #[v0, v1, v2, v3] 140)) base 135 135 140 ti _ 4 48 Tryz.underlying135 hi' hz0 hz1 hz2 rfl (by omega)
    (.slice A i c) i xs (ho.alloc _) ⟨w.heap.size, 0, none⟩ 1 1 [v0, v1, v2, v3] rfl hcell h1 (by simp only [maxLen]; omega) (by omega) (by simp; omega)
  have hsl : ∃ A' c', v' = .slice A' (i + 1) c' := by
    rcases h2.2 with ⟨-, h0⟩ | ⟨g, cap, cur, e, -⟩
    · omega
    · exact ⟨_, _, e⟩
  obtain ⟨A', c', rfl⟩ := hsl
  have hz := h3.size
  simp at hz
  refine ⟨A', c', w', hr, h2, by omega, h3.os, h3.tape, h3.output, fun b hb hne => ?_, ?_⟩
  · rw [h3.block b (by simp; omega) (fun e => hne e.symm)]
    exact hp_alloc_past _ _ hb
  · rcases h5 with h | h
    · exact .inl h
    · exact .inr (by simpa using h)
set_option maxRecDepth 100000 in
theorem infoI : (Tryz.prog.info? 23).map (fun i => (i.zero, i.size, i.bytes)) = some (some (.slice none 0 0), 1, 24) := by kernel_rfl
theorem pushI {w : World} {base : Nat} {A : Option Addr} {i c : Nat} {xs : List Value} (ho : w.ownsRow base 23 1 (.slice A i c) i xs) (hb : base ≤ w.heap.size) (hi : i ≤ 20000) (v0 : Value)
    (h1 : ∀ u ∈ [v0], u.oneCell' = true) :
    ∃ A' c' w', (appX #[53, 53] 53 #[.slice A i c, .slice (some ⟨w.heap.size, 0, none⟩) 1 1]).run Tryz.prog (w.alloc (.cells #[v0] 23)) = .ok (.slice A' (i + 1) c') w' ∧
      w'.ownsRow base 23 1 (.slice A' (i + 1) c') (i + 1) (xs ++ [v0]) ∧ w.heap.size < w'.heap.size ∧ w'.os = w.os ∧ w'.tape = w.tape ∧ w'.output = w.output ∧
      (∀ b, b < w.heap.size → (Value.slice A i c).ownBlock ≠ some b → w'.heap[b]? = w.heap[b]?) ∧ ((Value.slice A' (i + 1) c').ownBlock = (Value.slice A i c).ownBlock ∨ (Value.slice A' (i + 1) c').ownBlock = some (w.heap.size + 1)) := by
  obtain ⟨ti, hi', hzz⟩ := Option.map_eq_some_iff.1 infoI
  simp only [Prod.mk.injEq] at hzz
  obtain ⟨hz0, hz1, hz2⟩ := hzz
  have hcell : ∀ j u, [v0][j]? = some u → (w.alloc (.cells #[v0] 23)).cell? ((⟨w.heap.size, 0, none⟩ : Addr).add j) = some u := by
    intro j u hu
    have hj := (List.getElem?_eq_some_iff.1 hu).1
    rw [Hs.add0]
    have := hp_cell (hp_alloc_at (.cells #[v0] 23) w.heap.size (w := w) rfl) j
    rw [this]
    simpa using hu
  obtain ⟨v', w', hr, h2, h3, _, h5⟩ := run_append_own_at (P := Tryz.prog) (w.alloc (.cells #[v0] 23)) base 53 53 23 ti _ 1 24 Tryz.underlying53 hi' hz0 hz1 hz2 rfl (by omega)
    (.slice A i c) i xs (ho.alloc _) ⟨w.heap.size, 0, none⟩ 1 1 [v0] rfl hcell h1 (by simp only [maxLen]; omega) (by omega) (by simp; omega)
  have hsl : ∃ A' c', v' = .slice A' (i + 1) c' := by
    rcases h2.2 with ⟨-, h0⟩ | ⟨g, cap, cur, e, -⟩
    · omega
    · exact ⟨_, _, e⟩
  obtain ⟨A', c', rfl⟩ := hsl
  have hz := h3.size
  simp at hz
  refine ⟨A', c', w', hr, h2, by omega, h3.os, h3.tape, h3.output, fun b hb hne => ?_, ?_⟩
  · rw [h3.block b (by simp; omega) (fun e => hne e.symm)]
    exact hp_alloc_past _ _ hb
  · rcases h5 with h | h
    · exact .inl h
    · exact .inr (by simpa using h)
/-- A slice that reads as bytes, apart from a row. -/
def Dt (w : World) (row : Option Nat) (v : Value) (d : List UInt8) : Prop := Rd w v d ∧ (0 < d.length → ∀ k, v.ownBlock = some k → row ≠ some k)
theorem Dt.keep {w w' : World} {row row' : Option Nat} {v : Value} {d : List UInt8} (h : Dt w row v d) (hk : ∀ b, b < w.heap.size → row ≠ some b → w'.heap[b]? = w.heap[b]?) (hr : row' = row ∨ ∃ b, row' = some b ∧ w.heap.size ≤ b) : Dt w' row' v d := by
  obtain ⟨⟨A, c, e, h1, h2, h3⟩, h4⟩ := h
  refine ⟨⟨A, c, e, h1, h2, fun h0 => ?_⟩, fun h0 k hv => ?_⟩
  · obtain ⟨ad, ha, hc⟩ := h3 h0
    refine ⟨ad, ha, fun j u hu => ?_⟩
    have hcl := hc j u hu
    have hb := World.block_lt_of_cell? w _ hcl
    rw [Rs.block_add] at hb
    have hne : row ≠ some ad.block := h4 h0 ad.block (by rw [e, ha]; rfl)
    exact (World.cell?_of_block (by rw [Rs.block_add]; exact hk _ hb hne)).trans hcl
  · obtain ⟨ad, ha, hc⟩ := h3 h0
    have hk' : k = ad.block := by rw [e, ha] at hv; exact (Option.some.inj hv).symm
    have hlt : ad.block < w.heap.size := by
      have h5 : (cb d)[0]? = some (.int .u8 (d[0].toNat : Int)) := cb_get d 0 h0
      have := World.block_lt_of_cell? w _ (hc 0 _ h5)
      rwa [Rs.block_add] at this
    rcases hr with rfl | ⟨b, rfl, hb⟩
    · exact h4 h0 k hv
    · intro e2; cases e2; omega
/-- The fields l stand in a row of the call's own. -/
structure Uf (w : World) (g : Nat) (l : List Ep.Fd) (A : Option Addr) (c : Nat) (xs : List Value) : Prop where
  row : w.ownsRow g 140 4 (.slice A l.length c) l.length xs
  fld : ∀ j f, l[j]? = some f → (f.num < 18446744073709551616 ∧ f.data.length ≤ 5000000) ∧ ∃ A' c', xs[j * 4]? = some (.int .i64 f.no) ∧ xs[j * 4 + 1]? = some (.int .i64 f.ty) ∧ xs[j * 4 + 2]? = some (.int .u64 (f.num : Int)) ∧ xs[j * 4 + 3]? = some (.slice A' f.data.length c') ∧
    Dt w (Value.slice A l.length c).ownBlock (.slice A' f.data.length c') f.data
theorem Uf.nil (w : World) (g : Nat) : Uf w g [] none 0 [] := ⟨World.ownsRow_nil _ _ _ _, fun j f h => by simp at h⟩
theorem Uf.below {w w' : World} {g : Nat} {l : List Ep.Fd} {A : Option Addr} {c : Nat} {xs : List Value} (h : Uf w g l A c xs) (hb : Below w.heap.size w w') : Uf w' g l A c xs := by
  refine ⟨h.row.kept (grown_below hb none) (by cases (Value.slice A l.length c).ownBlock <;> simp), fun j f hf => ?_⟩
  obtain ⟨g0, A', c', g1, g2, g3, g4, g5⟩ := h.fld j f hf
  exact ⟨g0, A', c', g1, g2, g3, g4, g5.keep (fun b hb' _ => hb.block b hb') (.inl rfl)⟩
theorem Uf.step {w w6 w8 : World} {g : Nat} {l : List Ep.Fd} {A A' : Option Addr} {c c' : Nat} {xs : List Value} (h : Uf w g l A c xs) (f : Ep.Fd) (Af : Option Addr) (cf : Nat) (hf : f.num < 18446744073709551616 ∧ f.data.length ≤ 5000000)
    (hb : Below w.heap.size w w6) (hd : Dt w6 (Value.slice A l.length c).ownBlock (.slice Af f.data.length cf) f.data)
    (h8 : w8.ownsRow g 140 4 (.slice A' (l.length + 1) c') (l.length + 1) (xs ++ [.int .i64 f.no, .int .i64 f.ty, .int .u64 (f.num : Int), .slice Af f.data.length cf])) (hs8 : w6.heap.size < w8.heap.size)
    (h68 : ∀ b, b < w6.heap.size → (Value.slice A l.length c).ownBlock ≠ some b → w8.heap[b]? = w6.heap[b]?) (hown : (Value.slice A' (l.length + 1) c').ownBlock = (Value.slice A l.length c).ownBlock ∨ (Value.slice A' (l.length + 1) c').ownBlock = some (w6.heap.size + 1)) :
    Uf w8 g (l ++ [f]) A' c' (xs ++ [.int .i64 f.no, .int .i64 f.ty, .int .u64 (f.num : Int), .slice Af f.data.length cf]) := by
  have hlen : xs.length = l.length * 4 := h.row.1
  have hl1 : (l ++ [f]).length = l.length + 1 := by simp
  have hown' : (Value.slice A' (l ++ [f]).length c').ownBlock = (Value.slice A l.length c).ownBlock ∨ ∃ b, (Value.slice A' (l ++ [f]).length c').ownBlock = some b ∧ w6.heap.size ≤ b := by
    rw [hl1]
    rcases hown with h | h
    · exact .inl h
    · exact .inr ⟨_, h, by omega⟩
  refine ⟨by rw [hl1]; exact h8, fun j u hu => ?_⟩
  by_cases hji : j = l.length
  · subst hji
    obtain rfl : u = f := by simpa using hu.symm
    have e : ∀ q, q < 4 → (xs ++ [Value.int .i64 u.no, .int .i64 u.ty, .int .u64 (u.num : Int), .slice Af u.data.length cf])[l.length * 4 + q]? = [Value.int .i64 u.no, .int .i64 u.ty, .int .u64 (u.num : Int), .slice Af u.data.length cf][q]? := fun q hq => by
      rw [List.getElem?_append_right (by omega)]; congr 1; omega
    exact ⟨hf, Af, cf, e 0 (by omega), e 1 (by omega), e 2 (by omega), e 3 (by omega), hd.keep h68 hown'⟩
  · have hjl : j < l.length := by
      have := (List.getElem?_eq_some_iff.1 hu).1
      simp at this
      omega
    rw [List.getElem?_append_left hjl] at hu
    obtain ⟨g0, Aj, cj, g1, g2, g3, g4, g5⟩ := h.fld j u hu
    have e : ∀ q v, q < 4 → xs[j * 4 + q]? = some v → (xs ++ [Value.int .i64 f.no, .int .i64 f.ty, .int .u64 (f.num : Int), .slice Af f.data.length cf])[j * 4 + q]? = some v := fun q v hq hv => by
      rw [List.getElem?_append_left (by omega)]; exact hv
    exact ⟨g0, Aj, cj, e 0 _ (by omega) g1, e 1 _ (by omega) g2, e 2 _ (by omega) g3, e 3 _ (by omega) g4, (g5.keep (fun b hb' _ => hb.block b hb') (.inl rfl)).keep h68 hown'⟩
theorem Uf.rd {w : World} {g : Nat} {l : List Ep.Fd} {A : Option Addr} {c : Nat} {xs : List Value} (h : Uf w g l A c xs) : RdF w (.slice A l.length c) l := by
  refine ⟨A, c, rfl, fun f hf => ?_, fun h0 => ?_⟩
  · obtain ⟨j, hj, rfl⟩ := List.getElem_of_mem hf
    exact (h.fld j l[j] (by simp [hj])).1
  · rcases h.row.2 with ⟨e, h1⟩ | ⟨b, cap, cur, e, hb, hbb, h1, h2, -⟩
    · omega
    · simp only [Value.slice.injEq] at e
      obtain ⟨rfl, -, rfl⟩ := e
      refine ⟨_, rfl, fun i f hf => ?_⟩
      obtain ⟨g0, A', c', g1, g2, g3, g4, g5⟩ := h.fld i f hf
      have k : ∀ o v, xs[o]? = some v → w.cell? ((⟨b, 0, none⟩ : Addr).add o) = some v := fun o v hv => World.ownsRow.cells h.row (g := b) rfl o v hv
      exact ⟨A', c', k _ _ g1, k _ _ g2, k _ _ g3, k _ _ g4, g5.1⟩
/-- The items l stand in a row of the call's own. -/
structure Ui (w : World) (g : Nat) (l : List (List UInt8)) (A : Option Addr) (c : Nat) (xs : List Value) : Prop where
  row : w.ownsRow g 23 1 (.slice A l.length c) l.length xs
  itm : ∀ (j : Nat) (x : List UInt8), l[j]? = some x → x.length ≤ 5000000 ∧ ∃ A' c', xs[j]? = some (Value.slice A' x.length c') ∧ Dt w (Value.slice A l.length c).ownBlock (.slice A' x.length c') x
theorem Ui.nil (w : World) (g : Nat) : Ui w g [] none 0 [] := ⟨World.ownsRow_nil _ _ _ _, fun j f h => by simp at h⟩
theorem Ui.below {w w' : World} {g : Nat} {l : List (List UInt8)} {A : Option Addr} {c : Nat} {xs : List Value} (h : Ui w g l A c xs) (hb : Below w.heap.size w w') : Ui w' g l A c xs := by
  refine ⟨h.row.kept (grown_below hb none) (by cases (Value.slice A l.length c).ownBlock <;> simp), fun j f hf => ?_⟩
  obtain ⟨g0, A', c', g4, g5⟩ := h.itm j f hf
  exact ⟨g0, A', c', g4, g5.keep (fun b hb' _ => hb.block b hb') (.inl rfl)⟩
theorem Ui.step {w w6 w8 : World} {g : Nat} {l : List (List UInt8)} {A A' : Option Addr} {c c' : Nat} {xs : List Value} (h : Ui w g l A c xs) (x : List UInt8) (Af : Option Addr) (cf : Nat) (hf : x.length ≤ 5000000)
    (hb : Below w.heap.size w w6) (hd : Dt w6 (Value.slice A l.length c).ownBlock (.slice Af x.length cf) x)
    (h8 : w8.ownsRow g 23 1 (.slice A' (l.length + 1) c') (l.length + 1) (xs ++ [.slice Af x.length cf])) (hs8 : w6.heap.size < w8.heap.size)
    (h68 : ∀ b, b < w6.heap.size → (Value.slice A l.length c).ownBlock ≠ some b → w8.heap[b]? = w6.heap[b]?) (hown : (Value.slice A' (l.length + 1) c').ownBlock = (Value.slice A l.length c).ownBlock ∨ (Value.slice A' (l.length + 1) c').ownBlock = some (w6.heap.size + 1)) :
    Ui w8 g (l ++ [x]) A' c' (xs ++ [.slice Af x.length cf]) := by
  have hlen : xs.length = l.length * 1 := h.row.1
  have hl1 : (l ++ [x]).length = l.length + 1 := by simp
  have hown' : (Value.slice A' (l ++ [x]).length c').ownBlock = (Value.slice A l.length c).ownBlock ∨ ∃ b, (Value.slice A' (l ++ [x]).length c').ownBlock = some b ∧ w6.heap.size ≤ b := by
    rw [hl1]
    rcases hown with h | h
    · exact .inl h
    · exact .inr ⟨_, h, by omega⟩
  refine ⟨by rw [hl1]; exact h8, fun j u hu => ?_⟩
  by_cases hji : j = l.length
  · subst hji
    obtain rfl : u = x := by simpa using hu.symm
    refine ⟨hf, Af, cf, ?_, hd.keep h68 hown'⟩
    rw [List.getElem?_append_right (by omega)]
    simp [hlen]
  · have hjl : j < l.length := by
      have := (List.getElem?_eq_some_iff.1 hu).1
      simp at this
      omega
    rw [List.getElem?_append_left hjl] at hu
    obtain ⟨g0, Aj, cj, g4, g5⟩ := h.itm j u hu
    exact ⟨g0, Aj, cj, by rw [List.getElem?_append_left (by omega)]; exact g4, (g5.keep (fun b hb' _ => hb.block b hb') (.inl rfl)).keep h68 hown'⟩
theorem Ui.rd {w : World} {g : Nat} {l : List (List UInt8)} {A : Option Addr} {c : Nat} {xs : List Value} (h : Ui w g l A c xs) : RdI w (.slice A l.length c) l := by
  refine ⟨A, c, rfl, fun f hf => ?_, fun h0 => ?_⟩
  · obtain ⟨j, hj, rfl⟩ := List.getElem_of_mem hf
    exact (h.itm j l[j] (by simp [hj])).1
  · rcases h.row.2 with ⟨e, h1⟩ | ⟨b, cap, cur, e, hb, hbb, h1, h2, -⟩
    · omega
    · simp only [Value.slice.injEq] at e
      obtain ⟨rfl, -, rfl⟩ := e
      refine ⟨_, rfl, fun i f hf => ?_⟩
      obtain ⟨g0, A', c', g4, g5⟩ := h.itm i f hf
      have k : ∀ o v, xs[o]? = some v → w.cell? ((⟨b, 0, none⟩ : Addr).add o) = some v := fun o v hv => World.ownsRow.cells h.row (g := b) rfl o v hv
      exact ⟨A', c', k _ _ g4, g5.1⟩
/-- Bytes in memory made behind a world lie apart from a row that stood. -/
theorem dt_own {w w' : World} {row : Option Nat} {v : Value} {d : List UInt8} (ho : Own w' w.heap.size 5 v d) (hr : ∀ k, row = some k → k < w.heap.size) : Dt w' row v d :=
  ⟨ho.rd, fun _ k hv e => by have := (ho.lt k hv).1; have := hr k e; omega⟩
/-- Bytes in old memory, too. -/
theorem dt_old {w w' : World} {W : World} {row : Option Nat} {v : Value} {d : List UInt8} (h : Rd W v d) (hb : Below W.heap.size W w') (hr : ∀ k, row = some k → W.heap.size ≤ k) : Dt w' row v d := by
  refine ⟨Vu.rd_keep hb.block h, fun h0 k hv e => ?_⟩
  obtain ⟨A, c, e1, h1, h2, h3⟩ := h
  obtain ⟨ad, ha, hc⟩ := h3 h0
  have hk' : k = ad.block := by rw [e1, ha] at hv; exact (Option.some.inj hv).symm
  have hlt : ad.block < W.heap.size := by
    have h5 : (cb d)[0]? = some (.int .u8 (d[0].toNat : Int)) := cb_get d 0 h0
    have := World.block_lt_of_cell? W _ (hc 0 _ h5)
    rwa [Rs.block_add] at this
  have := hr k e
  omega
end Go.Proofs.YtinngljphjdpoaaGreatDoor.Eq
