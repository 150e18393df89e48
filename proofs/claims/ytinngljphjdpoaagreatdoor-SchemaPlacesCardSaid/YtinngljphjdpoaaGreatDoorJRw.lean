/- The program's wire.Split. -/
import Derived.Test.YtinngljphjdpoaaGreatDoorJGt
import Derived.Test.YtinngljphjdpoaaGreatDoorJEq
import Derived.Deep.DeepCutAuto
import Derived.Shelf.RegionOpen
import Derived.Test.YtinngljphjdpoaaGreatDoorJGd
import Derived.Test.YtinngljphjdpoaaGreatDoorJRq
import Derived.Deep.RegionHeld3
import Derived.BigRegion
namespace Go.Proofs.YtinngljphjdpoaaGreatDoor.Gi
open Go Go.RowKit Go.Proofs.YtinngljphjdpoaaGreatDoor.Pa Go.Proofs.YtinngljphjdpoaaGreatDoor.Pb Go.Proofs.YtinngljphjdpoaaGreatDoor.Pf Go.Proofs.YtinngljphjdpoaaGreatDoor.Nz Go.Proofs.YtinngljphjdpoaaGreatDoor.Nm Go.Proofs.YtinngljphjdpoaaGreatDoor.Ce Go.Proofs.YtinngljphjdpoaaGreatDoor.Ea Go.Proofs.YtinngljphjdpoaaGreatDoor.Eq Go.Proofs.YtinngljphjdpoaaGreatDoor.Gp Go.Proofs.YtinngljphjdpoaaGreatDoor.Gh Go.Proofs.YtinngljphjdpoaaGreatDoor.Gs Go.Proofs.YtinngljphjdpoaaGreatDoor.Gq Go.Proofs.YtinngljphjdpoaaGreatDoor.Gt Go.Proofs.YtinngljphjdpoaaGreatDoor.Rl
set_option linter.unusedVariables false
set_option linter.unusedSimpArgs false
attribute [local go_sem] Oper.semAt_some
/-- What is wrong with a list, and where. -/
def sErr (b : List UInt8) : Int := if 4194304 < b.length then 2 else (Sp b 0).2
def sAt (b : List UInt8) : Int := if 4194304 < b.length then 0 else if (Sp b 0).2 = 0 then 0 else ((Ep.jbytes (Sp b 0).1).length : Int)
/-- Items in a row of the call's own, each item's bytes the call's own too. -/
structure Uj (w : World) (g : Nat) (l : List (List UInt8)) (A : Option Addr) (c : Nat) (xs : List Value) : Prop where
  row : w.ownsRow g 23 1 (.slice A l.length c) l.length xs
  itm : ∀ (j : Nat) (x : List UInt8), l[j]? = some x → x.length ≤ 5000000 ∧ ∃ A' c', xs[j]? = some (.slice A' x.length c') ∧ Pb.Own w g 5 (.slice A' x.length c') x ∧ ∀ k, (Value.slice A' x.length c').ownBlock = some k → (Value.slice A l.length c).ownBlock ≠ some k
theorem Uj.nil (w : World) (g : Nat) : Uj w g [] none 0 [] := ⟨World.ownsRow_nil _ _ _ _, fun j f h => by simp at h⟩
theorem Uj.grown {w w' : World} {g : Nat} {l : List (List UInt8)} {A : Option Addr} {c : Nat} {xs : List Value} {row : Option Nat} (h : Uj w g l A c xs) (hg : w.grownBy w' row) (hr : ∀ k, row = some k → k < g) : Uj w' g l A c xs := by
  have hne : ∀ (v : Value), (∀ k, v.ownBlock = some k → g ≤ k) → v.ownBlock = none ∨ v.ownBlock ≠ row := fun v hv => by
    cases hvb : v.ownBlock with
    | none => exact .inl rfl
    | some b => exact .inr (fun e => by have := hv b hvb; have := hr b e.symm; omega)
  refine ⟨h.row.kept hg (hne _ fun k e => (World.ownsRow.lt h.row k e).1), fun j f hf => ?_⟩
  obtain ⟨g0, A', c', g1, g5, g6⟩ := h.itm j f hf
  exact ⟨g0, A', c', g1, g5.kept hg (hne _ fun k e => (g5.lt k e).1), g6⟩
theorem Uj.below {w w' : World} {g : Nat} {l : List (List UInt8)} {A : Option Addr} {c : Nat} {xs : List Value} (h : Uj w g l A c xs) (hb : Below w.heap.size w w') : Uj w' g l A c xs := h.grown (grown_below hb none) (fun k e => by cases e)
theorem Uj.put {w : World} {g : Nat} {l : List (List UInt8)} {A : Option Addr} {c : Nat} {xs : List Value} (h : Uj w g l A c xs) (r : Nat) (o o' : Obj) (hr : w.heap[r]? = some o) (ho : o.isCells = false) : Uj (w.putObj r o') g l A c xs := by
  refine ⟨ownsRow_putObj h.row o' hr ho, fun j f hf => ?_⟩
  obtain ⟨g0, A', c', g1, g5, g6⟩ := h.itm j f hf
  exact ⟨g0, A', c', g1, ownsRow_putObj g5 o' hr ho, g6⟩
theorem Uj.step {w6 w8 : World} {g : Nat} {l : List (List UInt8)} {A A' : Option Addr} {c c' : Nat} {xs : List Value} (h : Uj w6 g l A c xs) (x : List UInt8) (Af : Option Addr) (cf : Nat) (hf : x.length ≤ 5000000)
    (hd : Pb.Own w6 g 5 (.slice Af x.length cf) x) (hdr : ∀ k, (Value.slice Af x.length cf).ownBlock = some k → (Value.slice A l.length c).ownBlock ≠ some k)
    (h8 : w8.ownsRow g 23 1 (.slice A' (l.length + 1) c') (l.length + 1) (xs ++ [.slice Af x.length cf]))
    (h68 : w6.grownBy w8 (Value.slice A l.length c).ownBlock) (hown : (Value.slice A' (l.length + 1) c').ownBlock = (Value.slice A l.length c).ownBlock ∨ (Value.slice A' (l.length + 1) c').ownBlock = some (w6.heap.size + 1)) :
    Uj w8 g (l ++ [x]) A' c' (xs ++ [.slice Af x.length cf]) := by
  have hlen : xs.length = l.length * 1 := h.row.1
  have hl1 : (l ++ [x]).length = l.length + 1 := by simp
  have keep : ∀ (v : Value) (d : List UInt8), Pb.Own w6 g 5 v d → (∀ k, v.ownBlock = some k → (Value.slice A l.length c).ownBlock ≠ some k) → Pb.Own w8 g 5 v d ∧ ∀ k, v.ownBlock = some k → (Value.slice A' (l.length + 1) c').ownBlock ≠ some k := fun v d ho hne => by
    constructor
    · refine ho.kept h68 ?_
      cases hvb : v.ownBlock with
      | none => exact .inl rfl
      | some b => exact .inr (fun e => hne b hvb e.symm)
    · intro k hk e
      rcases hown with h1 | h1
      · exact hne k hk (h1 ▸ e)
      · rw [h1] at e
        cases e
        have := (ho.lt _ hk).2
        omega
  refine ⟨by rw [hl1]; exact h8, fun j u hu => ?_⟩
  rw [hl1]
  by_cases hji : j = l.length
  · subst hji
    obtain rfl : u = x := by simpa using hu.symm
    obtain ⟨k1, k2⟩ := keep _ _ hd hdr
    exact ⟨hf, Af, cf, by rw [List.getElem?_append_right (by omega), hlen]; simp, k1, k2⟩
  · have hjl : j < l.length := by
      have := (List.getElem?_eq_some_iff.1 hu).1
      simp at this
      omega
    rw [List.getElem?_append_left hjl] at hu
    obtain ⟨g0, Aj, cj, g1, g5, g6⟩ := h.itm j u hu
    obtain ⟨k1, k2⟩ := keep _ _ g5 g6
    exact ⟨g0, Aj, cj, by rw [List.getElem?_append_left (by omega)]; exact g1, k1, k2⟩
theorem row_cells {w : World} {base n : Nat} {e : TypeId} {size : Nat} {v : Value} {xs : List Value} (h : w.ownsRow base e size v n xs) {k : Nat} (hk : v.ownBlock = some k) : ∃ c t fr, w.heap[k]? = some (.cells c t fr) := by
  rcases h.2 with ⟨rfl, -⟩ | ⟨g, cap, cur, rfl, -, hg, -⟩
  · simp [Value.ownBlock] at hk
  · simp only [Value.ownBlock, Option.some.injEq] at hk
    subst hk
    exact ⟨_, _, _, hg⟩
theorem six (W : World) (o0 o1 o2 o3 o4 o5 : Obj) : hp ((((((W.alloc o0).alloc o1).alloc o2).alloc o3).alloc o4).alloc o5) W.heap.size = some o0 ∧ hp ((((((W.alloc o0).alloc o1).alloc o2).alloc o3).alloc o4).alloc o5) (W.heap.size + 1) = some o1 ∧ hp ((((((W.alloc o0).alloc o1).alloc o2).alloc o3).alloc o4).alloc o5) (W.heap.size + 1 + 1) = some o2 ∧
    hp ((((((W.alloc o0).alloc o1).alloc o2).alloc o3).alloc o4).alloc o5) (W.heap.size + 1 + 1 + 1) = some o3 ∧ hp ((((((W.alloc o0).alloc o1).alloc o2).alloc o3).alloc o4).alloc o5) (W.heap.size + 1 + 1 + 1 + 1) = some o4 ∧ hp ((((((W.alloc o0).alloc o1).alloc o2).alloc o3).alloc o4).alloc o5) (W.heap.size + 1 + 1 + 1 + 2) = some o5 :=
  ⟨below_hp (below_hp (below_hp (below_hp (below_hp (hp_alloc_at _ _ rfl) (vb _ _)) (vb _ _)) (vb _ _)) (vb _ _)) (vb _ _), below_hp (below_hp (below_hp (below_hp (hp_alloc_at _ _ (by simp)) (vb _ _)) (vb _ _)) (vb _ _)) (vb _ _), below_hp (below_hp (below_hp (hp_alloc_at _ _ (by simp)) (vb _ _)) (vb _ _)) (vb _ _),
    below_hp (below_hp (hp_alloc_at _ _ (by simp)) (vb _ _)) (vb _ _), below_hp (hp_alloc_at _ _ (by simp)) (vb _ _), hp_alloc_at _ _ (by simp)⟩
theorem pieces (v a y : Value) (w : World) (ha : ∃ p, a = .pointer p) (hy : ∃ p, y = .pointer p) (hv : ∃ A n c, v = .slice A n c) : Calls Tryz.prog 155 #[v, a, y] w fun e w' =>
    e = .returned (.func (.func 157) #[] #[.pointer (some ⟨w.heap.size, 0, none⟩), .pointer (some ⟨w.heap.size + 1, 0, none⟩), .pointer (some ⟨w.heap.size + 2, 0, none⟩)]) ∧
    w' = ((w.alloc (.cells #[v] 23)).alloc (.cells #[a] 158)).alloc (.cells #[y] 241) := by
  obtain ⟨pa, rfl⟩ := ha
  obtain ⟨py, rfl⟩ := hy
  obtain ⟨A, n, c, rfl⟩ := hv
  go_enter Tryz.func155, Tryz.ntmps155
  go_wp2_with fail
  go_ret
  exact ⟨rfl, rfl⟩
/-- Between two rounds of Split. -/
def JS (W : World) (xs : List Ix) (A : World) : Prop :=
  (Below W.heap.size W A ∧ W.heap.size + 6 ≤ A.heap.size) ∧ ∃ Ai ci ys, Pa.hp A W.heap.size = some (.cells #[.slice Ai xs.length ci] 53 (0, 0)) ∧ Uj A (W.heap.size + 6) (xs.map (·.2)) Ai ci ys
theorem JS.ab {W : World} {xs : List Ix} {A B : World} (h : JS W xs A) (hab : Gt.Ab (W.heap.size + 1) (W.heap.size + 1 + 1) A B) : JS W xs B := by
  obtain ⟨⟨h1, h1s⟩, Ai, ci, ys, h2, h3⟩ := h
  have key : ∀ r, W.heap.size < r → r < W.heap.size + 6 → St r A B → JS W xs B := by
    rintro r hr1 hr2 ⟨hg, -⟩
    refine ⟨⟨h1.grown hg h1.size (fun k e => by cases e; omega), Nat.le_trans h1s hg.size⟩, Ai, ci, ys, ?_, h3.grown hg (fun k e => by cases e; omega)⟩
    exact (hg.block _ (Array.getElem?_eq_some_iff.1 h2).1 (fun e => by cases e; omega)).trans h2
  rcases hab with h | h
  · exact key _ (by omega) (by omega) h
  · exact key _ (by omega) (by omega) h
theorem JS.put {W : World} {xs : List Ix} {A : World} (h : JS W xs A) (r : Nat) (o o' : Obj) (hr : W.heap.size + 6 ≤ r) (ho : A.heap[r]? = some o) (hc : o.isCells = false) : JS W xs (A.putObj r o') := by
  obtain ⟨⟨h1, h1s⟩, Ai, ci, ys, h2, h3⟩ := h
  exact ⟨⟨h1.grown (grownBy_putObj' A r o') h1.size (fun k e => by cases e; omega), Nat.le_trans h1s (grownBy_putObj' A r o').size⟩, Ai, ci, ys, (World.putObj_heap_other (by omega)).trans h2, h3.put r o o' ho hc⟩
theorem JS.below {W : World} {xs : List Ix} {A B : World} (h : JS W xs A) (hb : Below A.heap.size A B) : JS W xs B := by
  obtain ⟨⟨h1, h1s⟩, Ai, ci, ys, h2, h3⟩ := h
  exact ⟨⟨h1.trans (hb.mono h1.size), Nat.le_trans h1s hb.size⟩, Ai, ci, ys, below_hp h2 hb, h3.below hb⟩
def Okx (v : Value) (pre : List Ix) (x : Ix) (A : World) : Prop := pre.length < 4096 ∧ Rd A x.1 x.2 ∧ x.2.length ≤ 4194304 ∧ ∀ k, x.1.ownBlock = some k → v.ownBlock = some k
theorem Okx.put {v : Value} {pre : List Ix} {x : Ix} {A : World} (h : Okx v pre x A) (r : Nat) (o o' : Obj) (ho : A.heap[r]? = some o) (hc : o.isCells = false) : Okx v pre x (A.putObj r o') :=
  ⟨h.1, rd_cells h.2.1 (fun _ k c t fr _ hk => by
    by_cases e : k = r
    · subst e; rw [ho] at hk; cases hk; cases hc
    · exact (World.putObj_heap_other e).trans hk), h.2.2⟩
theorem Fin.put {b : List UInt8} {ba bw : Nat} {xs : List Ix} {A : World} (h : Fin b ba bw xs A) (r : Nat) (o o' : Obj) (ho : A.heap[r]? = some o) (hc : o.isCells = false) : Fin b ba bw xs (A.putObj r o') := by
  obtain ⟨h1, h2, z, h3, h4⟩ := h
  have key : ∀ (q : Nat) (c : Array Value) (t : TypeId) (fr : Nat × Nat), A.heap[q]? = some (.cells c t fr) → (A.putObj r o').heap[q]? = some (.cells c t fr) := fun q c t fr hq => by
    by_cases e : q = r
    · subst e; rw [ho] at hq; cases hq; cases hc
    · exact (World.putObj_heap_other e).trans hq
  exact ⟨h1, key _ _ _ _ h2, z, key _ _ _ _ h3, h4⟩
set_option maxHeartbeats 2000000 in
set_option maxRecDepth 100000 in
theorem split (v : Value) (b : List UInt8) (W : World) (hv : Rd W v b) :
    Calls Tryz.prog 149 #[v] W fun e w' => ∃ v', e = .returned (.tuple #[v', .int .i64 (sAt b), .int .i64 (sErr b)]) ∧ Below W.heap.size W w' ∧
      (sErr b = 0 → ∃ A c xs, v' = .slice A (Sp b 0).1.length c ∧ Uj w' (W.heap.size + 6) (Sp b 0).1 A c xs) := by
  refine callsIn_wide.1 (callsIn_of_wp_marks (n := 3) Tryz.func149 rfl trivial ?_ rfl)
  refine wpIn_wide.2 ?_
  obtain ⟨A, c, rfl, -⟩ := id hv
  have HV := Lib.hid hv; clear hv
  simp only [Tryz.ntmps149, List.size_toArray, List.length_cons, List.length_nil, Nat.reduceAdd, Nat.reduceSub, Array.replicate_succ, Array.replicate_zero, List.push_toArray, List.append_toArray, List.nil_append, List.cons_append]
  by_cases hlong : 4194304 < b.length
  · have he : sErr b = 2 := by unfold sErr; rw [if_pos hlong]
    have ha : sAt b = 0 := by unfold sAt; rw [if_pos hlong]
    have hl : 4194304 < (b.length : Int) := by omega
    go_wp2_with fail
    exact ⟨_, results_tmp3 rfl _ _ _, _, by rw [ha, he]; rfl, Below.refl _ _, fun h => by rw [he] at h; exact absurd h (by decide)⟩
  · have hl : (b.length : Int) ≤ 4194304 := by omega
    go_wp2_with (go_at_call 9999)
    go_at_call 155
    refine (pieces _ _ _ _ ⟨_, rfl⟩ ⟨_, rfl⟩ ⟨_, _, _, rfl⟩).mono ?_
    rintro _ w2 ⟨rfl, rfl⟩
    go_wp2_with fail
    obtain ⟨w2, hw2⟩ : ∃ y, y = ((((((W.alloc (.cells #[.slice none 0 0] 53)).alloc (.cells #[.int .i64 0] 3)).alloc (.cells #[.int .i64 0] 37)).alloc (.cells #[.slice A b.length c] 23)).alloc (.cells #[.pointer (some ⟨W.heap.size + 1, 0, none⟩)] 158)).alloc (.cells #[.pointer (some ⟨W.heap.size + 1 + 1, 0, none⟩)] 241)) := ⟨_, rfl⟩
    have hs2 : w2.heap.size = W.heap.size + 6 := by rw [hw2]; simp
    have hB2 : Below W.heap.size W w2 := by
      rw [hw2]
      exact ((((((Below.refl _ W).alloc (Nat.le_refl _) _).alloc (by simp) _).alloc (by simp; omega) _).alloc (by simp; omega) _).alloc (by simp; omega) _).alloc (by simp; omega) _
    have hblk := six W (.cells #[.slice none 0 0] 53) (.cells #[.int .i64 0] 3) (.cells #[.int .i64 0] 37) (.cells #[.slice A b.length c] 23) (.cells #[.pointer (some ⟨W.heap.size + 1, 0, none⟩)] 158) (.cells #[.pointer (some ⟨W.heap.size + 1 + 1, 0, none⟩)] 241)
    rw [← hw2] at hblk
    rw [← hw2]
    clear hw2
    have HS2 := Lib.hid hs2; have HB2 := Lib.hid hB2; have HBLK := Lib.hid hblk
    clear hs2 hB2 hblk
    refine rangeLaw (m := 1) (gf := 157) rfl (enters_of Tryz.func157 (by kernel_rfl) rfl) (encs := encI) (fun _ => rfl)
      (Ab := Gt.Ab (W.heap.size + 1) (W.heap.size + 1 + 1)) (Kp := Gt.Kp (W.heap.size + 6) W.heap.size) (Ok := Okx (.slice A b.length c)) (Fin := Fin b (W.heap.size + 1) (W.heap.size + 1 + 1))
      (fun _ _ _ _ h hr ho => h.others _ _ hr ho) ?gives (fun _ _ _ h k => h.trans k) (fun X r o o' h ho => Gt.Kp.put X r o o' h ho) (JS W) (fun _ _ _ h hab => h.ab hab) (fun _ _ r o o' hr h ho hc => h.put r o o' (by rw [HS2.out] at hr; exact hr) ho hc) ?start
      (fun x => { tmps := #[.slice A b.length c, undef, .slice none 0 0, .int .i64 0, .int .i64 0, .pointer (some ⟨W.heap.size, 0, none⟩), .pointer (some ⟨W.heap.size + 1, 0, none⟩), .pointer (some ⟨W.heap.size + 1 + 1, 0, none⟩), x.1, .slice A b.length c, .int .i64 b.length, .bool (decide (4194304 < (b.length : Int))), .slice A b.length c,
        .func (.func 157) #[] #[.pointer (some ⟨W.heap.size + 1 + 1 + 1, 0, none⟩), .pointer (some ⟨W.heap.size + 1 + 1 + 1 + 1, 0, none⟩), .pointer (some ⟨W.heap.size + 1 + 1 + 1 + 2, 0, none⟩)], x.1, undef, undef, undef, undef, undef, undef, undef, undef, undef, undef], defers := [] })
      ?assign ?body (fun _ _ _ r o o' h ho hc => h.put r o o' ho hc) (fun _ _ r o o' h ho hc => Fin.put h r o o' ho hc) ?done
    case gives =>
      obtain ⟨q0, q1, q2, q3, q4, q5⟩ := HBLK.out
      have hov : ∀ k, (Value.slice A b.length c).ownBlock = some k → 0 < b.length → k < W.heap.size := by
        intro k hk h0
        obtain ⟨ad, rfl, hc⟩ := (HV.out).at_ 0 h0
        have := World.block_lt_of_cell? W _ hc
        rw [show (ad.add 0).block = ad.block by unfold Addr.add; split <;> rfl] at this
        simp [Value.ownBlock] at hk
        omega
      exact Gt.gives 1 (.slice A b.length c) b _ _ _ _ _ W.heap.size (W.heap.size + 6) w2 ⟨q3, q4, q5, ⟨0, q1⟩, q2, (HV.out).below HB2.out⟩ (by omega) (by omega) (by omega) (by omega) (by omega) (by omega) (fun h0 k hk => by have := hov k hk h0; omega) (by omega)
    case start =>
      obtain ⟨q0, q1, q2, q3, q4, q5⟩ := HBLK.out
      intro o o'
      have hb : Below w2.heap.size w2 ((w2.alloc o).alloc o') := (vb _ _).trans ((vb _ _).mono (by simp))
      have h0 : JS W [] w2 := ⟨⟨HB2.out, by rw [HS2.out]; exact Nat.le_refl _⟩, none, 0, [], q0, Uj.nil _ _⟩
      exact h0.below hb
    case assign =>
      intro l x X K hK
      clear hl hlong
      simp only [encI]
      gi_wp2
      exact hK
    case body =>
      rintro l pre x X ⟨⟨hW, hWs⟩, Ai, ci, ys, hbx, hu⟩ ⟨hlen, hrd, hxl, -⟩
      clear hl hlong
      obtain ⟨A1, c1, w1, hap1, ho1, hb1⟩ := run_copy u8 23 hrd.drew (by omega)
      have hbX : Below X.heap.size X w1 := (Below.refl X.heap.size X).drew.trans hb1
      have hbx1 := below_hp hbx hbX
      have hu1 := hu.below hbX
      have hs1 := hbX.size
      have hrw := hu1.row
      rw [List.length_map] at hrw
      obtain ⟨A', c', w8, hap2, hrow8, hs8, hos, htp, hou, hk8, hown8⟩ := pushI hrw (by omega) (by omega) (.slice A1 x.2.length c1) (by intro u hu; simp at hu; rw [hu]; rfl)
      have hrowlt : ∀ k, (Value.slice Ai pre.length ci).ownBlock = some k → W.heap.size + 6 ≤ k ∧ k < X.heap.size := fun k hk => by
        have := hu.row
        rw [List.length_map] at this
        exact World.ownsRow.lt this k hk
      have hg18 : w1.grownBy w8 (Value.slice Ai pre.length ci).ownBlock := ⟨hos, htp, hou, by omega, fun q hq hne => hk8 q hq (fun e => hne e.symm)⟩
      have hud : Uj w8 (W.heap.size + 6) (pre.map (·.2) ++ [x.2]) A' c' (ys ++ [.slice A1 x.2.length c1]) := by
        refine hu1.step x.2 A1 c1 (by omega) (ho1.mono (by have : X.drew.heap.size = X.heap.size := rfl; omega)) (fun k hk e => ?_) ?_ ?_ ?_
        · have h1 := (ho1.lt k hk).1
          rw [List.length_map] at e
          have h2 := (hrowlt k e).2
          have : X.drew.heap.size = X.heap.size := rfl
          omega
        · rw [List.length_map]; exact hrow8
        · rw [List.length_map]; exact hg18
        · rw [List.length_map]; exact hown8
      have hbx8 : Pa.hp w8 W.heap.size = some (.cells #[.slice Ai pre.length ci] 53 (0, 0)) := (hk8 _ (Array.getElem?_eq_some_iff.1 hbx1).1 (fun e => by have := (hrowlt _ e).1; omega)).trans hbx1
      have hkp : KeepsOthers X (w8.setCell ⟨W.heap.size, 0, none⟩ (.slice A' (pre.length + 1) c')) ∧ Gt.Kp (W.heap.size + 6) W.heap.size X (w8.setCell ⟨W.heap.size, 0, none⟩ (.slice A' (pre.length + 1) c')) ∧ JS W (pre ++ [x]) (w8.setCell ⟨W.heap.size, 0, none⟩ (.slice A' (pre.length + 1) c')) := by
        have hkeep : ∀ (k : Nat) (o : Obj), X.heap[k]? = some o → (Value.slice Ai pre.length ci).ownBlock ≠ some k → k ≠ W.heap.size → (w8.setCell ⟨W.heap.size, 0, none⟩ (.slice A' (pre.length + 1) c')).heap[k]? = some o := by
          intro k o hk hne hnb
          have hlt := (Array.getElem?_eq_some_iff.1 hk).1
          exact (heap_setCell_other _ _ _ _ hnb).trans ((hk8 k (by omega) hne).trans ((hbX.block k hlt).trans hk))
        have hszf : (w8.setCell ⟨W.heap.size, 0, none⟩ (.slice A' (pre.length + 1) c')).heap.size = w8.heap.size := by simp [World.setCell]
        refine ⟨⟨by rw [hszf]; omega, fun k o hk ho => hkeep k o hk (fun e => ?_) (fun e => ?_)⟩, ⟨by rw [hszf]; omega, fun r cc tt fr hr hne hk => hkeep r _ hk (fun e => by have := (hrowlt r e).1; omega) hne⟩, ⟨?_, by rw [hszf]; omega⟩, A', c', ys ++ [.slice A1 x.2.length c1], ?_, ?_⟩
        · have h1 := hu.row
          rw [List.length_map] at h1
          obtain ⟨cc, tt, fr, hc⟩ := row_cells h1 e
          rw [hk] at hc
          cases hc
          cases ho
        · subst e
          rw [show X.heap[W.heap.size]? = _ from hbx] at hk
          cases hk
          cases ho
        · exact ((hW.trans (hbX.mono hW.size)).grown hg18 (by have := hW.size; omega) (fun k e => by have := (hrowlt k e).1; omega)).setCell (Nat.le_refl _) _
        · rw [List.length_append, List.length_singleton]
          exact heap_setCell_same w8 W.heap.size 0 _ _ _ hbx8
        · rw [List.map_append, List.map_singleton]
          exact hud.grown (grown_set w8 W.heap.size 0 _) (fun k e => by cases e; omega)
      have HKP := Lib.hid hkp
      have hcx := fun i => hp_cell hbx i
      have hcd : ∀ i, X.drew.cell? ⟨W.heap.size, i, none⟩ = (#[Value.slice Ai pre.length ci] : Array Value)[i]? := fun i => hp_cell hbx i
      have hcx1 := fun i => hp_cell hbx1 i
      have hcx1a : ∀ (o : Obj) i, (w1.alloc o).cell? ⟨W.heap.size, i, none⟩ = (#[Value.slice Ai pre.length ci] : Array Value)[i]? := fun o i => hp_cell (below_hp hbx1 (vb w1 o)) i
      have hcx8 := fun i => hp_cell hbx8 i
      have hfx8 := fun i => hp_frozen hbx8 i
      clear hkp hud hg18 hrowlt hrw hu1 hu hbx hbx1 hbx8 hrow8 hos htp hou hk8 hown8 hs8 hW hrd ho1 hb1 hbX hs1 hWs
      have hmx : Tryz.prog.follows .mixedOrders = true := by kernel_rfl
      gi_wp2
      gi_region_with_o (fail)
      all_goals gi_wp2
      all_goals exact HKP.out
    case done =>
      rintro D xs X hD ⟨hxs, hwhy, z, hat, hz⟩ ⟨⟨hW, hWs⟩, Ai, ci, ys, hbx, hu⟩ hdef
      have hcw := fun i => hp_cell hwhy i
      have hca := fun i => hp_cell hat i
      have hcb := fun i => hp_cell hbx i
      have hput : Below W.heap.size W (X.putObj D (.deferred none)) ∧ Uj (X.putObj D (.deferred none)) (W.heap.size + 6) (xs.map (·.2)) Ai ci ys :=
        ⟨hW.grown (grownBy_putObj' X D (.deferred none)) hW.size (fun k e => by cases e; rw [HS2.out] at hD; omega), hu.put D _ _ hdef rfl⟩
      have HPUT2 := Lib.hid (show Below W.heap.size W (X.drew.putObj D (.deferred none)) from hW.drew.grown (grownBy_putObj' X.drew D (.deferred none)) hW.size (fun k e => by cases e; rw [HS2.out] at hD; omega))
      rw [hxs] at hput
      have hlx : xs.length = (Sp b 0).1.length := by have := congrArg List.length hxs; simpa using this
      have HPUT := Lib.hid hput; have HDEF := Lib.hid hdef; have HLX := Lib.hid hlx; have HZ := Lib.hid hz
      clear hput hwhy hat hbx hu hW hWs hlx hz hdef hD
      by_cases h0 : (Sp b 0).2 = 0
      · have he : sErr b = 0 := by unfold sErr; rw [if_neg hlong]; exact h0
        have ha : sAt b = 0 := by unfold sAt; rw [if_neg hlong, if_pos h0]
        rw [h0] at hcw
        go_wp2_with fail
        refine ⟨by simp, .inl ⟨_, _, rfl, run_takeDeferred HDEF.out, ?_⟩⟩
        exact ⟨_, results_tmp3 rfl _ _ _, _, by rw [ha, he]; rfl, HPUT.out.1, fun _ => ⟨Ai, ci, ys, by rw [← HLX.out]; rfl, HPUT.out.2⟩⟩
      · have hput2 : Below W.heap.size W (X.drew.putObj D (.deferred none)) := HPUT2.out
        have he : sErr b = (Sp b 0).2 := by unfold sErr; rw [if_neg hlong]
        have ha : sAt b = z := by unfold sAt; rw [if_neg hlong, if_neg h0, HZ.out h0]
        go_wp2_with fail
        go_region
        all_goals go_wp2_with fail
        all_goals refine ⟨by simp, .inl ⟨_, _, rfl, run_takeDeferred HDEF.out, ?_⟩⟩
        all_goals exact ⟨_, results_tmp3 rfl _ _ _, _, by rw [ha, he]; rfl, hput2, fun h => by rw [he] at h; exact absurd h h0⟩
end Go.Proofs.YtinngljphjdpoaaGreatDoor.Gi
/- What bytes read as by a schema, and the readings of single values by the program. -/
namespace Go.Proofs.YtinngljphjdpoaaGreatDoor.Rv
open Go Go.RowKit Go.Proofs.YtinngljphjdpoaaGreatDoor.Pa Go.Proofs.YtinngljphjdpoaaGreatDoor.Pb Go.Proofs.YtinngljphjdpoaaGreatDoor.Pf Go.Proofs.YtinngljphjdpoaaGreatDoor.Nz Go.Proofs.YtinngljphjdpoaaGreatDoor.Nm Go.Proofs.YtinngljphjdpoaaGreatDoor.Sc Go.Proofs.YtinngljphjdpoaaGreatDoor.Rs Go.Proofs.YtinngljphjdpoaaGreatDoor.Hs Go.Proofs.YtinngljphjdpoaaGreatDoor.Va Go.Proofs.YtinngljphjdpoaaGreatDoor.Vu Go.Proofs.YtinngljphjdpoaaGreatDoor.Vg Go.Proofs.YtinngljphjdpoaaGreatDoor.Vh Go.Proofs.YtinngljphjdpoaaGreatDoor.Ca Go.Proofs.YtinngljphjdpoaaGreatDoor.Ce Go.Proofs.YtinngljphjdpoaaGreatDoor.Gp Go.Proofs.YtinngljphjdpoaaGreatDoor.Hp Go.Proofs.YtinngljphjdpoaaGreatDoor.Hq Go.Proofs.YtinngljphjdpoaaGreatDoor.Gq Go.Proofs.YtinngljphjdpoaaGreatDoor.Gw Go.Proofs.YtinngljphjdpoaaGreatDoor.Gi
set_option linter.unusedVariables false
set_option linter.unusedSimpArgs false
def va0 : Vu.Va := .mk 0 [] []
/-- The slots' values out of the fields, each at its place. -/
def rGo (f : Slot → Ep.Fd → Int → Flt × Vu.Va) : List Slot → List Ep.Fd → Int → Flt × List Vu.Va
  | [], [], _ => ((0, 0, 0), [])
  | [], _ :: _, p => ((0, p, 81), [])
  | _ :: _, [], p => ((0, p, 81), [])
  | t :: s, g :: fs, p =>
    if g.no ≠ t.no then ((0, p, 81), [])
    else if g.ty ≠ (wt t.kind : Int) then ((0, p, 82), [])
    else if (f t g p).1.2.2 ≠ 0 then ((f t g p).1, [])
    else ((rGo f s fs (p + (Ep.one g).length)).1, (f t g p).2 :: (rGo f s fs (p + (Ep.one g).length)).2)
/-- The items' values, each at its place. -/
def iGo (f : List UInt8 → Int → Flt × Vu.Va) : List (List UInt8) → Int → Flt × List Vu.Va
  | [], _ => ((0, 0, 0), [])
  | x :: l, p =>
    if (f x (p + sz x.length)).1.2.2 ≠ 0 then ((f x (p + sz x.length)).1, [])
    else ((iGo f l (p + sz x.length + x.length)).1, (f x (p + sz x.length)).2 :: (iGo f l (p + sz x.length + x.length)).2)
/-- Where a field's bytes begin. -/
def inPl (g : Ep.Fd) (p : Int) : Int := p + sz (8 * g.no.toNat + g.ty.toNat) + sz g.data.length
/-- A slot's value out of its field. -/
def rSlot (U : List UInt8 → Bool) (d : List Slot → List UInt8 → Int → Flt × Vu.Va) (t : Slot) (g : Ep.Fd) (p : Int) : Flt × Vu.Va :=
  if t.kind = 8 then d t.sub g.data (inPl g p)
  else if t.kind = 9 then
    (if sErr g.data ≠ 0 then ((0, inPl g p + sAt g.data, sErr g.data), va0)
     else if Vu.within (Sp g.data 0).1.length t.least t.most ≠ 0 then ((0, p, 83), va0)
     else ((iGo (d t.sub) (Sp g.data 0).1 (inPl g p)).1, .mk 0 [] (iGo (d t.sub) (Sp g.data 0).1 (inPl g p)).2))
  else if Vu.badOf pF U t (.mk g.num g.data []) 0 ≠ 0 then ((0, p, Vu.badOf pF U t (.mk g.num g.data []) 0), va0)
  else ((0, 0, 0), .mk g.num g.data [])
/-- A message's value, less than n levels deep. -/
def rdv (U : List UInt8 → Bool) : Nat → List Slot → List UInt8 → Int → Flt × Vu.Va
  | 0, _, _, _ => ((0, 0, 0), va0)
  | n + 1, s, b, p =>
    if wErr b ≠ 0 then ((0, p + wAt b, wErr b), va0)
    else ((rGo (rSlot U (rdv U n)) s (D b 0 0).fs p).1, .mk 0 [] (rGo (rSlot U (rdv U n)) s (D b 0 0).fs p).2)
theorem rdv_succ (U : List UInt8 → Bool) (n : Nat) (s : List Slot) (b : List UInt8) (p : Int) : rdv U (n + 1) s b p = if wErr b ≠ 0 then ((0, p + wAt b, wErr b), va0) else ((rGo (rSlot U (rdv U n)) s (D b 0 0).fs p).1, .mk 0 [] (rGo (rSlot U (rdv U n)) s (D b 0 0).fs p).2) := rfl
/-- Where nothing is wrong the fields are all the bytes. -/
theorem D_all : ∀ (n : Nat) (l : List UInt8) (count : Nat) (last : Int), l.length = n → l.length ≤ 100000000 → (D l count last).err = 0 → l = Ep.bytes (D l count last).fs := by
  intro n
  induction n using Nat.strongRecOn with
  | _ n ih =>
    intro l count last hn hl he
    by_cases h0 : 0 < l.length
    · obtain ⟨e, o, f, k, h⟩ : ∃ e o f k, fld l count last = (e, o, f, k) := ⟨_, _, _, _, rfl⟩
      by_cases hz : e = 0
      · subst hz
        have hk := fld_ok (o := 0) h hl
        rw [D_step h0 h hl] at he ⊢
        have := ih (l.drop k).length (by simp; omega) (l.drop k) (count + 1) f.no rfl (by simp; omega) he
        simp only [Ep.bytes]
        rw [← this, ← hk.2.2.2.1, List.take_append_drop]
      · rw [D_bad h0 h hz] at he
        exact absurd he hz
    · have : l = [] := List.eq_nil_of_length_eq_zero (by omega)
      subst this
      rfl
/-- What each field is. -/
theorem D_fld : ∀ (n : Nat) (l : List UInt8) (count : Nat) (last : Int), l.length = n → l.length ≤ 100000000 → ∀ f ∈ (D l count last).fs, 1 ≤ f.no ∧ f.no ≤ 536870911 ∧ (f.ty = 0 ∨ f.ty = 1 ∨ f.ty = 5 ∨ f.ty = 2) ∧ f.num < 18446744073709551616 ∧ f.data.length ≤ l.length ∧ (f.ty = 2 → f.num = 0) ∧ (f.ty ≠ 2 → f.data = []) := by
  intro n
  induction n using Nat.strongRecOn with
  | _ n ih =>
    intro l count last hn hl f hf
    by_cases h0 : 0 < l.length
    · obtain ⟨e, o, g, k, h⟩ : ∃ e o g k, fld l count last = (e, o, g, k) := ⟨_, _, _, _, rfl⟩
      by_cases hz : e = 0
      · subst hz
        have hk := fld_ok (o := 0) h hl
        rw [D_step h0 h hl] at hf
        simp only [List.mem_cons] at hf
        rcases hf with rfl | hf
        · obtain ⟨-, -, -, -, hw, -, k1, k2, k3, k4, k5, -⟩ := hk
          have hn : ¬ (f.no < 1 ∨ 536870911 < f.no ∨ f.no ≤ last) := by
            intro hq
            unfold Ep.wrong at hw
            rw [if_pos hq] at hw
            exact absurd hw (by decide)
          unfold Ep.wrong at hw
          rw [if_neg hn] at hw
          refine ⟨k1, k2, k3, k4, k5, fun h2 => ?_, fun h2 => ?_⟩
          · rw [if_pos h2] at hw
            by_cases hq : f.num = 0
            · exact hq
            · rw [if_pos hq] at hw
              exact absurd hw (by decide)
          · rw [if_neg h2, if_pos (by omega)] at hw
            by_cases hq : f.data.length = 0
            · exact List.eq_nil_of_length_eq_zero hq
            · rw [if_pos (.inl hq)] at hw
              exact absurd hw (by decide)
        · have := ih (l.drop k).length (by simp; omega) (l.drop k) (count + 1) g.no rfl (by simp; omega) f hf
          simp only [List.length_drop] at this
          exact ⟨this.1, this.2.1, this.2.2.1, this.2.2.2.1, by have := this.2.2.2.2.1; omega, this.2.2.2.2.2⟩
      · rw [D_bad h0 h hz] at hf
        simp at hf
    · have : l = [] := List.eq_nil_of_length_eq_zero (by omega)
      subst this
      simp [D_nil] at hf
set_option maxHeartbeats 1000000 in
set_option maxRecDepth 100000 in
/-- inside: where the bytes of a field begin. -/
theorem inside (no ty : Int) (num : Nat) (A : Option Addr) (c : Nat) (data : List UInt8) (p : Int) (w : World) (h1 : 1 ≤ no) (h2 : no ≤ 536870911) (h3 : 0 ≤ ty ∧ ty ≤ 7) (hd : data.length ≤ 4194304) (hp0 : 0 ≤ p) (hp1 : p ≤ 1500000000000000) :
    Calls Tryz.prog 126 #[.agg #[.int .i64 no, .int .i64 ty, .int .u64 (num : Int), .slice A data.length c], .int .i64 p] w fun e w' => e = .returned (.int .i64 (inPl ⟨no, ty, num, data⟩ p)) ∧ Below w.heap.size w w' := by
  obtain ⟨no', rfl⟩ := Int.eq_ofNat_of_zero_le (show 0 ≤ no by omega)
  obtain ⟨ty', rfl⟩ := Int.eq_ofNat_of_zero_le h3.1
  obtain ⟨p', rfl⟩ := Int.eq_ofNat_of_zero_le hp0
  obtain ⟨w1, hw1⟩ : ∃ y, y = w.alloc (.cells #[.int .i64 (no' : Int), .int .i64 (ty' : Int), .int .u64 (num : Int), .slice A data.length c] 140) := ⟨_, rfl⟩
  have hb1 : Below w.heap.size w w1 := by rw [hw1]; exact Ea.vb _ _
  have hg1 : Pa.hp w1 w.heap.size = some (.cells #[.int .i64 (no' : Int), .int .i64 (ty' : Int), .int .u64 (num : Int), .slice A data.length c] 140 (0, 0)) := by rw [hw1]; exact hp_alloc_at _ _ rfl
  have k0 : w1.cell? ⟨w.heap.size, 0, none⟩ = some (.int .i64 (no' : Int)) := by rw [hp_cell hg1]; rfl
  have k1 : w1.cell? ⟨w.heap.size, 1, none⟩ = some (.int .i64 (ty' : Int)) := by rw [hp_cell hg1]; rfl
  have k3 : w1.cell? ⟨w.heap.size, 3, none⟩ = some (.slice A data.length c) := by rw [hp_cell hg1]; rfl
  have hsz1 := sz_u64 (8 * no' + ty') (by omega)
  have hsz2 := sz_u64 data.length (by omega)
  have s1 : ∀ w, Calls Tryz.prog 112 #[.int .u64 (8 * (no' : Int) + (ty' : Int))] w fun e w' => e = .returned (.int .i64 (sz (8 * no' + ty') : Nat)) ∧ w = w' := fun w => by
    have := size (8 * no' + ty') (by omega) w
    push_cast at this
    exact this
  have S1 := Lib.hid s1
  clear s1
  have S2 := Lib.hid (fun w => size data.length (by omega) w)
  have hin : inPl ⟨(no' : Int), (ty' : Int), num, data⟩ (p' : Int) = ((p' + sz (8 * no' + ty') + sz data.length : Nat) : Int) := by simp [inPl]
  rw [hin]
  have hq1 : IntKind.u64.wrap (no' : Int) = (no' : Int) := by rw [IntKind.wrap_u64]; omega
  have hq2 : IntKind.u64.wrap (8 * (no' : Int)) = 8 * (no' : Int) := by rw [IntKind.wrap_u64]; omega
  have hq3 : IntKind.u64.wrap (ty' : Int) = (ty' : Int) := by rw [IntKind.wrap_u64]; omega
  have hq4 : IntKind.u64.wrap (8 * (no' : Int) + (ty' : Int)) = 8 * (no' : Int) + (ty' : Int) := by rw [IntKind.wrap_u64]; omega
  have hq5 : IntKind.u64.wrap (data.length : Int) = (data.length : Int) := by rw [IntKind.wrap_u64]; omega
  have HB1 := Lib.hid hb1
  generalize sz (8 * no' + ty') = z1 at *
  generalize sz data.length = z2 at *
  have e1 : IntKind.i64.wrap ((p' : Int) + (z1 : Int)) = (p' : Int) + (z1 : Int) := by rw [IntKind.wrap_i64]; omega
  have e2 : IntKind.i64.wrap ((p' : Int) + (z1 : Int) + (z2 : Int)) = (p' : Int) + (z1 : Int) + (z2 : Int) := by rw [IntKind.wrap_i64]; omega
  clear hg1 hb1 hin
  go_enter Tryz.func126, Tryz.ntmps126
  go_upto_region 1 with fail
  rw [← hw1]
  clear hw1
  go_region_held3 (fun w' => w'.cell? ⟨w.heap.size, 0, none⟩ = some (.int .i64 (no' : Int)) ∧ w'.cell? ⟨w.heap.size, 1, none⟩ = some (.int .i64 (ty' : Int)) ∧ w'.cell? ⟨w.heap.size, 3, none⟩ = some (.slice A data.length c)) (go_keep) (first | (go_at_call 112; (first | (with_reducible refine (S1.out _).mono ?_) | (with_reducible refine (S2.out _).mono ?_)); rintro _ w6 ⟨rfl, rfl⟩))
  all_goals
    go_wp2_with fail
    go_ret
    exact ⟨by simp [e1, e2], HB1.out.drew⟩
end Go.Proofs.YtinngljphjdpoaaGreatDoor.Rv
/- fit, and the closures that read a number or bytes. -/
namespace Go.Proofs.YtinngljphjdpoaaGreatDoor.Rw
open Go Go.RowKit Go.Proofs.YtinngljphjdpoaaGreatDoor.Pa Go.Proofs.YtinngljphjdpoaaGreatDoor.Pb Go.Proofs.YtinngljphjdpoaaGreatDoor.Pf Go.Proofs.YtinngljphjdpoaaGreatDoor.Nz Go.Proofs.YtinngljphjdpoaaGreatDoor.Nm Go.Proofs.YtinngljphjdpoaaGreatDoor.Sc Go.Proofs.YtinngljphjdpoaaGreatDoor.Rs Go.Proofs.YtinngljphjdpoaaGreatDoor.Hs Go.Proofs.YtinngljphjdpoaaGreatDoor.Va Go.Proofs.YtinngljphjdpoaaGreatDoor.Vu Go.Proofs.YtinngljphjdpoaaGreatDoor.Vg Go.Proofs.YtinngljphjdpoaaGreatDoor.Vh Go.Proofs.YtinngljphjdpoaaGreatDoor.Ca Go.Proofs.YtinngljphjdpoaaGreatDoor.Ce Go.Proofs.YtinngljphjdpoaaGreatDoor.Ea Go.Proofs.YtinngljphjdpoaaGreatDoor.Gp Go.Proofs.YtinngljphjdpoaaGreatDoor.Hx Go.Proofs.YtinngljphjdpoaaGreatDoor.Rv
set_option linter.unusedVariables false
set_option linter.unusedSimpArgs false
theorem set3v {w : World} {g : Nat} {p q r : Value} {t : TypeId} (h : Pa.hp w g = some (.cells #[p, q, r] t (0, 0))) (a b c : Value) : Pa.hp (((w.setCell ⟨g, 0, none⟩ a).setCell ⟨g, 1, none⟩ b).setCell ⟨g, 2, none⟩ c) g = some (.cells #[a, b, c] t (0, 0)) := by
  have h1 := heap_setCell_same w g 0 _ _ a h
  have h2 := heap_setCell_same _ g 1 _ _ b h1
  exact heap_setCell_same _ g 2 _ _ c h2
/-- How the reading of one value ends. -/
def FitEnds (bd at_ : Int) (v : Value) (w : World) (e : Ending) (w' : World) : Prop := ((bd = 0 ∧ e = .returned v) ∨ (bd ≠ 0 ∧ e = gave (0, at_, bd))) ∧ Below w.heap.size w w'
set_option maxHeartbeats 1000000 in
set_option maxRecDepth 100000 in
theorem fit (sh : Value) (num dl c : Nat) (A : Option Addr) (at_ bd : Int) (w : World)
    (hbad : ∀ w1, Below w.heap.size w w1 → Calls Tryz.prog 118 #[sh, .agg #[.int .u64 (num : Int), .slice A dl c, .slice none 0 0], .int .i64 0] w1 fun e w2 => e = .returned (.int .i64 bd) ∧ Below w1.heap.size w1 w2) :
    Calls Tryz.prog 121 #[sh, .agg #[.int .u64 (num : Int), .slice A dl c, .slice none 0 0], .int .i64 at_] w (FitEnds bd at_ (.agg #[.int .u64 (num : Int), .slice A dl c, .slice none 0 0]) w) := by
  obtain ⟨w1, hw1⟩ : ∃ y, y = (w.alloc (.cells #[.int .u64 (num : Int), .slice A dl c, .slice none 0 0] 32)).alloc (.cells #[.int .u64 0, .slice none 0 0, .slice none 0 0] 32) := ⟨_, rfl⟩
  have hb1 : Below w.heap.size w w1 := by rw [hw1]; exact Vh.b2 w _ _
  have hg1 : Pa.hp w1 w.heap.size = some (.cells #[.int .u64 (num : Int), .slice A dl c, .slice none 0 0] 32 (0, 0)) := by rw [hw1]; exact below_hp (hp_alloc_at _ _ rfl) (vb _ _)
  have hr1 : Pa.hp w1 (w.heap.size + 1) = some (.cells #[.int .u64 0, .slice none 0 0, .slice none 0 0] 32 (0, 0)) := by rw [hw1]; exact hp_alloc_at _ _ (by simp)
  have BAD := Lib.hid (hbad w1 hb1)
  have hc1 := fun i => hp_cell hg1 i
  have HG := Lib.hid hg1; have HR := Lib.hid hr1; have HB := Lib.hid hb1
  clear hbad hg1 hr1 hb1
  go_enter Tryz.func121, Tryz.ntmps121
  go_upto_region 1 with fail
  rw [← hw1]
  clear hw1
  go_wp2_with (go_at_call 9999)
  go_at_call 118
  refine BAD.out.mono ?_
  rintro _ w2 ⟨rfl, b2⟩
  have hg2 := below_hp HG.out b2
  have hr2 := below_hp HR.out b2
  have hc2 := fun i => hp_cell hg2 i
  have hcr := fun i => hp_cell hr2 i
  have hfr := fun i => hp_frozen hr2 i
  have HB2 := Lib.hid (HB.out.trans (b2.mono HB.out.size))
  have HR2 := Lib.hid hr2
  have GV := Lib.hid (fun w => Vg.give 0 at_ bd w)
  clear hg2 hr2 b2 hc1
  by_cases h0 : bd = 0
  · subst h0
    go_wp2_with fail
    refine ret_row Tryz.results121 Tryz.underlying32 rfl (by kernel_rfl) rfl (set3v HR2.out _ _ _) rfl ⟨.inl ⟨rfl, rfl⟩, ?_⟩
    exact ((HB2.out.setCell (by dsimp only; omega) _).setCell (by dsimp only; omega) _).setCell (by dsimp only; omega) _
  · go_wp2_with (go_at_call 9999)
    go_at_call 86
    refine (GV.out _).mono ?_
    rintro _ w3 ⟨rfl, rfl⟩
    exact ⟨rfl, .inr ⟨h0, rfl⟩, HB2.out⟩
set_option maxHeartbeats 1000000 in
set_option maxRecDepth 100000 in
/-- The closure that reads a number. -/
theorem ready4 (tt : TypeId) (sv : Value) (no ty : Int) (num dl c b4 : Nat) (A : Option Addr) (at_ bd : Int) (w : World) (hm : Pa.hp w b4 = some (.cells #[.iface tt sv] 194 (0, 0)))
    (hbad : ∀ w1, Below w.heap.size w w1 → Calls Tryz.prog 118 #[.iface tt sv, .agg #[.int .u64 (num : Int), .slice none 0 0, .slice none 0 0], .int .i64 0] w1 fun e w2 => e = .returned (.int .i64 bd) ∧ Below w1.heap.size w1 w2) :
    Calls Tryz.prog 120 #[.agg #[.int .i64 no, .int .i64 ty, .int .u64 (num : Int), .slice A dl c], .int .i64 at_, .pointer (some ⟨b4, 0, none⟩)] w (FitEnds bd at_ (.agg #[.int .u64 (num : Int), .slice none 0 0, .slice none 0 0]) w) := by
  obtain ⟨w1, hw1⟩ : ∃ y, y = (w.alloc (.cells #[.int .i64 no, .int .i64 ty, .int .u64 (num : Int), .slice A dl c] 140)).alloc (.cells #[.int .u64 0, .slice none 0 0, .slice none 0 0] 32) := ⟨_, rfl⟩
  have hb1 : Below w.heap.size w w1 := by rw [hw1]; exact Vh.b2 w _ _
  have hg1 : Pa.hp w1 w.heap.size = some (.cells #[.int .i64 no, .int .i64 ty, .int .u64 (num : Int), .slice A dl c] 140 (0, 0)) := by rw [hw1]; exact below_hp (hp_alloc_at _ _ rfl) (vb _ _)
  have hr1 : Pa.hp w1 (w.heap.size + 1) = some (.cells #[.int .u64 0, .slice none 0 0, .slice none 0 0] 32 (0, 0)) := by rw [hw1]; exact hp_alloc_at _ _ (by simp)
  have hm1 := below_hp hm hb1
  have FIT := Lib.hid (fit (.iface tt sv) num 0 0 none at_ bd w1 (fun w2 hb => hbad w2 (hb1.trans (hb.mono hb1.size))))
  have hc1 := fun i => hp_cell hg1 i
  have hcm := fun i => hp_cell hm1 i
  have HR := Lib.hid hr1; have HB := Lib.hid hb1
  clear hbad hg1 hr1 hb1 hm hm1
  go_enter Tryz.func120, Tryz.ntmps120
  go_upto_region 1 with fail
  rw [← hw1]
  clear hw1
  go_wp2_with (go_at_call 9999)
  go_at_call 121
  refine FIT.out.mono ?_
  rintro _ w2 ⟨⟨h0, rfl⟩ | ⟨h0, rfl⟩, b2⟩
  · have hr2 := below_hp HR.out b2
    have hcr := fun i => hp_cell hr2 i
    have hfr := fun i => hp_frozen hr2 i
    have HB2 := Lib.hid (HB.out.trans (b2.mono HB.out.size))
    have HR2 := Lib.hid hr2
    clear hr2 b2 hc1 hcm
    go_wp2_with fail
    refine ret_row Tryz.results120 Tryz.underlying32 rfl (by kernel_rfl) rfl (set3v HR2.out _ _ _) rfl ⟨.inl ⟨h0, rfl⟩, ?_⟩
    exact ((HB2.out.setCell (by dsimp only; omega) _).setCell (by dsimp only; omega) _).setCell (by dsimp only; omega) _
  · exact ⟨rfl, .inr ⟨h0, rfl⟩, HB.out.trans (b2.mono HB.out.size)⟩
set_option maxHeartbeats 1000000 in
set_option maxRecDepth 100000 in
/-- The closure that reads bytes. -/
theorem ready6 (tt : TypeId) (sv : Value) (no ty : Int) (num dl c b4 : Nat) (A : Option Addr) (at_ bd : Int) (w : World) (hm : Pa.hp w b4 = some (.cells #[.iface tt sv] 194 (0, 0)))
    (hbad : ∀ w1, Below w.heap.size w w1 → Calls Tryz.prog 118 #[.iface tt sv, .agg #[.int .u64 0, .slice A dl c, .slice none 0 0], .int .i64 0] w1 fun e w2 => e = .returned (.int .i64 bd) ∧ Below w1.heap.size w1 w2) :
    Calls Tryz.prog 123 #[.agg #[.int .i64 no, .int .i64 ty, .int .u64 (num : Int), .slice A dl c], .int .i64 at_, .pointer (some ⟨b4, 0, none⟩)] w (FitEnds bd at_ (.agg #[.int .u64 0, .slice A dl c, .slice none 0 0]) w) := by
  obtain ⟨w1, hw1⟩ : ∃ y, y = (w.alloc (.cells #[.int .i64 no, .int .i64 ty, .int .u64 (num : Int), .slice A dl c] 140)).alloc (.cells #[.int .u64 0, .slice none 0 0, .slice none 0 0] 32) := ⟨_, rfl⟩
  have hb1 : Below w.heap.size w w1 := by rw [hw1]; exact Vh.b2 w _ _
  have hg1 : Pa.hp w1 w.heap.size = some (.cells #[.int .i64 no, .int .i64 ty, .int .u64 (num : Int), .slice A dl c] 140 (0, 0)) := by rw [hw1]; exact below_hp (hp_alloc_at _ _ rfl) (vb _ _)
  have hr1 : Pa.hp w1 (w.heap.size + 1) = some (.cells #[.int .u64 0, .slice none 0 0, .slice none 0 0] 32 (0, 0)) := by rw [hw1]; exact hp_alloc_at _ _ (by simp)
  have hm1 := below_hp hm hb1
  have FIT := Lib.hid (fit (.iface tt sv) 0 dl c A at_ bd w1 (fun w2 hb => hbad w2 (hb1.trans (hb.mono hb1.size))))
  have hc1 := fun i => hp_cell hg1 i
  have hcm := fun i => hp_cell hm1 i
  have HR := Lib.hid hr1; have HB := Lib.hid hb1
  clear hbad hg1 hr1 hb1 hm hm1
  go_enter Tryz.func123, Tryz.ntmps123
  go_upto_region 1 with fail
  rw [← hw1]
  clear hw1
  go_wp2_with (go_at_call 9999)
  go_at_call 121
  refine FIT.out.mono ?_
  rintro _ w2 ⟨⟨h0, rfl⟩ | ⟨h0, rfl⟩, b2⟩
  · have hr2 := below_hp HR.out b2
    have hcr := fun i => hp_cell hr2 i
    have hfr := fun i => hp_frozen hr2 i
    have HB2 := Lib.hid (HB.out.trans (b2.mono HB.out.size))
    have HR2 := Lib.hid hr2
    clear hr2 b2 hc1 hcm
    go_wp2_with fail
    refine ret_row Tryz.results123 Tryz.underlying32 rfl (by kernel_rfl) rfl (set3v HR2.out _ _ _) rfl ⟨.inl ⟨h0, rfl⟩, ?_⟩
    exact ((HB2.out.setCell (by dsimp only; omega) _).setCell (by dsimp only; omega) _).setCell (by dsimp only; omega) _
  · exact ⟨rfl, .inr ⟨h0, rfl⟩, HB.out.trans (b2.mono HB.out.size)⟩
end Go.Proofs.YtinngljphjdpoaaGreatDoor.Rw
