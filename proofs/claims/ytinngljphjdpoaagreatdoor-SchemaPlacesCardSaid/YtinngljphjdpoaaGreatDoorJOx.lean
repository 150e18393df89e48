/- Values of a call's own, as they lie in memory. -/
import Derived.Test.YtinngljphjdpoaaGreatDoorJUw
import Derived.Test.YtinngljphjdpoaaGreatDoorJRw
import Derived.Test.YtinngljphjdpoaaGreatDoorJRq
import Derived.Test.YtinngljphjdpoaaGreatDoorJRg
namespace Go.Proofs.YtinngljphjdpoaaGreatDoor.Ow
open Go Go.RowKit Go.Proofs.YtinngljphjdpoaaGreatDoor.Pa Go.Proofs.YtinngljphjdpoaaGreatDoor.Pb Go.Proofs.YtinngljphjdpoaaGreatDoor.Pf Go.Proofs.YtinngljphjdpoaaGreatDoor.Sc Go.Proofs.YtinngljphjdpoaaGreatDoor.Rs Go.Proofs.YtinngljphjdpoaaGreatDoor.Hs Go.Proofs.YtinngljphjdpoaaGreatDoor.Vu
set_option linter.unusedVariables false
set_option linter.unusedSimpArgs false
theorem row_keep {w w' : World} {base n size : Nat} {e : TypeId} {v : Value} {xs : List Value} (h : w.ownsRow base e size v n xs) (hk : ∀ k, v.ownBlock = some k → w'.heap[k]? = w.heap[k]?) : w'.ownsRow base e size v n xs := by
  refine ⟨h.1, ?_⟩
  rcases h.2 with ⟨rfl, h0⟩ | ⟨g, cap, cur, rfl, hb, hg, r⟩
  · exact .inl ⟨rfl, h0⟩
  · exact .inr ⟨g, cap, cur, rfl, hb, (hk g rfl).trans hg, r⟩
theorem row_mono {w : World} {base base' n size : Nat} {e : TypeId} {v : Value} {xs : List Value} (h : w.ownsRow base e size v n xs) (hb : base' ≤ base) : w.ownsRow base' e size v n xs := by
  refine ⟨h.1, ?_⟩
  rcases h.2 with h1 | ⟨g, cap, cur, rfl, hb', r⟩
  · exact .inl h1
  · exact .inr ⟨g, cap, cur, rfl, Nat.le_trans hb hb', r⟩
/-- The slice pv holds the values l, less than n levels deep: its rows lie from lo on and below hi, no row in another's way; the bytes are the call's own too, from D on. -/
def OwP (w : World) : Nat → Nat → Nat → Nat → Value → List Va → Prop
  | 0, _, _, _, _, _ => False
  | n + 1, D, lo, hi, pv, l => ∃ (A : Option Addr) (c : Nat) (xs : List Value) (a b : Nat → Nat), pv = .slice A l.length c ∧ w.ownsRow lo 32 3 pv l.length xs ∧ (∀ k, pv.ownBlock = some k → k < hi) ∧
      ∀ i x, l[i]? = some x → (lo ≤ a i ∧ b i ≤ hi ∧ ∀ j, j < i → b j ≤ a i) ∧ x.num < 18446744073709551616 ∧ ∃ dv pv', xs[i * 3]? = some (.int .u64 (x.num : Int)) ∧ xs[i * 3 + 1]? = some dv ∧ xs[i * 3 + 2]? = some pv' ∧
        Pb.Own w D 5 dv x.data ∧ OwP w n D (a i) (b i) pv' x.parts ∧ ∀ k, pv.ownBlock = some k → ¬ (a i ≤ k ∧ k < b i)
def OwV (w : World) (n D lo hi : Nat) (nv dv pv : Value) (x : Va) : Prop := x.num < 18446744073709551616 ∧ nv = .int .u64 (x.num : Int) ∧ Pb.Own w D 5 dv x.data ∧ OwP w n D lo hi pv x.parts
theorem OwP.nil (w : World) (n D lo hi : Nat) (h : lo ≤ hi) : OwP w (n + 1) D lo hi (.slice none 0 0) [] :=
  ⟨none, 0, [], fun _ => lo, fun _ => lo, rfl, World.ownsRow_nil _ _ _ _, fun k hk => by simp [Value.ownBlock] at hk, fun i x hx => by simp at hx⟩
theorem OwP.up {w : World} : ∀ (n n' D lo hi : Nat) (pv : Value) (l : List Va), n ≤ n' → OwP w n D lo hi pv l → OwP w n' D lo hi pv l
  | 0, _, _, _, _, _, _, _, h => h.elim
  | n + 1, 0, _, _, _, _, _, hn, _ => absurd hn (by omega)
  | n + 1, n' + 1, D, lo, hi, pv, l, hn, h => by
    obtain ⟨A, c, xs, a, b, h1, h2, h3, h7⟩ := h
    refine ⟨A, c, xs, a, b, h1, h2, h3, fun i x hx => ?_⟩
    obtain ⟨gm, g0, dv, pv', g1, g2, g3, g4, g5, g6⟩ := h7 i x hx
    exact ⟨gm, g0, dv, pv', g1, g2, g3, g4, OwP.up n n' _ _ _ _ _ (by omega) g5, g6⟩
/-- It stays where the blocks from D and from lo on stay. -/
theorem OwP.keep {w w' : World} : ∀ (n D lo hi : Nat) (pv : Value) (l : List Va), OwP w n D lo hi pv l → (∀ k, D ≤ k ∨ lo ≤ k → k < w.heap.size → w'.heap[k]? = w.heap[k]?) → OwP w' n D lo hi pv l
  | 0, _, _, _, _, _, h, _ => h.elim
  | n + 1, D, lo, hi, pv, l, h, hk => by
    obtain ⟨A, c, xs, a, b, h1, h2, h3, h7⟩ := h
    refine ⟨A, c, xs, a, b, h1, row_keep h2 (fun k hb => hk k (.inr (World.ownsRow.lt h2 k hb).1) (World.ownsRow.lt h2 k hb).2), h3, fun i x hx => ?_⟩
    obtain ⟨gm, g0, dv, pv', g1, g2, g3, g4, g5, g6⟩ := h7 i x hx
    have hm : lo ≤ a i := gm.1
    exact ⟨gm, g0, dv, pv', g1, g2, g3, row_keep g4 (fun k hb => hk k (.inl (World.ownsRow.lt g4 k hb).1) (World.ownsRow.lt g4 k hb).2), OwP.keep n _ _ _ _ _ g5 (fun k hb => hk k (hb.imp id (Nat.le_trans hm))), g6⟩
theorem OwP.below {w w' : World} {n D lo hi : Nat} {pv : Value} {l : List Va} (h : OwP w n D lo hi pv l) (hb : Below w.heap.size w w') : OwP w' n D lo hi pv l := OwP.keep n D lo hi pv l h (fun k _ hk => hb.block k hk)
theorem OwP.hi {w : World} : ∀ (n D lo hi hi' : Nat) (pv : Value) (l : List Va), OwP w n D lo hi pv l → hi ≤ hi' → OwP w n D lo hi' pv l
  | 0, _, _, _, _, _, _, h, _ => h.elim
  | n + 1, D, lo, hi, hi', pv, l, h, hh => by
    obtain ⟨A, c, xs, a, b, h1, h2, h3, h7⟩ := h
    refine ⟨A, c, xs, a, b, h1, h2, fun k hk => Nat.lt_of_lt_of_le (h3 k hk) hh, fun i x hx => ?_⟩
    obtain ⟨gm, r⟩ := h7 i x hx
    exact ⟨⟨gm.1, Nat.le_trans gm.2.1 hh, gm.2.2⟩, r⟩
theorem OwP.lo {w : World} : ∀ (n D lo lo' hi : Nat) (pv : Value) (l : List Va), OwP w n D lo hi pv l → lo' ≤ lo → OwP w n D lo' hi pv l
  | 0, _, _, _, _, _, _, h, _ => h.elim
  | n + 1, D, lo, lo', hi, pv, l, h, hh => by
    obtain ⟨A, c, xs, a, b, h1, h2, h3, h7⟩ := h
    refine ⟨A, c, xs, a, b, h1, row_mono h2 hh, h3, fun i x hx => ?_⟩
    obtain ⟨gm, r⟩ := h7 i x hx
    exact ⟨⟨Nat.le_trans hh gm.1, gm.2⟩, r⟩
theorem OwP.dlo {w : World} : ∀ (n D D' lo hi : Nat) (pv : Value) (l : List Va), OwP w n D lo hi pv l → D' ≤ D → OwP w n D' lo hi pv l
  | 0, _, _, _, _, _, _, h, _ => h.elim
  | n + 1, D, D', lo, hi, pv, l, h, hh => by
    obtain ⟨A, c, xs, a, b, h1, h2, h3, h7⟩ := h
    refine ⟨A, c, xs, a, b, h1, h2, h3, fun i x hx => ?_⟩
    obtain ⟨gm, g0, dv, pv', g1, g2, g3, g4, g5, g6⟩ := h7 i x hx
    exact ⟨gm, g0, dv, pv', g1, g2, g3, row_mono g4 hh, OwP.dlo n _ _ _ _ _ _ g5 hh, g6⟩
theorem row_uniq {w : World} {base n size : Nat} {e : TypeId} {v : Value} {xs ys : List Value} (h : w.ownsRow base e size v n xs) (k : w.ownsRow base e size v n ys) : xs = ys := by
  rcases h.2 with ⟨rfl, h0⟩ | ⟨g, cap, cur, rfl, -, hg, -, -, -, hx⟩
  · have h1 := h.1; have h2 := k.1
    subst h0
    simp at h1 h2
    rw [h1, h2]
  · rcases k.2 with ⟨e1, -⟩ | ⟨g', cap', cur', e1, -, hg', -, -, -, hy⟩
    · simp at e1
    · simp only [Value.slice.injEq, Option.some.injEq, Addr.mk.injEq] at e1
      obtain ⟨⟨rfl, -⟩, -, rfl⟩ := e1
      rw [hg] at hg'
      simp only [Option.some.injEq, Obj.cells.injEq, true_and, and_true] at hg'
      rw [← hx, ← hy, hg']
/-- A row of bytes does not lie where a row of values lies. -/
theorem apart_rows {w : World} {b1 b2 n1 n2 s1 s2 : Nat} {v u : Value} {xs ys : List Value} (h : w.ownsRow b1 32 s1 v n1 xs) (k : w.ownsRow b2 5 s2 u n2 ys) (q : Nat) (hq : v.ownBlock = some q) : u.ownBlock ≠ some q := by
  intro hu
  rcases h.2 with ⟨rfl, -⟩ | ⟨g, cap, cur, rfl, -, hg, -⟩
  · simp [Value.ownBlock] at hq
  · rcases k.2 with ⟨rfl, -⟩ | ⟨g', cap', cur', rfl, -, hg', -⟩
    · simp [Value.ownBlock] at hu
    · simp only [Value.ownBlock, Option.some.injEq] at hq hu
      subst hq hu
      rw [hg] at hg'
      simp at hg'
/-- It stays where one row of values is turned that is none of its own. -/
theorem OwP.keepX {w w' : World} {b0 n0 s0 : Nat} {v0 : Value} {ys : List Value} (h0 : w.ownsRow b0 32 s0 v0 n0 ys) : ∀ (n D lo hi : Nat) (pv : Value) (l : List Va), OwP w n D lo hi pv l → (∀ k, v0.ownBlock = some k → ¬ (lo ≤ k ∧ k < hi)) → (∀ k, D ≤ k ∨ lo ≤ k → k < w.heap.size → v0.ownBlock ≠ some k → w'.heap[k]? = w.heap[k]?) → OwP w' n D lo hi pv l
  | 0, _, _, _, _, _, h, _, _ => h.elim
  | n + 1, D, lo, hi, pv, l, h, hn, hk => by
    obtain ⟨A, c, xs, a, b, h1, h2, h3, h7⟩ := h
    refine ⟨A, c, xs, a, b, h1, row_keep h2 (fun k hb => hk k (.inr (World.ownsRow.lt h2 k hb).1) (World.ownsRow.lt h2 k hb).2 (fun e => hn k e ⟨(World.ownsRow.lt h2 k hb).1, h3 k hb⟩)), h3, fun i x hx => ?_⟩
    obtain ⟨gm, g0, dv, pv', g1, g2, g3, g4, g5, g6⟩ := h7 i x hx
    refine ⟨gm, g0, dv, pv', g1, g2, g3, row_keep g4 (fun k hb => hk k (.inl (World.ownsRow.lt g4 k hb).1) (World.ownsRow.lt g4 k hb).2 (fun e => apart_rows h0 g4 k e hb)), ?_, g6⟩
    exact OwP.keepX h0 n _ _ _ _ _ g5 (fun k e hh => hn k e ⟨Nat.le_trans gm.1 hh.1, Nat.lt_of_lt_of_le hh.2 gm.2.1⟩) (fun k hb => hk k (hb.imp id (Nat.le_trans gm.1)))
/-- One value more behind them. -/
theorem OwP.push {w6 w8 : World} {n D lo hi lo' hi' : Nat} {A A' : Option Addr} {c c' : Nat} {l : List Va} {xs0 : List Value} {dv pv' : Value} (x : Va) (h : OwP w6 (n + 1) D lo hi (.slice A l.length c) l) (hxs : w6.ownsRow lo 32 3 (.slice A l.length c) l.length xs0)
    (hh : hi ≤ lo') (hl : lo ≤ lo') (hlh : lo' ≤ hi') (hsz : hi' ≤ w6.heap.size) (hx : x.num < 18446744073709551616) (hd : Pb.Own w6 D 5 dv x.data) (hp : OwP w6 n D lo' hi' pv' x.parts)
    (h8 : w8.ownsRow lo 32 3 (.slice A' (l.length + 1) c') (l.length + 1) (xs0 ++ [.int .u64 (x.num : Int), dv, pv'])) (hg : w6.grownBy w8 (Value.slice A l.length c).ownBlock)
    (hown : (Value.slice A' (l.length + 1) c').ownBlock = (Value.slice A l.length c).ownBlock ∨ (Value.slice A' (l.length + 1) c').ownBlock = some (w6.heap.size + 1)) :
    OwP w8 (n + 1) D lo w8.heap.size (.slice A' (l.length + 1) c') (l ++ [x]) := by
  obtain ⟨A2, c2, xs, a, b, he, h2, h3, h7⟩ := h
  obtain rfl := row_uniq hxs h2
  have hlen : xs0.length = l.length * 3 := h2.1
  have hl1 : (l ++ [x]).length = l.length + 1 := by simp
  have hkeep : ∀ k, k < w6.heap.size → (Value.slice A l.length c).ownBlock ≠ some k → w8.heap[k]? = w6.heap[k]? := fun k hk hne => hg.block k hk (fun e => hne e.symm)
  have hdat : ∀ (dv : Value) (d : List UInt8), Pb.Own w6 D 5 dv d → Pb.Own w8 D 5 dv d := fun dv d ho => row_keep ho (fun k hb => hkeep k (World.ownsRow.lt ho k hb).2 (fun e => apart_rows h2 ho k e hb))
  have hnew : ∀ k, (Value.slice A' (l.length + 1) c').ownBlock = some k → k < hi ∧ (Value.slice A l.length c).ownBlock = some k ∨ k = w6.heap.size + 1 := fun k hk => by
    rcases hown with h | h
    · exact .inl ⟨h3 k (h ▸ hk), h ▸ hk⟩
    · rw [h] at hk; cases hk; exact .inr rfl
  refine ⟨A', c', _, fun i => if i = l.length then lo' else a i, fun i => if i = l.length then hi' else b i, by rw [hl1], by rw [hl1]; exact h8, fun k hk => (World.ownsRow.lt h8 k hk).2, fun i u hu => ?_⟩
  by_cases hil : i = l.length
  · subst hil
    obtain rfl : u = x := by simpa using hu.symm
    have e : ∀ q, q < 3 → (xs0 ++ [Value.int .u64 (u.num : Int), dv, pv'])[l.length * 3 + q]? = [Value.int .u64 (u.num : Int), dv, pv'][q]? := fun q hq => by
      rw [List.getElem?_append_right (by omega)]; congr 1; omega
    simp only [if_true]
    refine ⟨⟨hl, Nat.le_trans hsz hg.size, fun j hj => ?_⟩, hx, dv, pv', e 0 (by omega), e 1 (by omega), e 2 (by omega), hdat _ _ hd, OwP.keepX h2 n _ _ _ _ _ hp (fun k hk hh2 => by have := h3 k hk; omega) (fun k _ => hkeep k), fun k hk hh2 => ?_⟩
    · rw [if_neg (by omega)]
      obtain ⟨y, hy⟩ : ∃ y, l[j]? = some y := ⟨l[j], by simp [hj]⟩
      have := (h7 j y hy).1.2.1
      omega
    · rcases hnew k hk with ⟨h, -⟩ | h <;> omega
  · have hjl : i < l.length := by
      have := (List.getElem?_eq_some_iff.1 hu).1
      simp at this
      omega
    rw [List.getElem?_append_left hjl] at hu
    obtain ⟨gm, g0, dv', pv2, g1, g2, g3, g4, g5, g6⟩ := h7 i u hu
    have e : ∀ q v, q < 3 → xs0[i * 3 + q]? = some v → (xs0 ++ [Value.int .u64 (x.num : Int), dv, pv'])[i * 3 + q]? = some v := fun q v hq hv => by
      rw [List.getElem?_append_left (by omega)]; exact hv
    simp only [if_neg hil]
    refine ⟨⟨gm.1, ?_, fun j hj => ?_⟩, g0, dv', pv2, e 0 _ (by omega) g1, e 1 _ (by omega) g2, e 2 _ (by omega) g3, hdat _ _ g4, OwP.keepX h2 n _ _ _ _ _ g5 g6 (fun k _ => hkeep k), fun k hk hh2 => ?_⟩
    · have := gm.2.1; have := hg.size; omega
    · rw [if_neg (by omega)]; exact gm.2.2 j hj
    · rcases hnew k hk with ⟨-, h⟩ | h
      · exact g6 k h hh2
      · have := gm.2.1; omega
theorem OwV.below {w w' : World} {n D lo hi : Nat} {nv dv pv : Value} {x : Va} (h : OwV w n D lo hi nv dv pv x) (hb : Below w.heap.size w w') : OwV w' n D lo hi nv dv pv x :=
  ⟨h.1, h.2.1, h.2.2.1.below hb, h.2.2.2.below hb⟩
/-- It reads as the values. -/
theorem OwP.rd {w : World} : ∀ (n D lo hi : Nat) (pv : Value) (l : List Va), OwP w n D lo hi pv l → RdP w n pv l
  | 0, _, _, _, _, _, h => h.elim
  | n + 1, D, lo, hi, pv, l, h => by
    obtain ⟨A, c, xs, a, b, rfl, h2, h3, h7⟩ := h
    have hc : l.length ≤ c ∧ c ≤ maxLen ∧ (0 < l.length → ∃ g, A = some ⟨g, 0, none⟩) := by
      rcases h2.2 with ⟨e, h0⟩ | ⟨g, cap, cur, e, -, -, hle, hmx, -⟩
      · simp only [Value.slice.injEq] at e
        obtain ⟨rfl, h1, rfl⟩ := e
        exact ⟨by omega, by simp [maxLen], fun h => by omega⟩
      · simp only [Value.slice.injEq] at e
        obtain ⟨rfl, -, rfl⟩ := e
        exact ⟨hle, hmx, fun _ => ⟨g, rfl⟩⟩
    refine ⟨A, c, rfl, hc.1, hc.2.1, fun h0 => ?_⟩
    obtain ⟨g, rfl⟩ := hc.2.2 h0
    refine ⟨_, rfl, fun i x hx => ?_⟩
    obtain ⟨gm, g0, dv, pv', g1, g2, g3, g4, g5, g6⟩ := h7 i x hx
    have k : ∀ o v, xs[o]? = some v → w.cell? ((⟨g, 0, none⟩ : Addr).add o) = some v := fun o v hv => World.ownsRow.cells h2 (g := g) rfl o v hv
    exact ⟨g0, dv, pv', k _ _ g1, k _ _ g2, k _ _ g3, g4.rd, OwP.rd n _ _ _ _ _ g5⟩
theorem OwV.rd {w : World} {n D lo hi : Nat} {nv dv pv : Value} {x : Va} (h : OwV w n D lo hi nv dv pv x) : RdV w n nv dv pv x := ⟨h.1, h.2.1, h.2.2.1.rd, OwP.rd n _ _ _ _ _ h.2.2.2⟩
theorem OwV.lo {w : World} {n D lo lo' hi : Nat} {nv dv pv : Value} {x : Va} (h : OwV w n D lo hi nv dv pv x) (hh : lo' ≤ lo) : OwV w n D lo' hi nv dv pv x := ⟨h.1, h.2.1, h.2.2.1, OwP.lo _ _ _ _ _ _ _ h.2.2.2 hh⟩
theorem OwV.dlo {w : World} {n D D' lo hi : Nat} {nv dv pv : Value} {x : Va} (h : OwV w n D lo hi nv dv pv x) (hh : D' ≤ D) : OwV w n D' lo hi nv dv pv x := ⟨h.1, h.2.1, row_mono h.2.2.1 hh, OwP.dlo _ _ _ _ _ _ _ h.2.2.2 hh⟩
theorem OwV.hi {w : World} {n D lo hi hi' : Nat} {nv dv pv : Value} {x : Va} (h : OwV w n D lo hi nv dv pv x) (hh : hi ≤ hi') : OwV w n D lo hi' nv dv pv x := ⟨h.1, h.2.1, h.2.2.1, OwP.hi _ _ _ _ _ _ _ h.2.2.2 hh⟩
theorem OwV.keep {w w' : World} {n D lo hi : Nat} {nv dv pv : Value} {x : Va} (h : OwV w n D lo hi nv dv pv x) (hk : ∀ k, D ≤ k ∨ lo ≤ k → k < w.heap.size → w'.heap[k]? = w.heap[k]?) : OwV w' n D lo hi nv dv pv x :=
  ⟨h.1, h.2.1, row_keep h.2.2.1 (fun k hb => hk k (.inl (World.ownsRow.lt h.2.2.1 k hb).1) (World.ownsRow.lt h.2.2.1 k hb).2), OwP.keep _ _ _ _ _ _ h.2.2.2 hk⟩
theorem OwV.up {w : World} {n n' D lo hi : Nat} {nv dv pv : Value} {x : Va} (h : OwV w n D lo hi nv dv pv x) (hh : n ≤ n') : OwV w n' D lo hi nv dv pv x := ⟨h.1, h.2.1, h.2.2.1, OwP.up _ _ _ _ _ _ _ hh h.2.2.2⟩
/-- A block with a value's three cells, as a row. -/
theorem cell_row {w : World} {q : Nat} {a b c : Value} (h : hp w q = some (.cells #[a, b, c] 32 (0, 0))) : w.ownsRow q 32 3 (.slice (some ⟨q, 0, none⟩) 1 1) 1 [a, b, c] :=
  ⟨rfl, .inr ⟨q, 1, #[a, b, c], rfl, Nat.le_refl _, h, Nat.le_refl _, by simp [maxLen], rfl, rfl⟩⟩
/-- It stays where a value's three cells are turned that lie in no row of its own. -/
theorem OwP.cellX {w w' : World} {q : Nat} {a b c : Value} (h0 : hp w q = some (.cells #[a, b, c] 32 (0, 0))) {n D lo hi : Nat} {pv : Value} {l : List Va} (h : OwP w n D lo hi pv l) (hq : q < lo ∨ hi ≤ q)
    (hk : ∀ k, k < w.heap.size → k ≠ q → w'.heap[k]? = w.heap[k]?) : OwP w' n D lo hi pv l :=
  OwP.keepX (cell_row h0) n D lo hi pv l h (fun k e hh => by simp only [Value.ownBlock, Option.some.injEq] at e; omega) (fun k _ hk2 hne => hk k hk2 (fun e => hne (by simp [Value.ownBlock, e])))
end Go.Proofs.YtinngljphjdpoaaGreatDoor.Ow
/- Values appended; what Codec.read is to do; the closure of a message's slot. -/
namespace Go.Proofs.YtinngljphjdpoaaGreatDoor.Ox
open Go Go.RowKit Go.Proofs.YtinngljphjdpoaaGreatDoor.Pa Go.Proofs.YtinngljphjdpoaaGreatDoor.Pb Go.Proofs.YtinngljphjdpoaaGreatDoor.Pf Go.Proofs.YtinngljphjdpoaaGreatDoor.Nz Go.Proofs.YtinngljphjdpoaaGreatDoor.Nm Go.Proofs.YtinngljphjdpoaaGreatDoor.Sc Go.Proofs.YtinngljphjdpoaaGreatDoor.Rs Go.Proofs.YtinngljphjdpoaaGreatDoor.Hs Go.Proofs.YtinngljphjdpoaaGreatDoor.Va Go.Proofs.YtinngljphjdpoaaGreatDoor.Vu Go.Proofs.YtinngljphjdpoaaGreatDoor.Vg Go.Proofs.YtinngljphjdpoaaGreatDoor.Vh Go.Proofs.YtinngljphjdpoaaGreatDoor.Ca Go.Proofs.YtinngljphjdpoaaGreatDoor.Ce Go.Proofs.YtinngljphjdpoaaGreatDoor.Ea Go.Proofs.YtinngljphjdpoaaGreatDoor.Gp Go.Proofs.YtinngljphjdpoaaGreatDoor.Hx Go.Proofs.YtinngljphjdpoaaGreatDoor.Ow Go.Proofs.YtinngljphjdpoaaGreatDoor.Rv Go.Proofs.YtinngljphjdpoaaGreatDoor.Rw Go.Proofs.YtinngljphjdpoaaGreatDoor.Pq
set_option linter.unusedVariables false
set_option linter.unusedSimpArgs false
theorem pushV {w : World} {base : Nat} {A : Option Addr} {i c : Nat} {xs : List Value} (ho : w.ownsRow base 32 3 (.slice A i c) i xs) (hb : base ≤ w.heap.size) (hi : i ≤ 20000) (v0 v1 v2 : Value)
    (h1 : ∀ u ∈ [v0, v1, v2], u.oneCell' = true) :
    ∃ A' c' w', (appX #[30, 30] 30 #[.slice A i c, .slice (some ⟨w.heap.size, 0, none⟩) 1 1]).run Tryz.prog (w.alloc (.cells #[v0, v1, v2] 32)) = .ok (.slice A' (i + 1) c') w' ∧
      w'.ownsRow base 32 3 (.slice A' (i + 1) c') (i + 1) (xs ++ [v0, v1, v2]) ∧ w.heap.size < w'.heap.size ∧ w.grownBy w' (Value.slice A i c).ownBlock ∧
      ((Value.slice A' (i + 1) c').ownBlock = (Value.slice A i c).ownBlock ∨ (Value.slice A' (i + 1) c').ownBlock = some (w.heap.size + 1)) := by
  obtain ⟨ti, hi', hzz⟩ := Option.map_eq_some_iff.1 Hv.val_info
  simp only [Prod.mk.injEq] at hzz
  obtain ⟨hz0, hz1, hz2⟩ := hzz
  have hcell : ∀ j u, [v0, v1, v2][j]? = some u → (w.alloc (.cells #[v0, v1, v2] 32)).cell? ((⟨w.heap.size, 0, none⟩ : Addr).add j) = some u := by
    intro j u hu
    rw [Hs.add0]
    have := hp_cell (hp_alloc_at (.cells #[v0, v1, v2] 32) w.heap.size (w := w) rfl) j
    rw [this]
    simpa using hu
  obtain ⟨v', w', hr, h2, h3, _, h5⟩ := run_append_own_at (P := Tryz.prog) (w.alloc (.cells #[v0, v1, v2] 32)) base 30 30 32 ti _ 3 56 Tryz.underlying30 hi' hz0 hz1 hz2 rfl (by omega)
    (.slice A i c) i xs (ho.alloc _) ⟨w.heap.size, 0, none⟩ 1 1 [v0, v1, v2] rfl hcell h1 (by simp only [maxLen]; omega) (by omega) (by simp; omega)
  have hsl : ∃ A' c', v' = .slice A' (i + 1) c' := by
    rcases h2.2 with ⟨-, h0⟩ | ⟨g, cap, cur, e, -⟩
    · omega
    · exact ⟨_, _, e⟩
  obtain ⟨A', c', rfl⟩ := hsl
  have hz := h3.size
  simp at hz
  refine ⟨A', c', w', hr, h2, by omega, ⟨h3.os, h3.tape, h3.output, by omega, fun b hb hne => ?_⟩, ?_⟩
  · rw [h3.block b (by simp; omega) hne]
    exact hp_alloc_past _ _ hb
  · rcases h5 with h | h
    · exact .inl h
    · exact .inr (by simpa using h)
/-- How reading a message ends. -/
def ReadEnds (U : List UInt8 → Bool) (n : Nat) (l : List Slot) (b : List UInt8) (base : Int) (w : World) (e : Ending) (w' : World) : Prop :=
  (((rdv U n l b base).1.2.2 ≠ 0 ∧ e = gave (rdv U n l b base).1) ∨
   ((rdv U n l b base).1.2.2 = 0 ∧ ∃ nv dv pv, e = .returned (.agg #[nv, dv, pv]) ∧ OwV w' (2 * n + 1) w.heap.size w.heap.size w'.heap.size nv dv pv (rdv U n l b base).2)) ∧ Below w.heap.size w w'
def ReadSaid (U : List UInt8 → Bool) (n : Nat) : Prop := ∀ (S : Pl) (g j : Nat) (l : List Slot) (v : Value) (b : List UInt8) (base : Int) (w : World), Cd w S n g l → Rd w v b → okL j l → TabU w → 0 ≤ base → base + b.length ≤ 150000000000000 →
  Calls Tryz.prog 75 #[.pointer (some ⟨g, 0, none⟩), v, .int .i64 base] w (ReadEnds U n l b base w)
set_option maxHeartbeats 2000000 in
set_option maxRecDepth 100000 in
/-- The closure that reads a message. -/
theorem ready8 (U : List UInt8 → Bool) (n : Nat) (IH : ReadSaid U n) (S : Pl) (c j b9 : Nat) (l : List Slot) (no ty : Int) (num cd : Nat) (A : Option Addr) (data : List UInt8) (at_ : Int) (w : World) (hc : Cd w S n c l) (hm : Pa.hp w b9 = some (.cells #[ptr c] 197 (0, 0)))
    (hd : Rd w (.slice A data.length cd) data) (hok : okL j l) (hT : TabU w) (h1 : 1 ≤ no) (h2 : no ≤ 536870911) (h3 : 0 ≤ ty ∧ ty ≤ 7) (hdl : data.length ≤ 4194304) (ha0 : 0 ≤ at_) (ha1 : at_ ≤ 150000000000000) (hb : 0 ≤ inPl ⟨no, ty, num, data⟩ at_ ∧ inPl ⟨no, ty, num, data⟩ at_ + data.length ≤ 150000000000000) :
    Calls Tryz.prog 125 #[.agg #[.int .i64 no, .int .i64 ty, .int .u64 (num : Int), .slice A data.length cd], .int .i64 at_, .pointer (some ⟨b9, 0, none⟩)] w (ReadEnds U n l data (inPl ⟨no, ty, num, data⟩ at_) w) := by
  have hlt9 : b9 < w.heap.size := (Array.getElem?_eq_some_iff.1 hm).1
  obtain ⟨w1, hw1⟩ : ∃ y, y = (w.alloc (.cells #[.int .i64 no, .int .i64 ty, .int .u64 (num : Int), .slice A data.length cd] 140)).alloc (.cells #[.int .u64 0, .slice none 0 0, .slice none 0 0] 32) := ⟨_, rfl⟩
  have hb1 : Below w.heap.size w w1 := by rw [hw1]; exact Vh.b2 w _ _
  have hg1 : Pa.hp w1 w.heap.size = some (.cells #[.int .i64 no, .int .i64 ty, .int .u64 (num : Int), .slice A data.length cd] 140 (0, 0)) := by rw [hw1]; exact below_hp (hp_alloc_at _ _ rfl) (vb _ _)
  have hr1 : Pa.hp w1 (w.heap.size + 1) = some (.cells #[.int .u64 0, .slice none 0 0, .slice none 0 0] 32 (0, 0)) := by rw [hw1]; exact hp_alloc_at _ _ (by simp)
  have hs1 : w1.heap.size = w.heap.size + 2 := by rw [hw1]; simp
  have hm1 := below_hp hm hb1
  obtain ⟨P0, hP0⟩ : ∃ y, y = inPl ⟨no, ty, num, data⟩ at_ := ⟨_, rfl⟩
  have INS := Lib.hid (fun Y => inside no ty num A cd data at_ Y h1 h2 h3 hdl ha0 (by omega))
  rw [← hP0] at hb INS ⊢
  have RDA := Lib.hid (fun Y (hY : Below w1.heap.size w1 Y) => IH S c j l (.slice A data.length cd) data P0 Y ((hc.below hb1).below hY) ((hd.below hb1).below hY) hok ((hT.below hb1).below hY) hb.1 hb.2)
  have hfl : ∀ Y, Below w1.heap.size w1 Y → (Y.cell? ⟨w.heap.size, 0, none⟩ = some (.int .i64 no) ∧ Y.cell? ⟨w.heap.size, 1, none⟩ = some (.int .i64 ty) ∧ Y.cell? ⟨w.heap.size, 2, none⟩ = some (.int .u64 (num : Int)) ∧ Y.cell? ⟨w.heap.size, 3, none⟩ = some (.slice A data.length cd)) ∧ Y.cell? ⟨b9, 0, none⟩ = some (.pointer (some ⟨c, 0, none⟩)) ∧ Pa.hp Y (w.heap.size + 1) = some (.cells #[.int .u64 0, .slice none 0 0, .slice none 0 0] 32 (0, 0)) := fun Y hY =>
    ⟨⟨hp_cell (below_hp hg1 hY) 0, hp_cell (below_hp hg1 hY) 1, hp_cell (below_hp hg1 hY) 2, hp_cell (below_hp hg1 hY) 3⟩, (hp_cell (below_hp hm1 hY) 0), below_hp hr1 hY⟩
  obtain ⟨⟨q0, q1, q2, q3⟩, qc, -⟩ := hfl w1 (Below.refl _ _)
  have FL := Lib.hid hfl; have HB1 := Lib.hid hb1; have HS1 := Lib.hid hs1
  have n1 : ¬ b9 = w.heap.size + 1 := by omega
  have n2 : ¬ w.heap.size + 1 = b9 := by omega
  have n3 : ¬ b9 = w.heap.size := by omega
  have n4 : ¬ w.heap.size = b9 := by omega
  clear hfl hb1 hs1 hg1 hr1 hm hm1 hc hd hT hb hP0 IH
  by_cases h0 : (rdv U n l data P0).1.2.2 = 0
  · go_enter Tryz.func125, Tryz.ntmps125
    go_upto_region 1 with fail
    rw [← hw1]
    clear hw1
    go_region_held3 (fun w' => w'.cell? ⟨w.heap.size, 0, none⟩ = some (.int .i64 no) ∧ w'.cell? ⟨w.heap.size, 1, none⟩ = some (.int .i64 ty) ∧ w'.cell? ⟨w.heap.size, 2, none⟩ = some (.int .u64 (num : Int)) ∧ w'.cell? ⟨w.heap.size, 3, none⟩ = some (.slice A data.length cd) ∧ w'.cell? ⟨b9, 0, none⟩ = some (.pointer (some ⟨c, 0, none⟩))) (go_keep) (first
      | (go_at_call 126; refine (INS.out _).mono ?_; rintro _ w2 ⟨rfl, b2⟩; have HB2 := Lib.hid ((Below.refl w1.heap.size w1).drew.trans b2); obtain ⟨⟨r0, r1, r2, r3⟩, rc, -⟩ := FL.out w2 HB2.out; clear b2)
      | (go_at_call 75; refine (RDA.out _ HB2.out).mono ?_; rintro _ w3 ⟨⟨hx, -⟩ | ⟨-, nv, dv, pv, rfl, ho3⟩, b3⟩; exact absurd h0 hx; obtain ⟨-, rfl, x3, x4⟩ := id ho3; obtain ⟨A1, c1, rfl⟩ := x3.slice; obtain ⟨A2, c2, -, -, -, rfl, -⟩ := x4; have HB3 := Lib.hid (HB2.out.trans (b3.mono HB2.out.size)); obtain ⟨⟨s0, s1, s2, s3⟩, sc, sr⟩ := FL.out w3 HB3.out; have hcr := fun i => hp_cell sr i; have hfr := fun i => hp_frozen sr i; have HR3 := Lib.hid sr; have HO3 := Lib.hid ho3; have HLE := Lib.hid HB2.out.size; clear b3 sr x3 ho3))
    all_goals
      go_wp2_with fail
      refine ret_row Tryz.results125 Tryz.underlying32 rfl (by kernel_rfl) rfl (set3v HR3.out _ _ _) rfl ⟨.inr ⟨h0, _, _, _, rfl, ?_⟩, ?_⟩
      · have hs := HS1.out
        have hle := HLE.out
        refine (((HO3.out.keep (fun k hk _ => ?_)).dlo (by omega)).lo (by omega)).hi (by simp [World.setCell])
        have hne : k ≠ w.heap.size + 1 := by omega
        rw [heap_setCell_other _ _ _ _ hne, heap_setCell_other _ _ _ _ hne, heap_setCell_other _ _ _ _ hne]
      · have h3 : Below w.heap.size w _ := HB1.out.trans (HB3.out.mono HB1.out.size)
        exact ((h3.setCell (by dsimp only; omega) _).setCell (by dsimp only; omega) _).setCell (by dsimp only; omega) _
  · go_enter Tryz.func125, Tryz.ntmps125
    go_upto_region 1 with fail
    rw [← hw1]
    clear hw1
    refine wp_region_calm_tail (S := fun W => Below w1.heap.size w1 W) 7 (by kernel_rfl) (by kernel_rfl) (Below.refl _ _).drew ?_
    intro hN
    have y0 : ∀ u : Held (fun W => Below w1.heap.size w1 W), u.w.cell? ⟨w.heap.size, 0, none⟩ = some (.int .i64 no) := fun u => (FL.out u.w u.h).1.1
    have y1 : ∀ u : Held (fun W => Below w1.heap.size w1 W), u.w.cell? ⟨w.heap.size, 1, none⟩ = some (.int .i64 ty) := fun u => (FL.out u.w u.h).1.2.1
    have y2 : ∀ u : Held (fun W => Below w1.heap.size w1 W), u.w.cell? ⟨w.heap.size, 2, none⟩ = some (.int .u64 (num : Int)) := fun u => (FL.out u.w u.h).1.2.2.1
    have y3 : ∀ u : Held (fun W => Below w1.heap.size w1 W), u.w.cell? ⟨w.heap.size, 3, none⟩ = some (.slice A data.length cd) := fun u => (FL.out u.w u.h).1.2.2.2
    have yc : ∀ u : Held (fun W => Below w1.heap.size w1 W), u.w.cell? ⟨b9, 0, none⟩ = some (.pointer (some ⟨c, 0, none⟩)) := fun u => (FL.out u.w u.h).2.1
    simp only [List.take_succ_cons, List.take_zero, List.drop_succ_cons, List.drop_zero]
    repeat (go_big_quiet_step (first | (go_at_call 126; exact calm_call (INS.out _) (fun w' hs hr => hs.trans (hr.mono hs.size)))))
    refine wpQuiet_nil ?_
    intro u
    go_wp2_with (go_at_call 9999)
    go_at_call 75
    refine (RDA.out _ u.h).mono ?_
    rintro _ w3 ⟨⟨hx, rfl⟩ | ⟨hx, -⟩, b3⟩
    · exact ⟨rfl, .inl ⟨hx, rfl⟩, HB1.out.trans ((u.h.trans (b3.mono u.h.size)).mono HB1.out.size)⟩
    · exact absurd hx h0
end Go.Proofs.YtinngljphjdpoaaGreatDoor.Ox
