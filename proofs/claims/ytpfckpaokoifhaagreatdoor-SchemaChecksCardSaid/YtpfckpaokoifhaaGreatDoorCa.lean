/- How a compiled schema lies in memory (the program's codec). -/
import Derived.Test.YtpfckpaokoifhaaGreatDoorVd
namespace Go.Proofs.YtpfckpaokoifhaaGreatDoor.Ca
open Go Go.RowKit Go.Proofs.YtpfckpaokoifhaaGreatDoor.Pa Go.Proofs.YtpfckpaokoifhaaGreatDoor.Pb Go.Proofs.YtpfckpaokoifhaaGreatDoor.Pf Go.Proofs.YtpfckpaokoifhaaGreatDoor.Sc Go.Proofs.YtpfckpaokoifhaaGreatDoor.Rs Go.Proofs.YtpfckpaokoifhaaGreatDoor.Va Go.Proofs.YtpfckpaokoifhaaGreatDoor.Vc Go.Proofs.YtpfckpaokoifhaaGreatDoor.Vd
set_option linter.unusedVariables false
set_option linter.unusedSimpArgs false

/-- Where it lies. -/
abbrev Pl := Nat → Prop
@[go_sem] def ptr (b : Nat) : Value := .pointer (some ⟨b, 0, none⟩)
/-- A whole number as a float. -/
def fbits (n : Nat) : Value := .float .f64 (FloatKind.f64.nearest (n : Int))
theorem run_f64 (n : Nat) (w : World) : (convert 23 146 (.int .u64 (n : Int))).run Tryz.prog w = .ok (fbits n) w := by
  simp only [convert, Sem.run_bind, run_underlying Tryz.underlying23, run_underlying Tryz.underlying146, Result.andThen_ok]
  rfl
/-- The shape of a slot without a schema within. -/
def flat (t : Slot) : Value :=
  if t.kind = 4 then .iface 145 (.agg #[.int .u64 0, .int .u64 1])
  else if t.kind = 7 then .iface 148 (.agg #[fbits t.most])
  else if t.kind = 5 ∨ t.kind = 6 then .iface 151 (.agg #[.int .u64 t.least, .int .u64 t.most, .bool (decide (t.kind = 6))])
  else .iface 145 (.agg #[.int .u64 t.least, .int .u64 t.most])
/-- A shape: C tells which codec lies in a block. -/
def Shp (C : Nat → List Slot → Prop) (t : Slot) (sh : Value) : Prop :=
  if t.kind = 8 then ∃ c, C c t.sub ∧ sh = .iface 138 (.agg #[ptr c])
  else if t.kind = 9 then ∃ c, C c t.sub ∧ sh = .iface 142 (.agg #[ptr c, .int .u64 t.least, .int .u64 t.most])
  else sh = flat t
/-- A slot made ready: its three functions, in blocks of S. -/
def Rdy (C : Nat → List Slot → Prop) (w : World) (S : Pl) (t : Slot) (chk wr rd : Value) : Prop :=
  if t.kind = 8 then ∃ c b5 b9, C c t.sub ∧ S b5 ∧ S b9 ∧ hp w b5 = some (.cells #[ptr c] 138 (0, 0)) ∧ hp w b9 = some (.cells #[ptr c] 138 (0, 0)) ∧
    chk = .func (.func 64) #[] #[ptr b5] ∧ wr = .func (.func 72) #[] #[ptr b9] ∧ rd = .func (.func 73) #[] #[ptr b9]
  else ∃ sh b4 b1 sv, Shp C t sh ∧ S b4 ∧ S b1 ∧ hp w b4 = some (.cells #[sh] 135 (0, 0)) ∧ hp w b1 = some (.cells #[.int .i64 t.no, .int .i64 t.kind, .int .u64 t.least, .int .u64 t.most, sv] 70 (0, 0)) ∧
    chk = .func (.func 65) #[] #[ptr b4, ptr b1] ∧
    (if t.kind = 9 then ∃ c, sh = .iface 142 (.agg #[ptr c, .int .u64 t.least, .int .u64 t.most]) ∧
        wr = .func (.func 76) #[.agg #[ptr c, .int .u64 t.least, .int .u64 t.most]] #[] ∧ rd = .func (.func 77) #[.agg #[ptr c, .int .u64 t.least, .int .u64 t.most]] #[]
      else if t.kind = 5 ∨ t.kind = 6 then wr = .func (.func 70) #[] #[] ∧ rd = .func (.func 71) #[] #[ptr b4]
      else wr = .func (.func 67) #[] #[] ∧ rd = .func (.func 68) #[] #[ptr b4])
/-- The codec in block g is that of the slots l, less than n levels deep, in blocks of S. -/
def Cd (w : World) (S : Pl) : Nat → Nat → List Slot → Prop
  | 0, _, _ => False
  | n + 1, g, l => S g ∧ ∃ (A : Option Addr) (c : Nat), hp w g = some (.cells #[.slice A l.length c, .int .i64 (pSpan (n + 1) l).1, .int .i64 (pSpan (n + 1) l).2] 90 (0, 0)) ∧
      (0 < l.length → ∃ b, A = some ⟨b, 0, none⟩ ∧ S b ∧ ∀ i t, l[i]? = some t → WfS t ∧ bnd t = true ∧ ∃ chk wr rd, w.cell? ⟨b, i * 5, none⟩ = some (.int .i64 t.no) ∧ w.cell? ⟨b, i * 5 + 1, none⟩ = some (.int .i64 (wt t.kind : Nat)) ∧
        w.cell? ⟨b, i * 5 + 2, none⟩ = some chk ∧ w.cell? ⟨b, i * 5 + 3, none⟩ = some wr ∧ w.cell? ⟨b, i * 5 + 4, none⟩ = some rd ∧ Rdy (Cd w S n) w S t chk wr rd)
theorem Shp.mono {C C' : Nat → List Slot → Prop} (h : ∀ c s, C c s → C' c s) {t : Slot} {sh : Value} (hs : Shp C t sh) : Shp C' t sh := by
  unfold Shp at *
  split
  · rename_i e; rw [if_pos e] at hs; obtain ⟨c, h1, h2⟩ := hs; exact ⟨c, h _ _ h1, h2⟩
  · rename_i e; rw [if_neg e] at hs
    split
    · rename_i e2; rw [if_pos e2] at hs; obtain ⟨c, h1, h2⟩ := hs; exact ⟨c, h _ _ h1, h2⟩
    · rename_i e2; rw [if_neg e2] at hs; exact hs
theorem Rdy.mono {C C' : Nat → List Slot → Prop} {w w' : World} {S S' : Pl} (h : ∀ c s, C c s → C' c s) (hS : ∀ b, S b → S' b) (hk : ∀ b, S b → ∀ o, hp w b = some o → hp w' b = some o) {t : Slot} {chk wr rd : Value} (hr : Rdy C w S t chk wr rd) : Rdy C' w' S' t chk wr rd := by
  unfold Rdy at *
  split
  · rename_i e; rw [if_pos e] at hr
    obtain ⟨c, b5, b9, h1, h2, h3, h4, h5, h6⟩ := hr
    exact ⟨c, b5, b9, h _ _ h1, hS _ h2, hS _ h3, hk _ h2 _ h4, hk _ h3 _ h5, h6⟩
  · rename_i e; rw [if_neg e] at hr
    obtain ⟨sh, b4, b1, sv, h1, h2, h3, h4, h5, h6⟩ := hr
    exact ⟨sh, b4, b1, sv, h1.mono h, hS _ h2, hS _ h3, hk _ h2 _ h4, hk _ h3 _ h5, h6⟩
/-- It stays, where none of its blocks turns. -/
theorem Cd.keep {w w' : World} {S S' : Pl} (hS : ∀ b, S b → S' b) (hk : ∀ b, S b → b < w.heap.size → w'.heap[b]? = w.heap[b]?) : ∀ (n g : Nat) (l : List Slot), Cd w S n g l → Cd w' S' n g l
  | 0, _, _, h => h.elim
  | n + 1, g, l, h => by
    obtain ⟨h1, A, c, h2, h3⟩ := h
    have hk' : ∀ b, S b → ∀ o, hp w b = some o → hp w' b = some o := fun b hb o ho => by
      have hlt : b < w.heap.size := by unfold hp at ho; exact (Array.getElem?_eq_some_iff.1 ho).1
      unfold hp at *; rw [hk b hb hlt]; exact ho
    refine ⟨hS _ h1, A, c, hk' _ h1 _ h2, fun h0 => ?_⟩
    obtain ⟨b, ha, hb, hc⟩ := h3 h0
    refine ⟨b, ha, hS _ hb, fun i t ht => ?_⟩
    obtain ⟨g0, gb, chk, wr, rd, g1, g2, g3, g4, g5, g6⟩ := hc i t ht
    have k : ∀ o v, w.cell? ⟨b, o, none⟩ = some v → w'.cell? ⟨b, o, none⟩ = some v := fun o v hv => (World.cell?_of_block (hk b hb (World.block_lt_of_cell? w _ hv))).trans hv
    exact ⟨g0, gb, chk, wr, rd, k _ _ g1, k _ _ g2, k _ _ g3, k _ _ g4, k _ _ g5, g6.mono (fun c s => Cd.keep hS hk n c s) hS hk'⟩
theorem Cd.below {w w' : World} {S : Pl} {n g : Nat} {l : List Slot} (h : Cd w S n g l) (hb : Below w.heap.size w w') : Cd w' S n g l := Cd.keep (fun _ h => h) (fun b _ hlt => hb.block b hlt) n g l h
end Go.Proofs.YtpfckpaokoifhaaGreatDoor.Ca
