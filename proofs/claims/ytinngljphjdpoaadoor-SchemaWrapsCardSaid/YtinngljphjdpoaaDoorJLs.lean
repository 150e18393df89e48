/- The program's span, Valid. -/
import Derived.Test.YtinngljphjdpoaaDoorJHs
import Derived.Test.YtinngljphjdpoaaDoorJVc
namespace Go.Proofs.YtinngljphjdpoaaDoor.Vd
open Go Go.RowKit Go.Proofs.YtinngljphjdpoaaDoor.Pa Go.Proofs.YtinngljphjdpoaaDoor.Pb Go.Proofs.YtinngljphjdpoaaDoor.Pf Go.Proofs.YtinngljphjdpoaaDoor.Nz Go.Proofs.YtinngljphjdpoaaDoor.Nm Go.Proofs.YtinngljphjdpoaaDoor.Sc Go.Proofs.YtinngljphjdpoaaDoor.Rs Go.Proofs.YtinngljphjdpoaaDoor.Va Go.Proofs.YtinngljphjdpoaaDoor.Vb Go.Proofs.YtinngljphjdpoaaDoor.Vc
set_option linter.unusedVariables false
set_option linter.unusedSimpArgs false

theorem sizeI (x : Int) (h0 : 0 ≤ x) (h1 : x < 18446744073709551616) (w : World) : Calls Tryd.prog 53 #[.int .u64 x] w fun e w' => e = .returned (.int .i64 (sz x.toNat : Nat)) ∧ w = w' := by
  obtain ⟨n, rfl⟩ := Int.eq_ofNat_of_zero_le h0
  exact size n (by omega) w
theorem sz_congr {a b : Nat} (h : a = b) : sz a = sz b := by rw [h]
/-- A box of some call's own, kept. -/
def KeptG (W0 : World) (g : Nat) (C : Array Value) (W : World) : Prop := Below W0.heap.size W0 W ∧ hp W g = some (.cells C 53 (0, 0))
theorem KeptG.on {W0 W W' : World} {g : Nat} {C : Array Value} (h : KeptG W0 g C W) (hb : Below W.heap.size W W') : KeptG W0 g C W' := by
  have hlt : g < W.heap.size := by
    rcases Nat.lt_or_ge g W.heap.size with h1 | h1
    · exact h1
    · have := h.2; unfold hp at this; rw [Array.getElem?_eq_none h1] at this; cases this
  exact ⟨h.1.trans (hb.mono h.1.size), (hb.hp _ hlt).trans h.2⟩
theorem KeptG.same {W0 W W' : World} {g : Nat} {C : Array Value} (h : KeptG W0 g C W) (hb : W = W') : KeptG W0 g C W' := hb ▸ h

set_option maxHeartbeats 1000000 in
set_option maxRecDepth 100000 in
theorem span : ∀ (m : Nat), SpanSaid m := by
  intro m
  induction m with
  | zero => exact fun k v l W w h _ _ => h.elim
  | succ m ih =>
    intro k v l W w h hok hb
    obtain ⟨A, c, rfl, hlc, hcm⟩ := h.slice
    unfold maxLen at hcm
    cases k with
    | zero => exact hok.elim
    | succ k =>
    obtain ⟨h16, hall⟩ := hok
    have IH := Lib.hid ih; clear ih
    have H := Lib.hid h; have HA := Lib.hid hall; clear h hall
    obtain ⟨R, hR⟩ : ∃ R, R = pSpan (m + 1) l := ⟨_, rfl⟩
    rw [← hR]
    have HR := Lib.hid hR; clear hR
    go_enter Tryd.func43, Tryd.ntmps43
    go_wp2_with fail
    go_loopw [4, 5, 13] (fun s t u wr => ∃ (i : Nat), i ≤ l.length ∧ u = .int .i64 i ∧ s = .int .i64 (pGo (pSpan m) (l.take i)).1 ∧ t = .int .i64 (pGo (pSpan m) (l.take i)).2 ∧ Below w.heap.size w wr) (fun _ _ u _ => l.length - (intOf u).toNat)
    case atStart => exact ⟨0, by omega, rfl, rfl, rfl, Below.refl _ _⟩
    case round =>
      obtain ⟨i, hi, rfl, rfl, rfl, hbw⟩ := hrel
      have hbr : Below W.heap.size W wr := hb.trans (hbw.mono hb.size)
      by_cases hil : i < l.length
      · obtain ⟨ad, rfl, hwf, sv, hsl, hrd⟩ := H.out.at_ i hil
        replace hsl := hsl.keep (hbr.block _ hsl.lt)
        obtain ⟨p, hpa⟩ : ∃ p, ad.add (i * 5) = p := ⟨_, rfl⟩
        rw [hpa] at hsl
        have hit := HA.out l[i] (List.getElem_mem hil)
        have hnx := pGo_take (pSpan m) l i hil
        obtain ⟨hg1, hg2⟩ := pGo_le (pSpan m) (l.take i)
        have hvl := pVal_le m l[i] hit.2.2.1 hwf.least hwf.most
        generalize pGo (pSpan m) (l.take i) = q at *
        obtain ⟨x, y⟩ := q
        simp only at hg1 hg2 ⊢
        generalize l[i] = t at hwf hsl hrd hit hnx hvl
        obtain ⟨no, kind, least, most, sub⟩ := t
        obtain ⟨c0, c1, c2, c3, c4⟩ := hsl
        obtain ⟨i1, i2, i3, i4, i5⟩ := hit
        have hl0 := hwf.least
        have hm0 := hwf.most
        simp only [Slot.no, Slot.kind, Slot.least, Slot.most, Slot.sub] at c0 c1 c2 c3 c4 hrd i1 i2 i4 i5 hl0 hm0
        obtain ⟨N, rfl⟩ := Int.eq_ofNat_of_zero_le (show 0 ≤ no by omega)
        obtain ⟨A2, cc2, rfl, hlc2, hcm2⟩ := hrd.slice
        clear hlc2 hcm2
        have HRD := Lib.hid hrd; have I3 := Lib.hid i3; have I4 := Lib.hid i4; have hnx' : pGo (pSpan m) (l.take (i + 1)) = (min (x + hd (.mk (N : Int) kind least most sub) + (pVal (pSpan m) (.mk (N : Int) kind least most sub)).1) 1073741824, min (y + hd (.mk (N : Int) kind least most sub) + (pVal (pSpan m) (.mk (N : Int) kind least most sub)).2) 1073741824) := hnx
        have HNX := Lib.hid hnx'; clear hnx'; have HL0 := Lib.hid hl0; have HM0 := Lib.hid hm0; clear hrd i3 i4 i5 hwf hnx hl0 hm0
        have hwt := wt_le kind
        have hs0 := sz_u64 (8 * N + wt kind) (by omega)
        have hq1 : IntKind.u64.wrap (N : Int) = (N : Int) := wu64 (by omega) (by omega)
        have hq2 : IntKind.u64.wrap (wt kind : Int) = (wt kind : Int) := wu64 (by omega) (by omega)
        have hq3 : IntKind.u64.wrap (8 * (N : Int)) = 8 * (N : Int) := wu64 (by omega) (by omega)
        have hq4 : IntKind.u64.wrap (8 * (N : Int) + (wt kind : Int)) = 8 * (N : Int) + (wt kind : Int) := wu64 (by omega) (by omega)
        have bx : Below wr.heap.size wr (wr.alloc (.cells #[.int .i64 N, .int .i64 kind, .int .u64 least, .int .u64 most, .slice A2 sub.length cc2] 53)) := (Below.refl _ _).alloc (Nat.le_refl _) _
        go_wp2_with fail
        refine wp_region_calm (S := KeptG wr wr.heap.size #[.int .i64 N, .int .i64 kind, .int .u64 least, .int .u64 most, .slice A2 sub.length cc2]) (by kernel_rfl) (by kernel_rfl) ⟨bx.drew, (hp_alloc_at _ _ rfl : hp (wr.alloc (.cells #[.int .i64 N, .int .i64 kind, .int .u64 least, .int .u64 most, .slice A2 sub.length cc2] 53)) wr.heap.size = _)⟩ ?_
        intro hN
        have hC : ∀ (u : Held (KeptG wr wr.heap.size #[.int .i64 N, .int .i64 kind, .int .u64 least, .int .u64 most, .slice A2 sub.length cc2])) (i : Nat), u.w.cell? ⟨wr.heap.size, i, none⟩ = (#[.int .i64 N, .int .i64 kind, .int .u64 least, .int .u64 most, .slice A2 sub.length cc2] : Array Value)[i]? := fun u i => hp_cell u.h.2 i
        repeat (go_big_quiet_step (first | (go_at_call 54; exact calm_call (wireOf _ _) (fun w' hs hr => hs.same hr)) | (go_at_call 53; exact calm_call (sizeI _ (by omega) (by omega) _) (fun w' hs hr => hs.same hr))))
        refine wpQuiet_nil ?_
        intro u
        have hub := u.h.1
        have he : (8 * (N : Int) + (wt kind : Int)).toNat = 8 * N + wt kind := by omega
        rw [he]
        clear he hq1 hq2 hq3 hq4
        have hhd : hd (.mk (N : Int) kind least most sub) = sz (8 * N + wt kind) := rfl
        rw [← hhd] at hs0 ⊢
        generalize hd (.mk (N : Int) kind least most sub) = h0 at *
        generalize hpv : pVal (pSpan m) (.mk (N : Int) kind least most sub) = z at *
        obtain ⟨a, b⟩ := z
        simp only at hvl
        have HPV := Lib.hid hpv; clear hpv hhd
        go_wp2_with (go_at_call 9999)
        go_at_call 55
        refine (valueSpan m k IH.out (N : Int) kind least most sub _ W _ rfl I3.out HL0.out HM0.out (fun hn => ⟨HRD.out, I4.out hn⟩) (hbr.trans (hub.mono hbr.size))).mono ?_
        rw [HPV.out]
        rintro e w1 ⟨rfl, hb1⟩
        simp only
        have hub1 := u.h.1.trans (hb1.mono u.h.1.size)
        have hfin : ∀ c d : Nat, c = min (x + h0 + a) 1073741824 → d = min (y + h0 + b) 1073741824 → pGo (pSpan m) (l.take (i + 1)) = (c, d) := fun c d hc hd' => by rw [hc, hd']; exact HNX.out
        have HFIN := Lib.hid hfin; clear hfin
        have hbw1 : Below w.heap.size w w1 := hbw.trans (hub1.mono hbw.size)
        by_cases ha : (1073741824 : Int) < (x : Int) + (h0 : Int) + (a : Int) <;> by_cases hb' : (1073741824 : Int) < (y : Int) + (h0 : Int) + (b : Int)
        all_goals
          go_wp2_with fail
          go_roundw
          case rel => exact ⟨i + 1, by omega, by go_num, by rw [HFIN.out _ _ rfl rfl]; go_num, by rw [HFIN.out _ _ rfl rfl]; go_num, hbw1⟩
          case measure => simp [intOf]; omega
      · obtain rfl : i = l.length := by omega
        rw [List.take_length] at *
        go_wp2_with fail
        go_ret2
        rw [HR.out]
        exact ⟨rfl, hbw⟩

/-- The program's Valid. -/
theorem pvalid {n : Nat} {v : Value} {l : List Slot} (w : World) (h : RdS w n v l) : Calls Tryd.prog 29 #[v] w fun e w' => e = .returned (.int .i64 (valid n l)) ∧ Below w.heap.size w w' := by
  obtain ⟨A, c, rfl, -⟩ := h.slice
  have H := Lib.hid h; clear h
  have b1 : Below w.heap.size w (w.alloc (.cells #[.int .i64 0] 3)) := (Below.refl _ _).alloc (Nat.le_refl _) _
  cases hc : canL 6 l 256 with
  | none =>
    have hv : valid n l = 80 := by unfold valid; rw [if_pos hc]
    have HV := Lib.hid hv; clear hv
    go_enter Tryd.func29, Tryd.ntmps29
    go_wp2_with (go_at_call 9999)
    go_at_call 42
    refine (canBe 6 n _ l 1 256 w.heap.size w _ H.out b1 (Nat.le_refl _) (hp_alloc_at _ _ rfl) (by omega) (by omega) (by omega)).mono ?_
    rw [hc]
    rintro e w1 ⟨s, rfl, ho, hr, hch⟩
    have hbw : Below w.heap.size w w1 := hch.below b1 (fun k hk => Nat.le_of_eq hk.symm) (by simp)
    go_wp2_with fail
    go_ret
    exact ⟨ret_int HV.out.symm, hbw⟩
  | some r =>
    have hal := pSpan_al n l
    have hle := pSpan_le n l
    unfold huge at hle
    have hok := canL_ok 6 l 256 r hc
    have HOK := Lib.hid hok; clear hok
    have hv : valid n l = if 4194304 < (exSpan n l).2 then 2 else 0 := by unfold valid; rw [if_neg (by rw [hc]; exact fun h => by cases h)]
    have hgt := al_gt hal.2 (Al.refl _)
    simp only [← hgt] at hv
    have HV := Lib.hid hv; clear hv hgt hal
    go_enter Tryd.func29, Tryd.ntmps29
    go_wp2_with (go_at_call 9999)
    go_at_call 42
    refine (canBe 6 n _ l 1 256 w.heap.size w _ H.out b1 (Nat.le_refl _) (hp_alloc_at _ _ rfl) (by omega) (by omega) (by omega)).mono ?_
    rw [hc]
    rintro e w1 ⟨s, rfl, ho, hr, hch⟩
    have hbw : Below w.heap.size w w1 := hch.below b1 (fun k hk => Nat.le_of_eq hk.symm) (by simp)
    go_wp2_with (go_at_call 9999)
    go_at_call 43
    refine (span n 6 _ l w w1 H.out HOK.out hbw).mono ?_
    rintro e w2 ⟨rfl, hb2⟩
    have hbw2 : Below w.heap.size w w2 := hbw.trans (hb2.mono hbw.size)
    generalize pSpan n l = q at *
    obtain ⟨x, y⟩ := q
    by_cases hy : (4194304 : Int) < (y : Int)
    · go_wp2_with fail
      go_ret
      rw [HV.out]
      exact ⟨ret_int (by rw [if_pos (by omega)]), hbw2⟩
    · go_wp2_with fail
      go_ret
      rw [HV.out]
      exact ⟨ret_int (by rw [if_neg (by omega)]), hbw2⟩
end Go.Proofs.YtinngljphjdpoaaDoor.Vd
/- How a compiled schema lies in memory (the program's codec). -/
namespace Go.Proofs.YtinngljphjdpoaaDoor.Ca
open Go Go.RowKit Go.Proofs.YtinngljphjdpoaaDoor.Pa Go.Proofs.YtinngljphjdpoaaDoor.Pb Go.Proofs.YtinngljphjdpoaaDoor.Pf Go.Proofs.YtinngljphjdpoaaDoor.Sc Go.Proofs.YtinngljphjdpoaaDoor.Rs Go.Proofs.YtinngljphjdpoaaDoor.Va Go.Proofs.YtinngljphjdpoaaDoor.Vc Go.Proofs.YtinngljphjdpoaaDoor.Vd
set_option linter.unusedVariables false
set_option linter.unusedSimpArgs false

/-- Where it lies. -/
abbrev Pl := Nat → Prop
@[go_sem] def ptr (b : Nat) : Value := .pointer (some ⟨b, 0, none⟩)
/-- A whole number as a float. -/
def fbits (n : Nat) : Value := .float .f64 (FloatKind.f64.nearest (n : Int))
theorem run_f64 (n : Nat) (w : World) : (convert 23 141 (.int .u64 (n : Int))).run Tryd.prog w = .ok (fbits n) w := by
  simp only [convert, Sem.run_bind, run_underlying Tryd.underlying23, run_underlying Tryd.underlying141, Result.andThen_ok]
  rfl
/-- The shape of a slot without a schema within. -/
def flat (t : Slot) : Value :=
  if t.kind = 4 then .iface 140 (.agg #[.int .u64 0, .int .u64 1])
  else if t.kind = 7 then .iface 143 (.agg #[fbits t.most])
  else if t.kind = 5 ∨ t.kind = 6 then .iface 146 (.agg #[.int .u64 t.least, .int .u64 t.most, .bool (decide (t.kind = 6))])
  else .iface 140 (.agg #[.int .u64 t.least, .int .u64 t.most])
/-- A shape: C tells which codec lies in a block. -/
def Shp (C : Nat → List Slot → Prop) (t : Slot) (sh : Value) : Prop :=
  if t.kind = 8 then ∃ c, C c t.sub ∧ sh = .iface 133 (.agg #[ptr c])
  else if t.kind = 9 then ∃ c, C c t.sub ∧ sh = .iface 137 (.agg #[ptr c, .int .u64 t.least, .int .u64 t.most])
  else sh = flat t
/-- A slot made ready: its three functions, in blocks of S. -/
def Rdy (C : Nat → List Slot → Prop) (w : World) (S : Pl) (t : Slot) (chk wr rd : Value) : Prop :=
  if t.kind = 8 then ∃ c b5 b9, C c t.sub ∧ S b5 ∧ S b9 ∧ hp w b5 = some (.cells #[ptr c] 133 (0, 0)) ∧ hp w b9 = some (.cells #[ptr c] 133 (0, 0)) ∧
    chk = .func (.func 57) #[] #[ptr b5] ∧ wr = .func (.func 65) #[] #[ptr b9] ∧ rd = .func (.func 66) #[] #[ptr b9]
  else ∃ sh b4 b1 sv, Shp C t sh ∧ S b4 ∧ S b1 ∧ hp w b4 = some (.cells #[sh] 130 (0, 0)) ∧ hp w b1 = some (.cells #[.int .i64 t.no, .int .i64 t.kind, .int .u64 t.least, .int .u64 t.most, sv] 53 (0, 0)) ∧
    chk = .func (.func 58) #[] #[ptr b4, ptr b1] ∧
    (if t.kind = 9 then ∃ c, sh = .iface 137 (.agg #[ptr c, .int .u64 t.least, .int .u64 t.most]) ∧
        wr = .func (.func 68) #[.agg #[ptr c, .int .u64 t.least, .int .u64 t.most]] #[] ∧ rd = .func (.func 69) #[.agg #[ptr c, .int .u64 t.least, .int .u64 t.most]] #[]
      else if t.kind = 5 ∨ t.kind = 6 then wr = .func (.func 63) #[] #[] ∧ rd = .func (.func 64) #[] #[ptr b4]
      else wr = .func (.func 60) #[] #[] ∧ rd = .func (.func 61) #[] #[ptr b4])
/-- The codec in block g is that of the slots l, less than n levels deep, in blocks of S. -/
def Cd (w : World) (S : Pl) : Nat → Nat → List Slot → Prop
  | 0, _, _ => False
  | n + 1, g, l => S g ∧ ∃ (A : Option Addr) (c : Nat), hp w g = some (.cells #[.slice A l.length c, .int .i64 (pSpan (n + 1) l).1, .int .i64 (pSpan (n + 1) l).2] 81 (0, 0)) ∧
      (0 < l.length → ∃ b, A = some ⟨b, 0, none⟩ ∧ S b ∧ ∀ i t, l[i]? = some t → WfS t ∧ bnd t = true ∧ ∃ chk wr rd, w.cell? ⟨b, i * 5, none⟩ = some (.int .i64 t.no) ∧ w.cell? ⟨b, i * 5 + 1, none⟩ = some (.int .i64 (wt t.kind : Nat)) ∧
        w.cell? ⟨b, i * 5 + 2, none⟩ = some chk ∧ w.cell? ⟨b, i * 5 + 3, none⟩ = some wr ∧ w.cell? ⟨b, i * 5 + 4, none⟩ = some rd ∧ Rdy (Cd w S n) w S t chk wr rd)
theorem Shp.mono {C C' : Nat → List Slot → Prop} (h : ∀ c s, C c s → C' c s) {t : Slot} {sh : Value} (hs : Shp C t sh) : Shp C' t sh := by
  unfold Shp at *
  split
  · rename_i e; rw [if_pos e] at hs; obtain ⟨c, h1, h2⟩ := hs; exact ⟨c, h _ _ h1, h2⟩
  · rename_i e; rw [if_neg e] at hs
    split
    · rename_i e2; rw [if_pos e2] at hs; obtain ⟨c, h1, h2⟩ := hs; exact ⟨c, h _ _ h1, h2⟩
    · rename_i e2; rw [if_neg e2] at hs; exact hs
theorem Rdy.mono {C C' : Nat → List Slot → Prop} {w w' : World} {S S' : Pl} (h : ∀ c s, C c s → C' c s) (hS : ∀ b, S b → S' b) (hk : ∀ b, S b → ∀ o, hp w b = some o → hp w' b = some o) {t : Slot} {chk wr rd : Value} (hr : Rdy C w S t chk wr rd) : Rdy C' w' S' t chk wr rd := by
  unfold Rdy at *
  split
  · rename_i e; rw [if_pos e] at hr
    obtain ⟨c, b5, b9, h1, h2, h3, h4, h5, h6⟩ := hr
    exact ⟨c, b5, b9, h _ _ h1, hS _ h2, hS _ h3, hk _ h2 _ h4, hk _ h3 _ h5, h6⟩
  · rename_i e; rw [if_neg e] at hr
    obtain ⟨sh, b4, b1, sv, h1, h2, h3, h4, h5, h6⟩ := hr
    exact ⟨sh, b4, b1, sv, h1.mono h, hS _ h2, hS _ h3, hk _ h2 _ h4, hk _ h3 _ h5, h6⟩
/-- It stays, where none of its blocks turns. -/
theorem Cd.keep {w w' : World} {S S' : Pl} (hS : ∀ b, S b → S' b) (hk : ∀ b, S b → b < w.heap.size → w'.heap[b]? = w.heap[b]?) : ∀ (n g : Nat) (l : List Slot), Cd w S n g l → Cd w' S' n g l
  | 0, _, _, h => h.elim
  | n + 1, g, l, h => by
    obtain ⟨h1, A, c, h2, h3⟩ := h
    have hk' : ∀ b, S b → ∀ o, hp w b = some o → hp w' b = some o := fun b hb o ho => by
      have hlt : b < w.heap.size := by unfold hp at ho; exact (Array.getElem?_eq_some_iff.1 ho).1
      unfold hp at *; rw [hk b hb hlt]; exact ho
    refine ⟨hS _ h1, A, c, hk' _ h1 _ h2, fun h0 => ?_⟩
    obtain ⟨b, ha, hb, hc⟩ := h3 h0
    refine ⟨b, ha, hS _ hb, fun i t ht => ?_⟩
    obtain ⟨g0, gb, chk, wr, rd, g1, g2, g3, g4, g5, g6⟩ := hc i t ht
    have k : ∀ o v, w.cell? ⟨b, o, none⟩ = some v → w'.cell? ⟨b, o, none⟩ = some v := fun o v hv => (World.cell?_of_block (hk b hb (World.block_lt_of_cell? w _ hv))).trans hv
    exact ⟨g0, gb, chk, wr, rd, k _ _ g1, k _ _ g2, k _ _ g3, k _ _ g4, k _ _ g5, g6.mono (fun c s => Cd.keep hS hk n c s) hS hk'⟩
theorem Cd.below {w w' : World} {S : Pl} {n g : Nat} {l : List Slot} (h : Cd w S n g l) (hb : Below w.heap.size w w') : Cd w' S n g l := Cd.keep (fun _ h => h) (fun b _ hlt => hb.block b hlt) n g l h
end Go.Proofs.YtinngljphjdpoaaDoor.Ca
/- The reference's Fits. -/
namespace Go.Proofs.YtinngljphjdpoaaDoor.Vr
open Go Go.RowKit Go.Proofs.YtinngljphjdpoaaDoor.Pa Go.Proofs.YtinngljphjdpoaaDoor.Pb Go.Proofs.YtinngljphjdpoaaDoor.Pf Go.Proofs.YtinngljphjdpoaaDoor.Nz Go.Proofs.YtinngljphjdpoaaDoor.Nm Go.Proofs.YtinngljphjdpoaaDoor.Sc Go.Proofs.YtinngljphjdpoaaDoor.Rs Go.Proofs.YtinngljphjdpoaaDoor.Va Go.Proofs.YtinngljphjdpoaaDoor.Vb Go.Proofs.YtinngljphjdpoaaDoor.Vc Go.Proofs.YtinngljphjdpoaaDoor.Vd
set_option linter.unusedVariables false
set_option linter.unusedSimpArgs false

theorem fits_at (no kind : Int) (least most : Nat) (sub : List Slot) : fits (.mk no kind least most sub) = (bnd (.mk no kind least most sub) && (decide (kind = 8 ∨ kind = 9) || decide (sub.length = 0))) := by
  unfold fits nest
  cases sub <;> rfl

end Go.Proofs.YtinngljphjdpoaaDoor.Vr
/- The reference's left. -/
namespace Go.Proofs.YtinngljphjdpoaaDoor.Vl
open Go Go.RowKit Go.Proofs.YtinngljphjdpoaaDoor.Pa Go.Proofs.YtinngljphjdpoaaDoor.Pb Go.Proofs.YtinngljphjdpoaaDoor.Pf Go.Proofs.YtinngljphjdpoaaDoor.Nz Go.Proofs.YtinngljphjdpoaaDoor.Nm Go.Proofs.YtinngljphjdpoaaDoor.Sc Go.Proofs.YtinngljphjdpoaaDoor.Rs Go.Proofs.YtinngljphjdpoaaDoor.Va Go.Proofs.YtinngljphjdpoaaDoor.Vb Go.Proofs.YtinngljphjdpoaaDoor.Vc Go.Proofs.YtinngljphjdpoaaDoor.Vd Go.Proofs.YtinngljphjdpoaaDoor.Vr
set_option linter.unusedVariables false
set_option linter.unusedSimpArgs false

/-- The number of the one ahead. -/
def ahead (l : List Slot) (i : Nat) : Option Int := if i = 0 then none else (l[i - 1]?).map Slot.no
theorem forall_and5 {α : Type} {a b c d e : α → Prop} (h : ∀ x, a x ∧ b x ∧ c x ∧ d x ∧ e x) : (∀ x, a x) ∧ (∀ x, b x) ∧ (∀ x, c x) ∧ (∀ x, d x) ∧ (∀ x, e x) :=
  ⟨fun x => (h x).1, fun x => (h x).2.1, fun x => (h x).2.2.1, fun x => (h x).2.2.2.1, fun x => (h x).2.2.2.2⟩
/-- Worlds behind one. -/
def Past (w W' : World) : Prop := Below w.heap.size w W'
theorem Past.on {w W W' : World} (h : Past w W) (hb : Below W.heap.size W W') : Past w W' := Below.trans h (hb.mono h.size)
theorem bad_step {f : List Slot → Int → Int} {last : Option Int} {t : Slot} {r : List Slot} {x : Int} (hx : 0 ≤ x) (h : t.no < 1 ∨ 536870911 < t.no ∨ behind t.no last = true ∨ fits t = false) : leftGo f last (t :: r) x = -1 := by
  simp only [leftGo]; rw [if_neg (by omega), if_pos h]
theorem good_step {f : List Slot → Int → Int} {last : Option Int} {t : Slot} {r : List Slot} {x : Int} (hx : 0 ≤ x) (h1 : 1 ≤ t.no) (h2 : t.no ≤ 536870911) (h3 : behind t.no last = false) (h4 : fits t = true) : leftGo f last (t :: r) x = leftGo f (some t.no) r (next f t x) := by
  simp only [leftGo]; rw [if_neg (by omega), if_neg (by rw [h3, h4]; simp; omega)]
theorem leftL_bd (k : Nat) (s : List Slot) (r : Nat) : -1 ≤ leftL k s r ∧ leftL k s r ≤ r := by
  rw [left_can]
  cases h : canL k s r with
  | none => simp [back]
  | some x => have := canL_le _ _ _ _ h; simp [back]; omega

end Go.Proofs.YtinngljphjdpoaaDoor.Vl
/- The reference's TypeOf, capped, framed, span, Valid. -/
namespace Go.Proofs.YtinngljphjdpoaaDoor.Vs
open Go Go.RowKit Go.Proofs.YtinngljphjdpoaaDoor.Pa Go.Proofs.YtinngljphjdpoaaDoor.Pb Go.Proofs.YtinngljphjdpoaaDoor.Pf Go.Proofs.YtinngljphjdpoaaDoor.Nz Go.Proofs.YtinngljphjdpoaaDoor.Nm Go.Proofs.YtinngljphjdpoaaDoor.Sc Go.Proofs.YtinngljphjdpoaaDoor.Rs Go.Proofs.YtinngljphjdpoaaDoor.Va Go.Proofs.YtinngljphjdpoaaDoor.Vb Go.Proofs.YtinngljphjdpoaaDoor.Vc Go.Proofs.YtinngljphjdpoaaDoor.Vd Go.Proofs.YtinngljphjdpoaaDoor.Vr Go.Proofs.YtinngljphjdpoaaDoor.Vl
set_option linter.unusedVariables false
set_option linter.unusedSimpArgs false

theorem w64n {n : Nat} (h : n ≤ 4194304) : wrap64 (n : Int) = (n : Int) := w64 (by omega) (by omega)
theorem mul64 {a b : Nat} (h1 : a ≤ 4194305) (h2 : b ≤ 4096) : wrap64 ((a : Int) * (b : Int)) = ((a * b : Nat) : Int) := by
  have hm : a * b ≤ 4194305 * 4096 := Nat.mul_le_mul h1 h2
  rw [← Int.natCast_mul]; exact w64 (by omega) (by omega)
theorem capN (n : Nat) : cap n ≤ 4611686018427387904 := Nat.le_trans (cap_le n) (by omega)
theorem _root_.Go.Proofs.YtinngljphjdpoaaDoor.Vd.KeptG.lt {W0 W : World} {g : Nat} {C : Array Value} (h : KeptG W0 g C W) : g + 1 ≤ W.heap.size := by
  rcases Nat.lt_or_ge g W.heap.size with h1 | h1
  · exact h1
  · have := h.2; unfold hp at this; rw [Array.getElem?_eq_none h1] at this; cases this
theorem vcap {a b : Nat} (h : a = b) : Value.int .i64 ((cap a : Nat) : Int) = .int .i64 ((cap b : Nat) : Int) := by rw [h]
theorem rGo_le (f : List Slot → Nat × Nat) (s : List Slot) : (rGo f s).1 ≤ 4194305 ∧ (rGo f s).2 ≤ 4194305 := by
  unfold rGo
  suffices hh : ∀ (s : List Slot) (p : Nat × Nat), p.1 ≤ 4194305 ∧ p.2 ≤ 4194305 → (s.foldl (rStep f) p).1 ≤ 4194305 ∧ (s.foldl (rStep f) p).2 ≤ 4194305 from hh s _ (by simp)
  intro s
  induction s with
  | nil => intro p hp; exact hp
  | cons t r ih => intro p hp; exact ih _ ⟨cap_le _, cap_le _⟩

end Go.Proofs.YtinngljphjdpoaaDoor.Vs
/- handSlots, the walk. -/
namespace Go.Proofs.YtinngljphjdpoaaDoor.Ht
open Go Go.RowKit Go.Proofs.YtinngljphjdpoaaDoor.Pa Go.Proofs.YtinngljphjdpoaaDoor.Pb Go.Proofs.YtinngljphjdpoaaDoor.Pf Go.Proofs.YtinngljphjdpoaaDoor.Sc Go.Proofs.YtinngljphjdpoaaDoor.Rs Go.Proofs.YtinngljphjdpoaaDoor.Hs
set_option linter.unusedVariables false
set_option linter.unusedSimpArgs false

/-- Where i of the places are done. -/
structure Done (w : World) (b n : Nat) (l : List Slot) (i : Nat) (f : Nat → Value) : Prop where
  row : w.rowIs b 53 ((l.length + 3) * 5) f
  slot : ∀ j t, l[j]? = some t → j < i → WfS t ∧ f (j * 5) = .int .i64 t.no ∧ f (j * 5 + 1) = .int .i64 t.kind ∧ f (j * 5 + 2) = .int .u64 t.least ∧ f (j * 5 + 3) = .int .u64 t.most ∧ Hd w (b + 1) n (f (j * 5 + 4)) t.sub
  mark : ∀ j, l.length ≤ j → j < i → f (j * 5) = .int .i64 (-77) ∧ f (j * 5 + 4) = .slice none 0 0
  rest : ∀ j, i ≤ j → j < l.length + 3 → f (j * 5 + 4) = .slice none 0 0

/-- The world where a place's cells are laid. -/
def laid (w : World) (b i : Nat) (t : Slot) (sv : Value) : World :=
  (((((w.setCell ⟨b, i * 5, none⟩ (.int .i64 (-77))).setCell ⟨b, i * 5, none⟩ (.int .i64 t.no)).setCell ⟨b, i * 5 + 1, none⟩ (.int .i64 t.kind)).setCell ⟨b, i * 5 + 2, none⟩ (.int .u64 t.least)).setCell ⟨b, i * 5 + 3, none⟩ (.int .u64 t.most)).setCell ⟨b, i * 5 + 4, none⟩ sv
theorem laid_size (w : World) (b i : Nat) (t : Slot) (sv : Value) : (laid w b i t sv).heap.size = w.heap.size := by simp [laid, World.setCell]
theorem laid_chg (w : World) (b i : Nat) (t : Slot) (sv : Value) : Chg (fun k => k = b) w (laid w b i t sv) := by
  have s : ∀ (w : World) (k : Nat) (v : Value), Chg (fun x => x = b) w (w.setCell ⟨b, k, none⟩ v) := fun w k v => Chg.store w ⟨b, k, none⟩ v
  exact (((((s w _ _).trans (s _ _ _)).trans (s _ _ _)).trans (s _ _ _)).trans (s _ _ _)).trans (s _ _ _)
theorem Done.step {w w7 : World} {b n i : Nat} {l : List Slot} {f : Nat → Value} {t : Slot} {sv v' : Value} (hd : Done w b n l i f) (ht : l[i]? = some t) (hwf : WfS t) (hb7 : Below w.heap.size (laid w b i t sv) w7) (hv : Hd w7 (b + 1) n v' t.sub) :
    ∃ f', Done (w7.setCell ⟨b, i * 5 + 4, none⟩ v') b n l (i + 1) f' := by
  have hi : i < l.length := (List.getElem?_eq_some_iff.1 ht).1
  have hlt := hd.row.lt
  have r6 := (((((hd.row.set (i * 5) (.int .i64 (-77))).set (i * 5) (.int .i64 t.no)).set (i * 5 + 1) (.int .i64 t.kind)).set (i * 5 + 2) (.int .u64 t.least)).set (i * 5 + 3) (.int .u64 t.most)).set (i * 5 + 4) sv
  have r7 := World.rowIs.of_block (w' := w7) r6 (hb7.block b hlt)
  have r8 := r7.set (i * 5 + 4) v'
  have hkeep : ∀ (m : Nat) (u : Value) (s : List Slot), Hd w (b + 1) m u s → Hd (w7.setCell ⟨b, i * 5 + 4, none⟩ v') (b + 1) m u s := fun m u s h => by
    refine Hd.keep m u s h (fun k hk hk2 => ?_)
    rw [heap_setCell_other _ _ _ _ (by simp; omega), hb7.block k hk2]
    exact (laid_chg w b i t sv).block k hk2 (by omega)
  have hkeep2 : Hd (w7.setCell ⟨b, i * 5 + 4, none⟩ v') (b + 1) n v' t.sub := Hd.keep n v' _ hv (fun k hk hk2 => heap_setCell_other _ _ _ _ (by simp; omega))
  refine ⟨_, r8, fun j u hu hj => ?_, fun j h1 h2 => absurd h1 (by omega), fun j h1 h2 => ?_⟩
  · by_cases hji : j = i
    · subst hji
      obtain rfl : t = u := Option.some.inj (ht.symm.trans hu)
      refine ⟨hwf, ?_, ?_, ?_, ?_, ?_⟩
      · simp
      · simp
      · simp
      · simp
      · simpa using hkeep2
    · obtain ⟨g0, g1, g2, g3, g4, g5⟩ := hd.slot j u hu (by omega)
      refine ⟨g0, ?_, ?_, ?_, ?_, ?_⟩
      · repeat rw [if_neg (by omega)]
        exact g1
      · repeat rw [if_neg (by omega)]
        exact g2
      · repeat rw [if_neg (by omega)]
        exact g3
      · repeat rw [if_neg (by omega)]
        exact g4
      · repeat rw [if_neg (by omega)]
        exact hkeep n _ _ g5
  · repeat rw [if_neg (by omega)]
    exact hd.rest j (by omega) h2
theorem Done.mark1 {w : World} {b n i : Nat} {l : List Slot} {f : Nat → Value} (hd : Done w b n l i f) (hi : l.length ≤ i) (hi2 : i < l.length + 3) : ∃ f', Done (w.setCell ⟨b, i * 5, none⟩ (.int .i64 (-77))) b n l (i + 1) f' := by
  have hkeep : ∀ (m : Nat) (u : Value) (s : List Slot), Hd w (b + 1) m u s → Hd (w.setCell ⟨b, i * 5, none⟩ (.int .i64 (-77))) (b + 1) m u s := fun m u s h => Hd.keep m u s h (fun k hk hk2 => heap_setCell_other _ _ _ _ (by simp; omega))
  refine ⟨_, hd.row.set (i * 5) (.int .i64 (-77)), fun j u hu hj => ?_, fun j h1 h2 => ?_, fun j h1 h2 => ?_⟩
  · have hjl : j < l.length := (List.getElem?_eq_some_iff.1 hu).1
    obtain ⟨g0, g1, g2, g3, g4, g5⟩ := hd.slot j u hu (by omega)
    refine ⟨g0, ?_, ?_, ?_, ?_, ?_⟩
    · rw [if_neg (by omega)]; exact g1
    · rw [if_neg (by omega)]; exact g2
    · rw [if_neg (by omega)]; exact g3
    · rw [if_neg (by omega)]; exact g4
    · rw [if_neg (by omega)]; exact hkeep n _ _ g5
  · by_cases hji : j = i
    · subst hji
      exact ⟨by simp, by rw [if_neg (by omega)]; exact hd.rest j (by omega) hi2⟩
    · obtain ⟨g1, g2⟩ := hd.mark j h1 (by omega)
      exact ⟨by rw [if_neg (by omega)]; exact g1, by rw [if_neg (by omega)]; exact g2⟩
  · rw [if_neg (by omega)]; exact hd.rest j (by omega) h2
theorem Done.hd {w : World} {b n : Nat} {l : List Slot} {f : Nat → Value} (hd : Done w b n l (l.length + 3) f) : Hd w b (n + 1) (.slice (some ⟨b, 0, none⟩) l.length (l.length + 3)) l :=
  ⟨b, f, rfl, Nat.le_refl _, hd.row, fun j t ht => by
    have hjl : j < l.length := (List.getElem?_eq_some_iff.1 ht).1
    obtain ⟨g0, g1, g2, g3, g4, g5⟩ := hd.slot j t ht (by omega)
    exact ⟨g0, g1, g2, g3, g4, Hd.mono (by omega) n _ _ g5⟩, fun j h1 h2 => hd.mark j h1 (by omega)⟩

end Go.Proofs.YtinngljphjdpoaaDoor.Ht
/- leftSlots: a schema in memory of its own is as it was. -/
namespace Go.Proofs.YtinngljphjdpoaaDoor.Ls
open Go Go.RowKit Go.Proofs.YtinngljphjdpoaaDoor.Pa Go.Proofs.YtinngljphjdpoaaDoor.Pb Go.Proofs.YtinngljphjdpoaaDoor.Pf Go.Proofs.YtinngljphjdpoaaDoor.Sc Go.Proofs.YtinngljphjdpoaaDoor.Rs Go.Proofs.YtinngljphjdpoaaDoor.Hs Go.Proofs.YtinngljphjdpoaaDoor.Ht Go.Proofs.YtinngljphjdpoaaDoor.Vl
set_option linter.unusedVariables false
set_option linter.unusedSimpArgs false

end Go.Proofs.YtinngljphjdpoaaDoor.Ls
