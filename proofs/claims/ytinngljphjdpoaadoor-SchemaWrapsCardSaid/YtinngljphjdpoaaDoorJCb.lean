/- shapeOf. -/
import Derived.Test.YtinngljphjdpoaaDoorJLs
import Derived.BigRegion
import Derived.Deep.RegionWith
namespace Go.Proofs.YtinngljphjdpoaaDoor.Cb
open Go Go.RowKit Go.Proofs.YtinngljphjdpoaaDoor.Pa Go.Proofs.YtinngljphjdpoaaDoor.Pb Go.Proofs.YtinngljphjdpoaaDoor.Pf Go.Proofs.YtinngljphjdpoaaDoor.Sc Go.Proofs.YtinngljphjdpoaaDoor.Rs Go.Proofs.YtinngljphjdpoaaDoor.Va Go.Proofs.YtinngljphjdpoaaDoor.Vc Go.Proofs.YtinngljphjdpoaaDoor.Vd Go.Proofs.YtinngljphjdpoaaDoor.Ca
set_option linter.unusedVariables false
set_option linter.unusedSimpArgs false
/-- The blocks between two worlds. -/
def Bt (w w' : World) : Pl := fun b => w.heap.size ≤ b ∧ b < w'.heap.size
/-- What compile answers. -/
def CompSaid (m : Nat) : Prop := ∀ (k : Nat) (v : Value) (l : List Slot) (W w : World), RdS W m v l → okL k l → Below W.heap.size W w →
  Calls Tryd.prog 30 #[v] w fun e w' => ∃ c, e = .returned (ptr c) ∧ Cd w' (Bt w w') m c l ∧ Below w.heap.size w w'
theorem Bt.sub {w0 w w' w1 : World} (h1 : w0.heap.size ≤ w.heap.size) (h2 : w'.heap.size ≤ w1.heap.size) : ∀ b, Bt w w' b → Bt w0 w1 b := fun b h => ⟨Nat.le_trans h1 h.1, Nat.lt_of_lt_of_le h.2 h2⟩
theorem shp_flat {C : Nat → List Slot → Prop} {t : Slot} (h : nest t = false) : Shp C t (flat t) := by
  have h8 : ¬ t.kind = 8 := fun e => by simp [nest, e] at h
  have h9 : ¬ t.kind = 9 := fun e => by simp [nest, e] at h
  unfold Shp
  rw [if_neg h8, if_neg h9]
theorem shp8 {C : Nat → List Slot → Prop} {no : Int} {least most c : Nat} {sub : List Slot} (h : C c sub) : Shp C (.mk no 8 least most sub) (.iface 133 (.agg #[ptr c])) := by
  unfold Shp; rw [if_pos (show (Slot.mk no 8 least most sub).kind = 8 from rfl)]; exact ⟨c, h, rfl⟩
theorem shp9 {C : Nat → List Slot → Prop} {no : Int} {least most c : Nat} {sub : List Slot} (h : C c sub) : Shp C (.mk no 9 least most sub) (.iface 137 (.agg #[ptr c, .int .u64 least, .int .u64 most])) := by
  unfold Shp; rw [if_neg (by show ¬ (9 : Int) = 8; decide), if_pos (show (Slot.mk no 9 least most sub).kind = 9 from rfl)]; exact ⟨c, h, rfl⟩
set_option maxHeartbeats 1000000 in
set_option maxRecDepth 100000 in
theorem shapeOf (m k : Nat) (IH : CompSaid m) (no kind : Int) (least most : Nat) (sub : List Slot) (sv : Value) (W w : World) (h1 : sv.oneCell' = true) (hb : bnd (.mk no kind least most sub) = true)
    (hn : nest (.mk no kind least most sub) = true → RdS W m sv sub ∧ okL k sub) (hB : Below W.heap.size W w) :
    Calls Tryd.prog 56 #[.agg #[.int .i64 no, .int .i64 kind, .int .u64 least, .int .u64 most, sv]] w fun e w' =>
      ∃ sh, e = .returned sh ∧ Shp (Cd w' (Bt w w') m) (.mk no kind least most sub) sh ∧ Below w.heap.size w w' := by
  have HB := Lib.hid hB
  have bx : Below w.heap.size w (w.alloc (.cells #[.int .i64 no, .int .i64 kind, .int .u64 least, .int .u64 most, sv] 53)) := (Below.refl _ _).alloc (Nat.le_refl _) _
  have BX := Lib.hid bx
  clear hB bx
  have hF : ∀ K : Int, kind = K → K ≠ 8 → K ≠ 9 → ∀ w' : World, Shp (Cd w' (Bt w w') m) (.mk no kind least most sub) (flat (.mk no kind least most sub)) := fun K e h8 h9 w' => by subst e; exact shp_flat (by simp [nest, Slot.kind, h8, h9])
  have HF := Lib.hid hF; clear hF
  have hf64 := run_f64 most
  unfold fbits at hf64
  rcases bnd_kind hb with e | e | e | e | e | e | e | e | e
  · simp only [Slot.kind] at e
    subst e
    have hfl := HF.out 1 rfl (by decide) (by decide)
    have HFL := Lib.hid hfl; clear hfl hb hn
    go_enter Tryd.func56, Tryd.ntmps56
    go_wp2_with fail
    go_ret
    exact ⟨_, rfl, HFL.out _, BX.out⟩
  · simp only [Slot.kind] at e
    subst e
    have hfl := HF.out 2 rfl (by decide) (by decide)
    have HFL := Lib.hid hfl; clear hfl hb hn
    go_enter Tryd.func56, Tryd.ntmps56
    go_wp2_with fail
    go_ret
    exact ⟨_, rfl, HFL.out _, BX.out⟩
  · simp only [Slot.kind] at e
    subst e
    have hfl := HF.out 3 rfl (by decide) (by decide)
    have HFL := Lib.hid hfl; clear hfl hb hn
    go_enter Tryd.func56, Tryd.ntmps56
    go_wp2_with fail
    go_ret
    exact ⟨_, rfl, HFL.out _, BX.out⟩
  · simp only [Slot.kind] at e
    subst e
    have hfl := HF.out 4 rfl (by decide) (by decide)
    have HFL := Lib.hid hfl; clear hfl hb hn
    go_enter Tryd.func56, Tryd.ntmps56
    go_wp2_with fail
    go_ret
    exact ⟨_, rfl, HFL.out _, BX.out⟩
  · simp only [Slot.kind] at e
    subst e
    have hfl := HF.out 5 rfl (by decide) (by decide)
    have HFL := Lib.hid hfl; clear hfl hb hn
    go_enter Tryd.func56, Tryd.ntmps56
    go_wp2_with fail
    go_ret
    exact ⟨_, rfl, HFL.out _, BX.out⟩
  · simp only [Slot.kind] at e
    subst e
    have hfl := HF.out 6 rfl (by decide) (by decide)
    have HFL := Lib.hid hfl; clear hfl hb hn
    go_enter Tryd.func56, Tryd.ntmps56
    go_wp2_with fail
    go_ret
    exact ⟨_, rfl, HFL.out _, BX.out⟩
  · simp only [Slot.kind] at e
    subst e
    have hfl := HF.out 7 rfl (by decide) (by decide)
    have HFL := Lib.hid hfl; clear hfl hb hn
    go_enter Tryd.func56, Tryd.ntmps56
    go_wp2_with fail
    go_ret
    exact ⟨_, rfl, HFL.out _, BX.out⟩
  · simp only [Slot.kind] at e
    subst e
    obtain ⟨r1, r2⟩ := hn (by simp [nest, Slot.kind])
    have R1 := Lib.hid r1; have R2 := Lib.hid r2; clear r1 r2 hb hn HF
    go_enter Tryd.func56, Tryd.ntmps56
    go_wp2_with (go_at_call 9999)
    go_at_call 30
    refine (IH k sv sub W _ R1.out R2.out (HB.out.trans (BX.out.mono HB.out.size))).mono ?_
    rintro _ w2 ⟨c, rfl, hc, b2⟩
    have B2 := Lib.hid (BX.out.trans (b2.mono (by simp)))
    have HC := Lib.hid (Cd.keep (S' := Bt w w2) (Bt.sub (by simp) (Nat.le_refl _)) (fun _ _ _ => rfl) m c sub hc)
    clear hc b2
    go_wp2_with fail
    go_ret
    exact ⟨_, rfl, shp8 HC.out, B2.out⟩
  · simp only [Slot.kind] at e
    subst e
    obtain ⟨r1, r2⟩ := hn (by simp [nest, Slot.kind])
    have R1 := Lib.hid r1; have R2 := Lib.hid r2; clear r1 r2 hb hn HF
    go_enter Tryd.func56, Tryd.ntmps56
    go_wp2_with fail
    obtain ⟨wx, hwx⟩ : ∃ x, x = w.alloc (.cells #[.int .i64 no, .int .i64 9, .int .u64 least, .int .u64 most, sv] 53) := ⟨_, rfl⟩
    have hx : hp wx w.heap.size = some (.cells #[.int .i64 no, .int .i64 9, .int .u64 least, .int .u64 most, sv] 53 (0, 0)) := by rw [hwx]; exact hp_alloc_at _ _ rfl
    rw [← hwx]
    rw [← hwx] at BX
    have hsz : wx.heap.size = w.heap.size + 1 := by rw [hwx]; simp
    have HSZ := Lib.hid hsz; clear hsz hwx
    have c2 : wx.cell? ⟨w.heap.size, 2, none⟩ = some (.int .u64 least) := hp_cell hx 2
    have c3 : wx.cell? ⟨w.heap.size, 3, none⟩ = some (.int .u64 most) := hp_cell hx 3
    have c4 : wx.cell? ⟨w.heap.size, 4, none⟩ = some sv := hp_cell hx 4
    have HX := Lib.hid hx; clear hx
    go_region_with (go_at_call 30; refine (IH k sv sub W _ R1.out R2.out (HB.out.trans (Below.mono (Below.drew BX.out) HB.out.size))).mono ?_; rintro _ w2 ⟨c, rfl, hc, b2⟩; have d2 : w2.cell? ⟨w.heap.size, 2, none⟩ = some (.int .u64 least) := hp_cell ((b2.hp _ (by have := HSZ.out; simp; omega)).trans ((hp_drew _).trans HX.out)) 2; have d3 : w2.cell? ⟨w.heap.size, 3, none⟩ = some (.int .u64 most) := hp_cell ((b2.hp _ (by have := HSZ.out; simp; omega)).trans ((hp_drew _).trans HX.out)) 3)
    all_goals
      have B2 := Lib.hid ((BX.out.drew).trans (b2.mono (by have := HSZ.out; simp; omega)))
      have HC := Lib.hid (Cd.keep (S' := Bt w w2) (Bt.sub (by have := HSZ.out; simp; omega) (Nat.le_refl _)) (fun _ _ _ => rfl) m c sub hc)
      clear hc b2
      go_wp2_with fail
      go_ret
      exact ⟨_, rfl, shp9 HC.out, B2.out⟩
@[go_sem] theorem ta_message (t xT : TypeId) (v : Value) (w : World) : (Instr.typeAssert (.iface t v) xT 133 true).run Tryd.prog w = .ok (if t = 133 then .tuple #[v, .bool true] else .tuple #[.agg #[.pointer none], .bool false]) w := by
  have hz : (zeroValue 133).run Tryd.prog w = .ok (.agg #[.pointer none]) w := by kernel_rfl
  by_cases h : t = 133
  · subst h; simp [Instr.typeAssert, Sem.run_bind, run_underlying Tryd.underlying133, Result.andThen_ok]
  · simp [Instr.typeAssert, Sem.run_bind, run_underlying Tryd.underlying133, Result.andThen_ok, h, hz]
@[go_sem] theorem ta_list (t xT : TypeId) (v : Value) (w : World) : (Instr.typeAssert (.iface t v) xT 137 true).run Tryd.prog w = .ok (if t = 137 then .tuple #[v, .bool true] else .tuple #[.agg #[.pointer none, .int .u64 0, .int .u64 0], .bool false]) w := by
  have hz : (zeroValue 137).run Tryd.prog w = .ok (.agg #[.pointer none, .int .u64 0, .int .u64 0]) w := by kernel_rfl
  by_cases h : t = 137
  · subst h; simp [Instr.typeAssert, Sem.run_bind, run_underlying Tryd.underlying137, Result.andThen_ok]
  · simp [Instr.typeAssert, Sem.run_bind, run_underlying Tryd.underlying137, Result.andThen_ok, h, hz]
@[go_sem] theorem ta_number (t xT : TypeId) (v : Value) (w : World) : (Instr.typeAssert (.iface t v) xT 140 true).run Tryd.prog w = .ok (if t = 140 then .tuple #[v, .bool true] else .tuple #[.agg #[.int .u64 0, .int .u64 0], .bool false]) w := by
  have hz : (zeroValue 140).run Tryd.prog w = .ok (.agg #[.int .u64 0, .int .u64 0]) w := by kernel_rfl
  by_cases h : t = 140
  · subst h; simp [Instr.typeAssert, Sem.run_bind, run_underlying Tryd.underlying140, Result.andThen_ok]
  · simp [Instr.typeAssert, Sem.run_bind, run_underlying Tryd.underlying140, Result.andThen_ok, h, hz]
@[go_sem] theorem ta_data (t xT : TypeId) (v : Value) (w : World) : (Instr.typeAssert (.iface t v) xT 146 true).run Tryd.prog w = .ok (if t = 146 then .tuple #[v, .bool true] else .tuple #[.agg #[.int .u64 0, .int .u64 0, .bool false], .bool false]) w := by
  have hz : (zeroValue 146).run Tryd.prog w = .ok (.agg #[.int .u64 0, .int .u64 0, .bool false]) w := by kernel_rfl
  by_cases h : t = 146
  · subst h; simp [Instr.typeAssert, Sem.run_bind, run_underlying Tryd.underlying146, Result.andThen_ok]
  · simp [Instr.typeAssert, Sem.run_bind, run_underlying Tryd.underlying146, Result.andThen_ok, h, hz]
@[go_sem] theorem ta_float (t xT : TypeId) (v : Value) (w : World) : (Instr.typeAssert (.iface t v) xT 143 true).run Tryd.prog w = .ok (if t = 143 then .tuple #[v, .bool true] else .tuple #[.agg #[.float .f64 0], .bool false]) w := by
  have hz : (zeroValue 143).run Tryd.prog w = .ok (.agg #[.float .f64 0]) w := by kernel_rfl
  by_cases h : t = 143
  · subst h; simp [Instr.typeAssert, Sem.run_bind, run_underlying Tryd.underlying143, Result.andThen_ok]
  · simp [Instr.typeAssert, Sem.run_bind, run_underlying Tryd.underlying143, Result.andThen_ok, h, hz]
theorem shp_inv8 {C : Nat → List Slot → Prop} {no : Int} {least most : Nat} {sub : List Slot} {sh : Value} (h : Shp C (.mk no 8 least most sub) sh) : ∃ c, C c sub ∧ sh = .iface 133 (.agg #[ptr c]) := by
  unfold Shp at h
  rw [if_pos (show (Slot.mk no 8 least most sub).kind = 8 from rfl)] at h
  exact h
theorem shp_inv9 {C : Nat → List Slot → Prop} {no : Int} {least most : Nat} {sub : List Slot} {sh : Value} (h : Shp C (.mk no 9 least most sub) sh) : ∃ c, C c sub ∧ sh = .iface 137 (.agg #[ptr c, .int .u64 least, .int .u64 most]) := by
  unfold Shp at h
  rw [if_neg (show ¬ (Slot.mk no 9 least most sub).kind = 8 by show ¬ (9 : Int) = 8; decide), if_pos (show (Slot.mk no 9 least most sub).kind = 9 from rfl)] at h
  exact h
theorem shp_invN {C : Nat → List Slot → Prop} {no kind : Int} {least most : Nat} {sub : List Slot} {sh : Value} (h8 : kind ≠ 8) (h9 : kind ≠ 9) (h : Shp C (.mk no kind least most sub) sh) : sh = flat (.mk no kind least most sub) := by
  unfold Shp at h
  rw [if_neg (show ¬ (Slot.mk no kind least most sub).kind = 8 from h8), if_neg (show ¬ (Slot.mk no kind least most sub).kind = 9 from h9)] at h
  exact h
end Go.Proofs.YtinngljphjdpoaaDoor.Cb
