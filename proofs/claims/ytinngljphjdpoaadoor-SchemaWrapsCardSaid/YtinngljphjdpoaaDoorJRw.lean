/- What bytes read as by a schema, and the readings of single values by the program. -/
import Derived.Test.YtinngljphjdpoaaDoorJGi
import Derived.Test.YtinngljphjdpoaaDoorJGd
import Derived.Test.YtinngljphjdpoaaDoorJRa
import Derived.Deep.RegionHeld3
import Derived.BigRegion
namespace Go.Proofs.YtinngljphjdpoaaDoor.Rv
open Go Go.RowKit Go.Proofs.YtinngljphjdpoaaDoor.Pa Go.Proofs.YtinngljphjdpoaaDoor.Pb Go.Proofs.YtinngljphjdpoaaDoor.Pf Go.Proofs.YtinngljphjdpoaaDoor.Nz Go.Proofs.YtinngljphjdpoaaDoor.Nm Go.Proofs.YtinngljphjdpoaaDoor.Sc Go.Proofs.YtinngljphjdpoaaDoor.Rs Go.Proofs.YtinngljphjdpoaaDoor.Hs Go.Proofs.YtinngljphjdpoaaDoor.Va Go.Proofs.YtinngljphjdpoaaDoor.Vu Go.Proofs.YtinngljphjdpoaaDoor.Vg Go.Proofs.YtinngljphjdpoaaDoor.Vh Go.Proofs.YtinngljphjdpoaaDoor.Ca Go.Proofs.YtinngljphjdpoaaDoor.Ce Go.Proofs.YtinngljphjdpoaaDoor.Gp Go.Proofs.YtinngljphjdpoaaDoor.Hp Go.Proofs.YtinngljphjdpoaaDoor.Hq Go.Proofs.YtinngljphjdpoaaDoor.Gq Go.Proofs.YtinngljphjdpoaaDoor.Gw Go.Proofs.YtinngljphjdpoaaDoor.Gi
set_option linter.unusedVariables false
set_option linter.unusedSimpArgs false
def va0 : Vu.Va := .mk 0 [] []
/-- The slots' values out of the fields, each at its place. -/
def rGo (f : Slot → Ep.Fd → Int → Flt × Vu.Va) : List Slot → List Ep.Fd → Int → Flt × List Vu.Va
  | [], [], _ => ((0, 0, 0), [])
  | [], _ :: _, p => ((0, p, 81), [])
  | _ :: _, [], p => ((0, p, 81), [])
  | t :: s, g :: fs, p =>
    if g.no ≠ t.no then ((0, p, 81), [])
    else if g.ty ≠ (wt t.kind : Int) then ((0, p, 82), [])
    else if (f t g p).1.2.2 ≠ 0 then ((f t g p).1, [])
    else ((rGo f s fs (p + (Ep.one g).length)).1, (f t g p).2 :: (rGo f s fs (p + (Ep.one g).length)).2)
/-- The items' values, each at its place. -/
def iGo (f : List UInt8 → Int → Flt × Vu.Va) : List (List UInt8) → Int → Flt × List Vu.Va
  | [], _ => ((0, 0, 0), [])
  | x :: l, p =>
    if (f x (p + sz x.length)).1.2.2 ≠ 0 then ((f x (p + sz x.length)).1, [])
    else ((iGo f l (p + sz x.length + x.length)).1, (f x (p + sz x.length)).2 :: (iGo f l (p + sz x.length + x.length)).2)
/-- Where a field's bytes begin. -/
def inPl (g : Ep.Fd) (p : Int) : Int := p + sz (8 * g.no.toNat + g.ty.toNat) + sz g.data.length
/-- A slot's value out of its field. -/
def rSlot (U : List UInt8 → Bool) (d : List Slot → List UInt8 → Int → Flt × Vu.Va) (t : Slot) (g : Ep.Fd) (p : Int) : Flt × Vu.Va :=
  if t.kind = 8 then d t.sub g.data (inPl g p)
  else if t.kind = 9 then
    (if sErr g.data ≠ 0 then ((0, inPl g p + sAt g.data, sErr g.data), va0)
     else if Vu.within (Sp g.data 0).1.length t.least t.most ≠ 0 then ((0, p, 83), va0)
     else ((iGo (d t.sub) (Sp g.data 0).1 (inPl g p)).1, .mk 0 [] (iGo (d t.sub) (Sp g.data 0).1 (inPl g p)).2))
  else if Vu.badOf pF U t (.mk g.num g.data []) 0 ≠ 0 then ((0, p, Vu.badOf pF U t (.mk g.num g.data []) 0), va0)
  else ((0, 0, 0), .mk g.num g.data [])
/-- A message's value, less than n levels deep. -/
def rdv (U : List UInt8 → Bool) : Nat → List Slot → List UInt8 → Int → Flt × Vu.Va
  | 0, _, _, _ => ((0, 0, 0), va0)
  | n + 1, s, b, p =>
    if wErr b ≠ 0 then ((0, p + wAt b, wErr b), va0)
    else ((rGo (rSlot U (rdv U n)) s (D b 0 0).fs p).1, .mk 0 [] (rGo (rSlot U (rdv U n)) s (D b 0 0).fs p).2)
theorem rdv_succ (U : List UInt8 → Bool) (n : Nat) (s : List Slot) (b : List UInt8) (p : Int) : rdv U (n + 1) s b p = if wErr b ≠ 0 then ((0, p + wAt b, wErr b), va0) else ((rGo (rSlot U (rdv U n)) s (D b 0 0).fs p).1, .mk 0 [] (rGo (rSlot U (rdv U n)) s (D b 0 0).fs p).2) := rfl
/-- Where nothing is wrong the fields are all the bytes. -/
theorem D_all : ∀ (n : Nat) (l : List UInt8) (count : Nat) (last : Int), l.length = n → l.length ≤ 100000000 → (D l count last).err = 0 → l = Ep.bytes (D l count last).fs := by
  intro n
  induction n using Nat.strongRecOn with
  | _ n ih =>
    intro l count last hn hl he
    by_cases h0 : 0 < l.length
    · obtain ⟨e, o, f, k, h⟩ : ∃ e o f k, fld l count last = (e, o, f, k) := ⟨_, _, _, _, rfl⟩
      by_cases hz : e = 0
      · subst hz
        have hk := fld_ok (o := 0) h hl
        rw [D_step h0 h hl] at he ⊢
        have := ih (l.drop k).length (by simp; omega) (l.drop k) (count + 1) f.no rfl (by simp; omega) he
        simp only [Ep.bytes]
        rw [← this, ← hk.2.2.2.1, List.take_append_drop]
      · rw [D_bad h0 h hz] at he
        exact absurd he hz
    · have : l = [] := List.eq_nil_of_length_eq_zero (by omega)
      subst this
      rfl
/-- What each field is. -/
theorem D_fld : ∀ (n : Nat) (l : List UInt8) (count : Nat) (last : Int), l.length = n → l.length ≤ 100000000 → ∀ f ∈ (D l count last).fs, 1 ≤ f.no ∧ f.no ≤ 536870911 ∧ (f.ty = 0 ∨ f.ty = 1 ∨ f.ty = 5 ∨ f.ty = 2) ∧ f.num < 18446744073709551616 ∧ f.data.length ≤ l.length ∧ (f.ty = 2 → f.num = 0) ∧ (f.ty ≠ 2 → f.data = []) := by
  intro n
  induction n using Nat.strongRecOn with
  | _ n ih =>
    intro l count last hn hl f hf
    by_cases h0 : 0 < l.length
    · obtain ⟨e, o, g, k, h⟩ : ∃ e o g k, fld l count last = (e, o, g, k) := ⟨_, _, _, _, rfl⟩
      by_cases hz : e = 0
      · subst hz
        have hk := fld_ok (o := 0) h hl
        rw [D_step h0 h hl] at hf
        simp only [List.mem_cons] at hf
        rcases hf with rfl | hf
        · obtain ⟨-, -, -, -, hw, -, k1, k2, k3, k4, k5, -⟩ := hk
          have hn : ¬ (f.no < 1 ∨ 536870911 < f.no ∨ f.no ≤ last) := by
            intro hq
            unfold Ep.wrong at hw
            rw [if_pos hq] at hw
            exact absurd hw (by decide)
          unfold Ep.wrong at hw
          rw [if_neg hn] at hw
          refine ⟨k1, k2, k3, k4, k5, fun h2 => ?_, fun h2 => ?_⟩
          · rw [if_pos h2] at hw
            by_cases hq : f.num = 0
            · exact hq
            · rw [if_pos hq] at hw
              exact absurd hw (by decide)
          · rw [if_neg h2, if_pos (by omega)] at hw
            by_cases hq : f.data.length = 0
            · exact List.eq_nil_of_length_eq_zero hq
            · rw [if_pos (.inl hq)] at hw
              exact absurd hw (by decide)
        · have := ih (l.drop k).length (by simp; omega) (l.drop k) (count + 1) g.no rfl (by simp; omega) f hf
          simp only [List.length_drop] at this
          exact ⟨this.1, this.2.1, this.2.2.1, this.2.2.2.1, by have := this.2.2.2.2.1; omega, this.2.2.2.2.2⟩
      · rw [D_bad h0 h hz] at hf
        simp at hf
    · have : l = [] := List.eq_nil_of_length_eq_zero (by omega)
      subst this
      simp [D_nil] at hf
set_option maxHeartbeats 1000000 in
set_option maxRecDepth 100000 in
/-- inside: where the bytes of a field begin. -/
theorem inside (no ty : Int) (num : Nat) (A : Option Addr) (c : Nat) (data : List UInt8) (p : Int) (w : World) (h1 : 1 ≤ no) (h2 : no ≤ 536870911) (h3 : 0 ≤ ty ∧ ty ≤ 7) (hd : data.length ≤ 4194304) (hp0 : 0 ≤ p) (hp1 : p ≤ 1500000000000000) :
    Calls Tryd.prog 67 #[.agg #[.int .i64 no, .int .i64 ty, .int .u64 (num : Int), .slice A data.length c], .int .i64 p] w fun e w' => e = .returned (.int .i64 (inPl ⟨no, ty, num, data⟩ p)) ∧ Below w.heap.size w w' := by
  obtain ⟨no', rfl⟩ := Int.eq_ofNat_of_zero_le (show 0 ≤ no by omega)
  obtain ⟨ty', rfl⟩ := Int.eq_ofNat_of_zero_le h3.1
  obtain ⟨p', rfl⟩ := Int.eq_ofNat_of_zero_le hp0
  obtain ⟨w1, hw1⟩ : ∃ y, y = w.alloc (.cells #[.int .i64 (no' : Int), .int .i64 (ty' : Int), .int .u64 (num : Int), .slice A data.length c] 85) := ⟨_, rfl⟩
  have hb1 : Below w.heap.size w w1 := by rw [hw1]; exact Ea.vb _ _
  have hg1 : Pa.hp w1 w.heap.size = some (.cells #[.int .i64 (no' : Int), .int .i64 (ty' : Int), .int .u64 (num : Int), .slice A data.length c] 85 (0, 0)) := by rw [hw1]; exact hp_alloc_at _ _ rfl
  have k0 : w1.cell? ⟨w.heap.size, 0, none⟩ = some (.int .i64 (no' : Int)) := by rw [hp_cell hg1]; rfl
  have k1 : w1.cell? ⟨w.heap.size, 1, none⟩ = some (.int .i64 (ty' : Int)) := by rw [hp_cell hg1]; rfl
  have k3 : w1.cell? ⟨w.heap.size, 3, none⟩ = some (.slice A data.length c) := by rw [hp_cell hg1]; rfl
  have hsz1 := sz_u64 (8 * no' + ty') (by omega)
  have hsz2 := sz_u64 data.length (by omega)
  have s1 : ∀ w, Calls Tryd.prog 53 #[.int .u64 (8 * (no' : Int) + (ty' : Int))] w fun e w' => e = .returned (.int .i64 (sz (8 * no' + ty') : Nat)) ∧ w = w' := fun w => by
    have := size (8 * no' + ty') (by omega) w
    push_cast at this
    exact this
  have S1 := Lib.hid s1
  clear s1
  have S2 := Lib.hid (fun w => size data.length (by omega) w)
  have hin : inPl ⟨(no' : Int), (ty' : Int), num, data⟩ (p' : Int) = ((p' + sz (8 * no' + ty') + sz data.length : Nat) : Int) := by simp [inPl]
  rw [hin]
  have hq1 : IntKind.u64.wrap (no' : Int) = (no' : Int) := by rw [IntKind.wrap_u64]; omega
  have hq2 : IntKind.u64.wrap (8 * (no' : Int)) = 8 * (no' : Int) := by rw [IntKind.wrap_u64]; omega
  have hq3 : IntKind.u64.wrap (ty' : Int) = (ty' : Int) := by rw [IntKind.wrap_u64]; omega
  have hq4 : IntKind.u64.wrap (8 * (no' : Int) + (ty' : Int)) = 8 * (no' : Int) + (ty' : Int) := by rw [IntKind.wrap_u64]; omega
  have hq5 : IntKind.u64.wrap (data.length : Int) = (data.length : Int) := by rw [IntKind.wrap_u64]; omega
  have HB1 := Lib.hid hb1
  generalize sz (8 * no' + ty') = z1 at *
  generalize sz data.length = z2 at *
  have e1 : IntKind.i64.wrap ((p' : Int) + (z1 : Int)) = (p' : Int) + (z1 : Int) := by rw [IntKind.wrap_i64]; omega
  have e2 : IntKind.i64.wrap ((p' : Int) + (z1 : Int) + (z2 : Int)) = (p' : Int) + (z1 : Int) + (z2 : Int) := by rw [IntKind.wrap_i64]; omega
  clear hg1 hb1 hin
  go_enter Tryd.func67, Tryd.ntmps67
  go_upto_region 1 with fail
  rw [← hw1]
  clear hw1
  go_region_held3 (fun w' => w'.cell? ⟨w.heap.size, 0, none⟩ = some (.int .i64 (no' : Int)) ∧ w'.cell? ⟨w.heap.size, 1, none⟩ = some (.int .i64 (ty' : Int)) ∧ w'.cell? ⟨w.heap.size, 3, none⟩ = some (.slice A data.length c)) (go_keep) (first | (go_at_call 53; (first | (with_reducible refine (S1.out _).mono ?_) | (with_reducible refine (S2.out _).mono ?_)); rintro _ w6 ⟨rfl, rfl⟩))
  all_goals
    go_wp2_with fail
    go_ret
    exact ⟨by simp [e1, e2], HB1.out.drew⟩
end Go.Proofs.YtinngljphjdpoaaDoor.Rv
/- fit, and the closures that read a number or bytes. -/
namespace Go.Proofs.YtinngljphjdpoaaDoor.Rw
open Go Go.RowKit Go.Proofs.YtinngljphjdpoaaDoor.Pa Go.Proofs.YtinngljphjdpoaaDoor.Pb Go.Proofs.YtinngljphjdpoaaDoor.Pf Go.Proofs.YtinngljphjdpoaaDoor.Nz Go.Proofs.YtinngljphjdpoaaDoor.Nm Go.Proofs.YtinngljphjdpoaaDoor.Sc Go.Proofs.YtinngljphjdpoaaDoor.Rs Go.Proofs.YtinngljphjdpoaaDoor.Hs Go.Proofs.YtinngljphjdpoaaDoor.Va Go.Proofs.YtinngljphjdpoaaDoor.Vu Go.Proofs.YtinngljphjdpoaaDoor.Vg Go.Proofs.YtinngljphjdpoaaDoor.Vh Go.Proofs.YtinngljphjdpoaaDoor.Ca Go.Proofs.YtinngljphjdpoaaDoor.Ce Go.Proofs.YtinngljphjdpoaaDoor.Ea Go.Proofs.YtinngljphjdpoaaDoor.Gp Go.Proofs.YtinngljphjdpoaaDoor.Hx Go.Proofs.YtinngljphjdpoaaDoor.Rv
set_option linter.unusedVariables false
set_option linter.unusedSimpArgs false
theorem set3v {w : World} {g : Nat} {p q r : Value} {t : TypeId} (h : Pa.hp w g = some (.cells #[p, q, r] t (0, 0))) (a b c : Value) : Pa.hp (((w.setCell ⟨g, 0, none⟩ a).setCell ⟨g, 1, none⟩ b).setCell ⟨g, 2, none⟩ c) g = some (.cells #[a, b, c] t (0, 0)) := by
  have h1 := heap_setCell_same w g 0 _ _ a h
  have h2 := heap_setCell_same _ g 1 _ _ b h1
  exact heap_setCell_same _ g 2 _ _ c h2
/-- How the reading of one value ends. -/
def FitEnds (bd at_ : Int) (v : Value) (w : World) (e : Ending) (w' : World) : Prop := ((bd = 0 ∧ e = .returned v) ∨ (bd ≠ 0 ∧ e = gave (0, at_, bd))) ∧ Below w.heap.size w w'
set_option maxHeartbeats 1000000 in
set_option maxRecDepth 100000 in
theorem fit (sh : Value) (num dl c : Nat) (A : Option Addr) (at_ bd : Int) (w : World)
    (hbad : ∀ w1, Below w.heap.size w w1 → Calls Tryd.prog 59 #[sh, .agg #[.int .u64 (num : Int), .slice A dl c, .slice none 0 0], .int .i64 0] w1 fun e w2 => e = .returned (.int .i64 bd) ∧ Below w1.heap.size w1 w2) :
    Calls Tryd.prog 62 #[sh, .agg #[.int .u64 (num : Int), .slice A dl c, .slice none 0 0], .int .i64 at_] w (FitEnds bd at_ (.agg #[.int .u64 (num : Int), .slice A dl c, .slice none 0 0]) w) := by
  obtain ⟨w1, hw1⟩ : ∃ y, y = (w.alloc (.cells #[.int .u64 (num : Int), .slice A dl c, .slice none 0 0] 27)).alloc (.cells #[.int .u64 0, .slice none 0 0, .slice none 0 0] 27) := ⟨_, rfl⟩
  have hb1 : Below w.heap.size w w1 := by rw [hw1]; exact Vh.b2 w _ _
  have hg1 : Pa.hp w1 w.heap.size = some (.cells #[.int .u64 (num : Int), .slice A dl c, .slice none 0 0] 27 (0, 0)) := by rw [hw1]; exact below_hp (hp_alloc_at _ _ rfl) (vb _ _)
  have hr1 : Pa.hp w1 (w.heap.size + 1) = some (.cells #[.int .u64 0, .slice none 0 0, .slice none 0 0] 27 (0, 0)) := by rw [hw1]; exact hp_alloc_at _ _ (by simp)
  have BAD := Lib.hid (hbad w1 hb1)
  have hc1 := fun i => hp_cell hg1 i
  have HG := Lib.hid hg1; have HR := Lib.hid hr1; have HB := Lib.hid hb1
  clear hbad hg1 hr1 hb1
  go_enter Tryd.func62, Tryd.ntmps62
  go_upto_region 1 with fail
  rw [← hw1]
  clear hw1
  go_wp2_with (go_at_call 9999)
  go_at_call 59
  refine BAD.out.mono ?_
  rintro _ w2 ⟨rfl, b2⟩
  have hg2 := below_hp HG.out b2
  have hr2 := below_hp HR.out b2
  have hc2 := fun i => hp_cell hg2 i
  have hcr := fun i => hp_cell hr2 i
  have hfr := fun i => hp_frozen hr2 i
  have HB2 := Lib.hid (HB.out.trans (b2.mono HB.out.size))
  have HR2 := Lib.hid hr2
  have GV := Lib.hid (fun w => Vg.give 0 at_ bd w)
  clear hg2 hr2 b2 hc1
  by_cases h0 : bd = 0
  · subst h0
    go_wp2_with fail
    refine ret_row Tryd.results62 Tryd.underlying27 rfl (by kernel_rfl) rfl (set3v HR2.out _ _ _) rfl ⟨.inl ⟨rfl, rfl⟩, ?_⟩
    exact ((HB2.out.setCell (by dsimp only; omega) _).setCell (by dsimp only; omega) _).setCell (by dsimp only; omega) _
  · go_wp2_with (go_at_call 9999)
    go_at_call 46
    refine (GV.out _).mono ?_
    rintro _ w3 ⟨rfl, rfl⟩
    exact ⟨rfl, .inr ⟨h0, rfl⟩, HB2.out⟩
set_option maxHeartbeats 1000000 in
set_option maxRecDepth 100000 in
/-- The closure that reads a number. -/
theorem ready4 (tt : TypeId) (sv : Value) (no ty : Int) (num dl c b4 : Nat) (A : Option Addr) (at_ bd : Int) (w : World) (hm : Pa.hp w b4 = some (.cells #[.iface tt sv] 130 (0, 0)))
    (hbad : ∀ w1, Below w.heap.size w w1 → Calls Tryd.prog 59 #[.iface tt sv, .agg #[.int .u64 (num : Int), .slice none 0 0, .slice none 0 0], .int .i64 0] w1 fun e w2 => e = .returned (.int .i64 bd) ∧ Below w1.heap.size w1 w2) :
    Calls Tryd.prog 61 #[.agg #[.int .i64 no, .int .i64 ty, .int .u64 (num : Int), .slice A dl c], .int .i64 at_, .pointer (some ⟨b4, 0, none⟩)] w (FitEnds bd at_ (.agg #[.int .u64 (num : Int), .slice none 0 0, .slice none 0 0]) w) := by
  obtain ⟨w1, hw1⟩ : ∃ y, y = (w.alloc (.cells #[.int .i64 no, .int .i64 ty, .int .u64 (num : Int), .slice A dl c] 85)).alloc (.cells #[.int .u64 0, .slice none 0 0, .slice none 0 0] 27) := ⟨_, rfl⟩
  have hb1 : Below w.heap.size w w1 := by rw [hw1]; exact Vh.b2 w _ _
  have hg1 : Pa.hp w1 w.heap.size = some (.cells #[.int .i64 no, .int .i64 ty, .int .u64 (num : Int), .slice A dl c] 85 (0, 0)) := by rw [hw1]; exact below_hp (hp_alloc_at _ _ rfl) (vb _ _)
  have hr1 : Pa.hp w1 (w.heap.size + 1) = some (.cells #[.int .u64 0, .slice none 0 0, .slice none 0 0] 27 (0, 0)) := by rw [hw1]; exact hp_alloc_at _ _ (by simp)
  have hm1 := below_hp hm hb1
  have FIT := Lib.hid (fit (.iface tt sv) num 0 0 none at_ bd w1 (fun w2 hb => hbad w2 (hb1.trans (hb.mono hb1.size))))
  have hc1 := fun i => hp_cell hg1 i
  have hcm := fun i => hp_cell hm1 i
  have HR := Lib.hid hr1; have HB := Lib.hid hb1
  clear hbad hg1 hr1 hb1 hm hm1
  go_enter Tryd.func61, Tryd.ntmps61
  go_upto_region 1 with fail
  rw [← hw1]
  clear hw1
  go_wp2_with (go_at_call 9999)
  go_at_call 62
  refine FIT.out.mono ?_
  rintro _ w2 ⟨⟨h0, rfl⟩ | ⟨h0, rfl⟩, b2⟩
  · have hr2 := below_hp HR.out b2
    have hcr := fun i => hp_cell hr2 i
    have hfr := fun i => hp_frozen hr2 i
    have HB2 := Lib.hid (HB.out.trans (b2.mono HB.out.size))
    have HR2 := Lib.hid hr2
    clear hr2 b2 hc1 hcm
    go_wp2_with fail
    refine ret_row Tryd.results61 Tryd.underlying27 rfl (by kernel_rfl) rfl (set3v HR2.out _ _ _) rfl ⟨.inl ⟨h0, rfl⟩, ?_⟩
    exact ((HB2.out.setCell (by dsimp only; omega) _).setCell (by dsimp only; omega) _).setCell (by dsimp only; omega) _
  · exact ⟨rfl, .inr ⟨h0, rfl⟩, HB.out.trans (b2.mono HB.out.size)⟩
set_option maxHeartbeats 1000000 in
set_option maxRecDepth 100000 in
/-- The closure that reads bytes. -/
theorem ready6 (tt : TypeId) (sv : Value) (no ty : Int) (num dl c b4 : Nat) (A : Option Addr) (at_ bd : Int) (w : World) (hm : Pa.hp w b4 = some (.cells #[.iface tt sv] 130 (0, 0)))
    (hbad : ∀ w1, Below w.heap.size w w1 → Calls Tryd.prog 59 #[.iface tt sv, .agg #[.int .u64 0, .slice A dl c, .slice none 0 0], .int .i64 0] w1 fun e w2 => e = .returned (.int .i64 bd) ∧ Below w1.heap.size w1 w2) :
    Calls Tryd.prog 64 #[.agg #[.int .i64 no, .int .i64 ty, .int .u64 (num : Int), .slice A dl c], .int .i64 at_, .pointer (some ⟨b4, 0, none⟩)] w (FitEnds bd at_ (.agg #[.int .u64 0, .slice A dl c, .slice none 0 0]) w) := by
  obtain ⟨w1, hw1⟩ : ∃ y, y = (w.alloc (.cells #[.int .i64 no, .int .i64 ty, .int .u64 (num : Int), .slice A dl c] 85)).alloc (.cells #[.int .u64 0, .slice none 0 0, .slice none 0 0] 27) := ⟨_, rfl⟩
  have hb1 : Below w.heap.size w w1 := by rw [hw1]; exact Vh.b2 w _ _
  have hg1 : Pa.hp w1 w.heap.size = some (.cells #[.int .i64 no, .int .i64 ty, .int .u64 (num : Int), .slice A dl c] 85 (0, 0)) := by rw [hw1]; exact below_hp (hp_alloc_at _ _ rfl) (vb _ _)
  have hr1 : Pa.hp w1 (w.heap.size + 1) = some (.cells #[.int .u64 0, .slice none 0 0, .slice none 0 0] 27 (0, 0)) := by rw [hw1]; exact hp_alloc_at _ _ (by simp)
  have hm1 := below_hp hm hb1
  have FIT := Lib.hid (fit (.iface tt sv) 0 dl c A at_ bd w1 (fun w2 hb => hbad w2 (hb1.trans (hb.mono hb1.size))))
  have hc1 := fun i => hp_cell hg1 i
  have hcm := fun i => hp_cell hm1 i
  have HR := Lib.hid hr1; have HB := Lib.hid hb1
  clear hbad hg1 hr1 hb1 hm hm1
  go_enter Tryd.func64, Tryd.ntmps64
  go_upto_region 1 with fail
  rw [← hw1]
  clear hw1
  go_wp2_with (go_at_call 9999)
  go_at_call 62
  refine FIT.out.mono ?_
  rintro _ w2 ⟨⟨h0, rfl⟩ | ⟨h0, rfl⟩, b2⟩
  · have hr2 := below_hp HR.out b2
    have hcr := fun i => hp_cell hr2 i
    have hfr := fun i => hp_frozen hr2 i
    have HB2 := Lib.hid (HB.out.trans (b2.mono HB.out.size))
    have HR2 := Lib.hid hr2
    clear hr2 b2 hc1 hcm
    go_wp2_with fail
    refine ret_row Tryd.results64 Tryd.underlying27 rfl (by kernel_rfl) rfl (set3v HR2.out _ _ _) rfl ⟨.inl ⟨h0, rfl⟩, ?_⟩
    exact ((HB2.out.setCell (by dsimp only; omega) _).setCell (by dsimp only; omega) _).setCell (by dsimp only; omega) _
  · exact ⟨rfl, .inr ⟨h0, rfl⟩, HB.out.trans (b2.mono HB.out.size)⟩
end Go.Proofs.YtinngljphjdpoaaDoor.Rw
