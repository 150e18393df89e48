/- check. -/
import Derived.Test.YtinngljphjdpoaaGreatDoorJUw
import Derived.Deep.DeepCutAuto
namespace Go.Proofs.YtinngljphjdpoaaGreatDoor.Vi
open Go Go.RowKit Go.Proofs.YtinngljphjdpoaaGreatDoor.Pa Go.Proofs.YtinngljphjdpoaaGreatDoor.Pb Go.Proofs.YtinngljphjdpoaaGreatDoor.Pf Go.Proofs.YtinngljphjdpoaaGreatDoor.Pq Go.Proofs.YtinngljphjdpoaaGreatDoor.Sc Go.Proofs.YtinngljphjdpoaaGreatDoor.Rs Go.Proofs.YtinngljphjdpoaaGreatDoor.Hs Go.Proofs.YtinngljphjdpoaaGreatDoor.Ca Go.Proofs.YtinngljphjdpoaaGreatDoor.Cb Go.Proofs.YtinngljphjdpoaaGreatDoor.Vu Go.Proofs.YtinngljphjdpoaaGreatDoor.Vg Go.Proofs.YtinngljphjdpoaaGreatDoor.Vh
set_option linter.unusedVariables false
set_option linter.unusedSimpArgs false
/-- How a check ends. -/
def Ends (f : Flt) (w : World) (e : Ending) (w' : World) : Prop := ((f.2.2 = 0 ∧ e = .returned (.tuple #[])) ∨ (f.2.2 ≠ 0 ∧ e = gave f)) ∧ Below w.heap.size w w'
section
variable (F : Nat → Nat → Int) (U : List UInt8 → Bool)
/-- What one slot's check finds. -/
def one (n : Nat) (deep : Int) (t : Slot) (x : Va) : Flt :=
  if t.kind = 8 then chk F U n t.sub x (deep + 1)
  else if isOf t x = false then (deep, t.no, 84)
  else if badOf F U t x x.parts.length ≠ 0 then (deep, t.no, badOf F U t x x.parts.length)
  else if t.kind = 9 then itemsGo (fun y => chk F U n t.sub y (deep + 1)) x.parts
  else (0, 0, 0)
theorem chk_succ (n : Nat) (s : List Slot) (v : Va) (deep : Int) : chk F U (n + 1) s v deep = (if v.num ≠ 0 ∨ v.data.length ≠ 0 then (deep, 0, 84) else if v.parts.length ≠ s.length then (deep, 0, 81) else chkGo (one F U n deep) s v.parts) := rfl
/-- What check answers. -/
def CheckSaid (n : Nat) : Prop := ∀ (S : Pl) (g k : Nat) (l : List Slot) (nv dv pv : Value) (x : Va) (deep : Int) (w : World), Cd w S n g l → RdV w k nv dv pv x → TabU w → 0 ≤ deep → deep + n ≤ 1000000 →
  Calls Tryz.prog 60 #[ptr g, .agg #[nv, dv, pv], .int .i64 deep] w (Ends (chk F U n l x deep) w)
end
theorem chkGo_drop (f : Slot → Va → Flt) (l : List Slot) (p : List Va) (i : Nat) (h1 : i < l.length) (h2 : i < p.length) :
    chkGo f (l.drop i) (p.drop i) = if (f l[i] p[i]).2.2 ≠ 0 then f l[i] p[i] else chkGo f (l.drop (i + 1)) (p.drop (i + 1)) := by
  rw [List.drop_eq_getElem_cons h1, List.drop_eq_getElem_cons h2]; rfl
theorem Ends.mono {f : Flt} {w w1 w2 : World} {e : Ending} (h : Ends f w1 e w2) (hb : Below w.heap.size w w1) : Ends f w e w2 := ⟨h.1, hb.trans (h.2.mono hb.size)⟩
set_option maxRecDepth 100000 in
/-- The check of a slot with a message within. -/
theorem ready1 (U : List UInt8 → Bool) (n : Nat) (IH : CheckSaid pF U n) (S : Pl) (c b5 k : Nat) (l : List Slot) (nv dv pv : Value) (x : Va) (deep : Int) (w : World) (hc : Cd w S n c l) (hm : hp w b5 = some (.cells #[ptr c] 197 (0, 0)))
    (hx : RdV w k nv dv pv x) (hT : TabU w) (hd1 : 0 ≤ deep) (hd2 : deep + 1 + n ≤ 1000000) :
    Calls Tryz.prog 116 #[.agg #[nv, dv, pv], .int .i64 deep, ptr b5] w (Ends (chk pF U n l x (deep + 1)) w) := by
  have hlt : b5 < w.heap.size := (Array.getElem?_eq_some_iff.1 hm).1
  have hne : ¬ b5 = w.heap.size := by omega
  have hne2 : ¬ w.heap.size = b5 := by omega
  obtain ⟨wx, hwx⟩ : ∃ y, y = w.alloc (.cells #[nv, dv, pv] 32) := ⟨_, rfl⟩
  have hbx : Below w.heap.size w wx := by rw [hwx]; exact b1 _ _
  have hr := IH S c k l nv dv pv x (deep + 1) wx (hc.below hbx) (hx.below hbx) (hT.below hbx) (by omega) (by omega)
  obtain ⟨hn, rfl, hdv, hpv⟩ := hx
  obtain ⟨A, cc, rfl, -, -⟩ := hpv.slice
  obtain ⟨A2, cc2, rfl, -, -⟩ : ∃ A c, dv = .slice A x.data.length c ∧ x.data.length ≤ c ∧ c ≤ maxLen := by obtain ⟨A, c, e, h1, h2, -⟩ := hdv; exact ⟨A, c, e, h1, h2⟩
  rw [hwx] at hr hbx
  have HR := Lib.hid hr; have HB := Lib.hid hbx
  have hadd : IntKind.i64.wrap (deep + 1) = deep + 1 := by rw [IntKind.wrap_i64]; omega
  have hcm := fun i => hp_cell hm i
  clear hr hbx hc hdv hpv hn hm hwx hT
  unfold ptr at *
  go_enter Tryz.func116, Tryz.ntmps116
  go_wp2_with (go_at_call 9999)
  go_at_call 60
  refine HR.out.mono ?_
  rintro e w2 ⟨⟨h0, rfl⟩ | ⟨h0, rfl⟩, hb⟩
  · have HB2 := Lib.hid (HB.out.trans (hb.mono HB.out.size))
    clear hb
    go_wp2_with fail
    go_end0
    exact ⟨.inl ⟨h0, rfl⟩, HB2.out⟩
  · exact ⟨rfl, .inr ⟨h0, rfl⟩, HB.out.trans (hb.mono HB.out.size)⟩
def itemsOf (U : List UInt8 → Bool) (n : Nat) (sub : List Slot) (deep : Int) (l : List Va) : Flt := itemsGo (fun y => chk pF U n sub y (deep + 1)) l
theorem items_cons (U : List UInt8 → Bool) (n : Nat) (sub : List Slot) (deep : Int) (y : Va) (l : List Va) : itemsOf U n sub deep (y :: l) = if (chk pF U n sub y (deep + 1)).2.2 ≠ 0 then chk pF U n sub y (deep + 1) else itemsOf U n sub deep l := rfl
/-- What a slot's check finds: not its shape, its bounds, or what stands within. -/
def found (deep no : Int) (ok : Bool) (bad : Int) (rest : Flt) : Flt := if ok = false then (deep, no, 84) else if bad ≠ 0 then (deep, no, bad) else rest
-- @GEN
set_option maxHeartbeats 1000000 in
set_option maxRecDepth 100000 in
theorem ready2_number (a b : Nat) (no : Int) (b4 b1 num : Nat) (dl pl c c2 : Nat) (A B : Option Addr) (deep bd : Int) (ok : Bool) (w : World)
    (hm : hp w b4 = some (.cells #[.iface 204 (.agg #[.int .u64 (a : Int), .int .u64 (b : Int)])] 194 (0, 0)))
    (hs : w.cell? ⟨b1, 0, none⟩ = some (.int .i64 no)) (hb1 : b1 < w.heap.size)
    (HIS : RowKit.Hid (∀ w, Calls Tryz.prog 194 #[.agg #[.int .u64 (a : Int), .int .u64 (b : Int)], .agg #[.int .u64 (num : Int), .slice A dl c, .slice B pl c2]] w fun e w' => e = .returned (.bool ok) ∧ Below w.heap.size w w'))
    (HBD : RowKit.Hid (∀ w1, Below w.heap.size w w1 → Calls Tryz.prog 118 #[.iface 204 (.agg #[.int .u64 (a : Int), .int .u64 (b : Int)]), .agg #[.int .u64 (num : Int), .slice A dl c, .slice B pl c2], .int .i64 (pl : Int)] w1 fun e w' => e = .returned (.int .i64 bd) ∧ Below w1.heap.size w1 w')) :
    Calls Tryz.prog 117 #[.agg #[.int .u64 (num : Int), .slice A dl c, .slice B pl c2], .int .i64 deep, ptr b4, ptr b1] w (Ends (found deep no ok bd (0, 0, 0)) w) := by
  have hlt : b4 < w.heap.size := (Array.getElem?_eq_some_iff.1 hm).1
  have hne : ¬ b4 = w.heap.size := by omega
  have hne2 : ¬ w.heap.size = b4 := by omega
  have hne3 : ¬ b1 = w.heap.size := by omega
  have hne4 : ¬ w.heap.size = b1 := by omega
  have hmeth : ∀ (f : Nat) (w : World), (method (f + 1) 204 (.agg #[.int .u64 (a : Int), .int .u64 (b : Int)]) "pawl/schema.is").run Tryz.prog w = .ok (194, .agg #[.int .u64 (a : Int), .int .u64 (b : Int)]) w := fun _ _ => by kernel_rfl
  have hcm := fun i => hp_cell hm i
  have HM := Lib.hid hm; have HS := Lib.hid hs
  have hv0 : hp (w.alloc (.cells #[.int .u64 num, .slice A dl c, .slice B pl c2] 32)) w.heap.size = some (.cells #[.int .u64 num, .slice A dl c, .slice B pl c2] 32 (0, 0)) := hp_alloc_at _ _ rfl
  have HV0 := Lib.hid hv0; have BX := Lib.hid (Vh.b1 w (.cells #[.int .u64 num, .slice A dl c, .slice B pl c2] 32))
  -- what stands in a world of those behind
  have hfacts : ∀ w1, Below (w.heap.size + 1) (w.alloc (.cells #[.int .u64 num, .slice A dl c, .slice B pl c2] 32)) w1 → (∀ i, w1.cell? ⟨b4, i, none⟩ = (#[.iface 204 (.agg #[.int .u64 (a : Int), .int .u64 (b : Int)])] : Array Value)[i]?) ∧ w1.cell? ⟨b1, 0, none⟩ = some (.int .i64 no) ∧ (∀ i, w1.cell? ⟨w.heap.size, i, none⟩ = (#[.int .u64 num, .slice A dl c, .slice B pl c2] : Array Value)[i]?) ∧ w.heap.size < w1.heap.size ∧ Below w.heap.size w w1 := by
    intro w1 hb
    have hb0 : Below w.heap.size w w1 := BX.out.trans (hb.mono (by omega))
    have hsz := hb.size
    simp only [World.size_alloc] at hsz
    refine ⟨fun i => hp_cell ((hb0.hp b4 hlt).trans HM.out) i, (World.cell?_of_block (hb0.block b1 hb1)).trans HS.out, fun i => hp_cell ((hb.hp _ (by omega)).trans HV0.out) i, by omega, hb0⟩
  have HF := Lib.hid hfacts
  clear hfacts hv0
  clear hm
  unfold ptr at *
  go_enter Tryz.func117, Tryz.ntmps117
  go_wp2_with (go_at_call 9999)
  go_at_call 194
  refine (HIS.out _).mono ?_
  rintro _ w1 ⟨rfl, bb1⟩
  have bb1' := bb1
  simp only [World.size_alloc] at bb1'
  obtain ⟨f1, f2, f3, f4, f5⟩ := HF.out w1 bb1'
  have B1 := Lib.hid bb1'; have F5 := Lib.hid f5
  have hne5 : ¬ b4 = w1.heap.size := by omega
  have hne6 : ¬ w1.heap.size = b4 := by omega
  have hne7 : ¬ b1 = w1.heap.size := by omega
  have hne8 : ¬ w1.heap.size = b1 := by omega
  have hne9 : ¬ w.heap.size = w1.heap.size := by omega
  have hne10 : ¬ w1.heap.size = w.heap.size := by omega
  clear bb1 bb1' f5 hcm hs hmeth
  have gv := fun w => Vg.give deep no 84 w
  have GV := Lib.hid gv; clear gv
  cases ok with
  | false =>
    go_wp2_with (go_at_call 9999)
    go_at_call 86
    refine (GV.out _).mono ?_
    rintro _ w2 ⟨rfl, rfl⟩
    exact ⟨rfl, .inr ⟨(by show (84 : Int) ≠ 0; decide), rfl⟩, F5.out⟩
  | true =>
    have hbd := HBD.out w1 F5.out
    have HBD2 := Lib.hid hbd; clear hbd HBD HIS GV
    go_wp2_with (go_at_call 9999)
    go_at_call 118
    refine HBD2.out.mono ?_
    rintro _ w2 ⟨rfl, bb2⟩
    have bb2' := B1.out.trans (bb2.mono (by omega))
    obtain ⟨g1, g2, g3, g4, g5⟩ := HF.out w2 bb2'
    have hsz2 := bb2.size
    have B2 := Lib.hid bb2'; have G5 := Lib.hid g5
    have hn5 : ¬ b4 = w2.heap.size := by omega
    have hn6 : ¬ w2.heap.size = b4 := by omega
    have hn7 : ¬ b1 = w2.heap.size := by omega
    have hn8 : ¬ w2.heap.size = b1 := by omega
    have hn9 : ¬ w.heap.size = w2.heap.size := by omega
    have hn10 : ¬ w2.heap.size = w.heap.size := by omega
    clear bb2 bb2' g5 f1 f2 f3 B1 F5 HBD2
    by_cases hz : bd = 0
    · subst hz
      go_wp2_with fail
      go_end0
      exact ⟨.inl ⟨rfl, rfl⟩, G5.out.trans ((Vh.b1 _ _).mono G5.out.size)⟩
    · have gv := fun w => Vg.give deep no bd w
      have GV := Lib.hid gv; clear gv
      have HZ := Lib.hid hz
      go_wp2_with (go_at_call 9999)
      go_at_call 86
      refine (GV.out _).mono ?_
      rintro _ w3 ⟨rfl, rfl⟩
      have hz := HZ.out
      refine ⟨rfl, .inr ⟨?_, ?_⟩, G5.out⟩
      · unfold found; rw [if_neg (by simp), if_pos hz]; exact hz
      · unfold found; rw [if_neg (by simp), if_pos hz]; rfl
set_option maxHeartbeats 1000000 in
set_option maxRecDepth 100000 in
theorem ready2_float (m : Nat) (no : Int) (b4 b1 num : Nat) (dl pl c c2 : Nat) (A B : Option Addr) (deep bd : Int) (ok : Bool) (w : World)
    (hm : hp w b4 = some (.cells #[.iface 207 (.agg #[fbits m])] 194 (0, 0)))
    (hs : w.cell? ⟨b1, 0, none⟩ = some (.int .i64 no)) (hb1 : b1 < w.heap.size)
    (HIS : RowKit.Hid (∀ w, Calls Tryz.prog 195 #[.agg #[fbits m], .agg #[.int .u64 (num : Int), .slice A dl c, .slice B pl c2]] w fun e w' => e = .returned (.bool ok) ∧ Below w.heap.size w w'))
    (HBD : RowKit.Hid (∀ w1, Below w.heap.size w w1 → Calls Tryz.prog 118 #[.iface 207 (.agg #[fbits m]), .agg #[.int .u64 (num : Int), .slice A dl c, .slice B pl c2], .int .i64 (pl : Int)] w1 fun e w' => e = .returned (.int .i64 bd) ∧ Below w1.heap.size w1 w')) :
    Calls Tryz.prog 117 #[.agg #[.int .u64 (num : Int), .slice A dl c, .slice B pl c2], .int .i64 deep, ptr b4, ptr b1] w (Ends (found deep no ok bd (0, 0, 0)) w) := by
  have hlt : b4 < w.heap.size := (Array.getElem?_eq_some_iff.1 hm).1
  have hne : ¬ b4 = w.heap.size := by omega
  have hne2 : ¬ w.heap.size = b4 := by omega
  have hne3 : ¬ b1 = w.heap.size := by omega
  have hne4 : ¬ w.heap.size = b1 := by omega
  have hmeth : ∀ (f : Nat) (w : World), (method (f + 1) 207 (.agg #[fbits m]) "pawl/schema.is").run Tryz.prog w = .ok (195, .agg #[fbits m]) w := fun _ _ => by kernel_rfl
  have hcm := fun i => hp_cell hm i
  have HM := Lib.hid hm; have HS := Lib.hid hs
  have hv0 : hp (w.alloc (.cells #[.int .u64 num, .slice A dl c, .slice B pl c2] 32)) w.heap.size = some (.cells #[.int .u64 num, .slice A dl c, .slice B pl c2] 32 (0, 0)) := hp_alloc_at _ _ rfl
  have HV0 := Lib.hid hv0; have BX := Lib.hid (Vh.b1 w (.cells #[.int .u64 num, .slice A dl c, .slice B pl c2] 32))
  -- what stands in a world of those behind
  have hfacts : ∀ w1, Below (w.heap.size + 1) (w.alloc (.cells #[.int .u64 num, .slice A dl c, .slice B pl c2] 32)) w1 → (∀ i, w1.cell? ⟨b4, i, none⟩ = (#[.iface 207 (.agg #[fbits m])] : Array Value)[i]?) ∧ w1.cell? ⟨b1, 0, none⟩ = some (.int .i64 no) ∧ (∀ i, w1.cell? ⟨w.heap.size, i, none⟩ = (#[.int .u64 num, .slice A dl c, .slice B pl c2] : Array Value)[i]?) ∧ w.heap.size < w1.heap.size ∧ Below w.heap.size w w1 := by
    intro w1 hb
    have hb0 : Below w.heap.size w w1 := BX.out.trans (hb.mono (by omega))
    have hsz := hb.size
    simp only [World.size_alloc] at hsz
    refine ⟨fun i => hp_cell ((hb0.hp b4 hlt).trans HM.out) i, (World.cell?_of_block (hb0.block b1 hb1)).trans HS.out, fun i => hp_cell ((hb.hp _ (by omega)).trans HV0.out) i, by omega, hb0⟩
  have HF := Lib.hid hfacts
  clear hfacts hv0
  clear hm
  unfold ptr at *
  go_enter Tryz.func117, Tryz.ntmps117
  go_wp2_with (go_at_call 9999)
  go_at_call 195
  refine (HIS.out _).mono ?_
  rintro _ w1 ⟨rfl, bb1⟩
  have bb1' := bb1
  simp only [World.size_alloc] at bb1'
  obtain ⟨f1, f2, f3, f4, f5⟩ := HF.out w1 bb1'
  have B1 := Lib.hid bb1'; have F5 := Lib.hid f5
  have hne5 : ¬ b4 = w1.heap.size := by omega
  have hne6 : ¬ w1.heap.size = b4 := by omega
  have hne7 : ¬ b1 = w1.heap.size := by omega
  have hne8 : ¬ w1.heap.size = b1 := by omega
  have hne9 : ¬ w.heap.size = w1.heap.size := by omega
  have hne10 : ¬ w1.heap.size = w.heap.size := by omega
  clear bb1 bb1' f5 hcm hs hmeth
  have gv := fun w => Vg.give deep no 84 w
  have GV := Lib.hid gv; clear gv
  cases ok with
  | false =>
    go_wp2_with (go_at_call 9999)
    go_at_call 86
    refine (GV.out _).mono ?_
    rintro _ w2 ⟨rfl, rfl⟩
    exact ⟨rfl, .inr ⟨(by show (84 : Int) ≠ 0; decide), rfl⟩, F5.out⟩
  | true =>
    have hbd := HBD.out w1 F5.out
    have HBD2 := Lib.hid hbd; clear hbd HBD HIS GV
    go_wp2_with (go_at_call 9999)
    go_at_call 118
    refine HBD2.out.mono ?_
    rintro _ w2 ⟨rfl, bb2⟩
    have bb2' := B1.out.trans (bb2.mono (by omega))
    obtain ⟨g1, g2, g3, g4, g5⟩ := HF.out w2 bb2'
    have hsz2 := bb2.size
    have B2 := Lib.hid bb2'; have G5 := Lib.hid g5
    have hn5 : ¬ b4 = w2.heap.size := by omega
    have hn6 : ¬ w2.heap.size = b4 := by omega
    have hn7 : ¬ b1 = w2.heap.size := by omega
    have hn8 : ¬ w2.heap.size = b1 := by omega
    have hn9 : ¬ w.heap.size = w2.heap.size := by omega
    have hn10 : ¬ w2.heap.size = w.heap.size := by omega
    clear bb2 bb2' g5 f1 f2 f3 B1 F5 HBD2
    by_cases hz : bd = 0
    · subst hz
      go_wp2_with fail
      go_end0
      exact ⟨.inl ⟨rfl, rfl⟩, G5.out.trans ((Vh.b1 _ _).mono G5.out.size)⟩
    · have gv := fun w => Vg.give deep no bd w
      have GV := Lib.hid gv; clear gv
      have HZ := Lib.hid hz
      go_wp2_with (go_at_call 9999)
      go_at_call 86
      refine (GV.out _).mono ?_
      rintro _ w3 ⟨rfl, rfl⟩
      have hz := HZ.out
      refine ⟨rfl, .inr ⟨?_, ?_⟩, G5.out⟩
      · unfold found; rw [if_neg (by simp), if_pos hz]; exact hz
      · unfold found; rw [if_neg (by simp), if_pos hz]; rfl
set_option maxHeartbeats 1000000 in
set_option maxRecDepth 100000 in
theorem ready2_data (a b : Nat) (tx : Bool) (no : Int) (b4 b1 num : Nat) (dl pl c c2 : Nat) (A B : Option Addr) (deep bd : Int) (ok : Bool) (w : World)
    (hm : hp w b4 = some (.cells #[.iface 210 (.agg #[.int .u64 (a : Int), .int .u64 (b : Int), .bool tx])] 194 (0, 0)))
    (hs : w.cell? ⟨b1, 0, none⟩ = some (.int .i64 no)) (hb1 : b1 < w.heap.size)
    (HIS : RowKit.Hid (∀ w, Calls Tryz.prog 196 #[.agg #[.int .u64 (a : Int), .int .u64 (b : Int), .bool tx], .agg #[.int .u64 (num : Int), .slice A dl c, .slice B pl c2]] w fun e w' => e = .returned (.bool ok) ∧ Below w.heap.size w w'))
    (HBD : RowKit.Hid (∀ w1, Below w.heap.size w w1 → Calls Tryz.prog 118 #[.iface 210 (.agg #[.int .u64 (a : Int), .int .u64 (b : Int), .bool tx]), .agg #[.int .u64 (num : Int), .slice A dl c, .slice B pl c2], .int .i64 (pl : Int)] w1 fun e w' => e = .returned (.int .i64 bd) ∧ Below w1.heap.size w1 w')) :
    Calls Tryz.prog 117 #[.agg #[.int .u64 (num : Int), .slice A dl c, .slice B pl c2], .int .i64 deep, ptr b4, ptr b1] w (Ends (found deep no ok bd (0, 0, 0)) w) := by
  have hlt : b4 < w.heap.size := (Array.getElem?_eq_some_iff.1 hm).1
  have hne : ¬ b4 = w.heap.size := by omega
  have hne2 : ¬ w.heap.size = b4 := by omega
  have hne3 : ¬ b1 = w.heap.size := by omega
  have hne4 : ¬ w.heap.size = b1 := by omega
  have hmeth : ∀ (f : Nat) (w : World), (method (f + 1) 210 (.agg #[.int .u64 (a : Int), .int .u64 (b : Int), .bool tx]) "pawl/schema.is").run Tryz.prog w = .ok (196, .agg #[.int .u64 (a : Int), .int .u64 (b : Int), .bool tx]) w := fun _ _ => by kernel_rfl
  have hcm := fun i => hp_cell hm i
  have HM := Lib.hid hm; have HS := Lib.hid hs
  have hv0 : hp (w.alloc (.cells #[.int .u64 num, .slice A dl c, .slice B pl c2] 32)) w.heap.size = some (.cells #[.int .u64 num, .slice A dl c, .slice B pl c2] 32 (0, 0)) := hp_alloc_at _ _ rfl
  have HV0 := Lib.hid hv0; have BX := Lib.hid (Vh.b1 w (.cells #[.int .u64 num, .slice A dl c, .slice B pl c2] 32))
  -- what stands in a world of those behind
  have hfacts : ∀ w1, Below (w.heap.size + 1) (w.alloc (.cells #[.int .u64 num, .slice A dl c, .slice B pl c2] 32)) w1 → (∀ i, w1.cell? ⟨b4, i, none⟩ = (#[.iface 210 (.agg #[.int .u64 (a : Int), .int .u64 (b : Int), .bool tx])] : Array Value)[i]?) ∧ w1.cell? ⟨b1, 0, none⟩ = some (.int .i64 no) ∧ (∀ i, w1.cell? ⟨w.heap.size, i, none⟩ = (#[.int .u64 num, .slice A dl c, .slice B pl c2] : Array Value)[i]?) ∧ w.heap.size < w1.heap.size ∧ Below w.heap.size w w1 := by
    intro w1 hb
    have hb0 : Below w.heap.size w w1 := BX.out.trans (hb.mono (by omega))
    have hsz := hb.size
    simp only [World.size_alloc] at hsz
    refine ⟨fun i => hp_cell ((hb0.hp b4 hlt).trans HM.out) i, (World.cell?_of_block (hb0.block b1 hb1)).trans HS.out, fun i => hp_cell ((hb.hp _ (by omega)).trans HV0.out) i, by omega, hb0⟩
  have HF := Lib.hid hfacts
  clear hfacts hv0
  clear hm
  unfold ptr at *
  go_enter Tryz.func117, Tryz.ntmps117
  go_wp2_with (go_at_call 9999)
  go_at_call 196
  refine (HIS.out _).mono ?_
  rintro _ w1 ⟨rfl, bb1⟩
  have bb1' := bb1
  simp only [World.size_alloc] at bb1'
  obtain ⟨f1, f2, f3, f4, f5⟩ := HF.out w1 bb1'
  have B1 := Lib.hid bb1'; have F5 := Lib.hid f5
  have hne5 : ¬ b4 = w1.heap.size := by omega
  have hne6 : ¬ w1.heap.size = b4 := by omega
  have hne7 : ¬ b1 = w1.heap.size := by omega
  have hne8 : ¬ w1.heap.size = b1 := by omega
  have hne9 : ¬ w.heap.size = w1.heap.size := by omega
  have hne10 : ¬ w1.heap.size = w.heap.size := by omega
  clear bb1 bb1' f5 hcm hs hmeth
  have gv := fun w => Vg.give deep no 84 w
  have GV := Lib.hid gv; clear gv
  cases ok with
  | false =>
    go_wp2_with (go_at_call 9999)
    go_at_call 86
    refine (GV.out _).mono ?_
    rintro _ w2 ⟨rfl, rfl⟩
    exact ⟨rfl, .inr ⟨(by show (84 : Int) ≠ 0; decide), rfl⟩, F5.out⟩
  | true =>
    have hbd := HBD.out w1 F5.out
    have HBD2 := Lib.hid hbd; clear hbd HBD HIS GV
    go_wp2_with (go_at_call 9999)
    go_at_call 118
    refine HBD2.out.mono ?_
    rintro _ w2 ⟨rfl, bb2⟩
    have bb2' := B1.out.trans (bb2.mono (by omega))
    obtain ⟨g1, g2, g3, g4, g5⟩ := HF.out w2 bb2'
    have hsz2 := bb2.size
    have B2 := Lib.hid bb2'; have G5 := Lib.hid g5
    have hn5 : ¬ b4 = w2.heap.size := by omega
    have hn6 : ¬ w2.heap.size = b4 := by omega
    have hn7 : ¬ b1 = w2.heap.size := by omega
    have hn8 : ¬ w2.heap.size = b1 := by omega
    have hn9 : ¬ w.heap.size = w2.heap.size := by omega
    have hn10 : ¬ w2.heap.size = w.heap.size := by omega
    clear bb2 bb2' g5 f1 f2 f3 B1 F5 HBD2
    by_cases hz : bd = 0
    · subst hz
      go_wp2_with fail
      go_end0
      exact ⟨.inl ⟨rfl, rfl⟩, G5.out.trans ((Vh.b1 _ _).mono G5.out.size)⟩
    · have gv := fun w => Vg.give deep no bd w
      have GV := Lib.hid gv; clear gv
      have HZ := Lib.hid hz
      go_wp2_with (go_at_call 9999)
      go_at_call 86
      refine (GV.out _).mono ?_
      rintro _ w3 ⟨rfl, rfl⟩
      have hz := HZ.out
      refine ⟨rfl, .inr ⟨?_, ?_⟩, G5.out⟩
      · unfold found; rw [if_neg (by simp), if_pos hz]; exact hz
      · unfold found; rw [if_neg (by simp), if_pos hz]; rfl
set_option maxHeartbeats 1000000 in
set_option maxRecDepth 100000 in
theorem ready2_list (g a b : Nat) (no : Int) (b4 b1 num : Nat) (dl pl c c2 : Nat) (A B : Option Addr) (deep bd : Int) (ok : Bool) (w : World) (U : List UInt8 → Bool) (n k : Nat) (IH : CheckSaid pF U n) (S : Pl) (sub : List Slot) (l : List Va) (hpl : pl = l.length) (hcd : Cd w S n g sub) (hpv : RdP w k (.slice B pl c2) l) (hT : TabU w) (hd1 : 0 ≤ deep) (hd2 : deep + 1 + n ≤ 1000000)
    (hm : hp w b4 = some (.cells #[.iface 201 (.agg #[ptr g, .int .u64 (a : Int), .int .u64 (b : Int)])] 194 (0, 0)))
    (hs : w.cell? ⟨b1, 0, none⟩ = some (.int .i64 no)) (hb1 : b1 < w.heap.size)
    (HIS : RowKit.Hid (∀ w, Calls Tryz.prog 193 #[.agg #[ptr g, .int .u64 (a : Int), .int .u64 (b : Int)], .agg #[.int .u64 (num : Int), .slice A dl c, .slice B pl c2]] w fun e w' => e = .returned (.bool ok) ∧ Below w.heap.size w w'))
    (HBD : RowKit.Hid (∀ w1, Below w.heap.size w w1 → Calls Tryz.prog 118 #[.iface 201 (.agg #[ptr g, .int .u64 (a : Int), .int .u64 (b : Int)]), .agg #[.int .u64 (num : Int), .slice A dl c, .slice B pl c2], .int .i64 (pl : Int)] w1 fun e w' => e = .returned (.int .i64 bd) ∧ Below w1.heap.size w1 w')) :
    Calls Tryz.prog 117 #[.agg #[.int .u64 (num : Int), .slice A dl c, .slice B pl c2], .int .i64 deep, ptr b4, ptr b1] w (Ends (found deep no ok bd (itemsOf U n sub deep l)) w) := by
  have hlt : b4 < w.heap.size := (Array.getElem?_eq_some_iff.1 hm).1
  have hne : ¬ b4 = w.heap.size := by omega
  have hne2 : ¬ w.heap.size = b4 := by omega
  have hne3 : ¬ b1 = w.heap.size := by omega
  have hne4 : ¬ w.heap.size = b1 := by omega
  have hpm : pl ≤ 9223372036854775807 := by
    obtain ⟨_, _, e, h1, h2⟩ := hpv.slice
    unfold maxLen at h2; omega
  have HPV := Lib.hid hpv; have HCD := Lib.hid hcd; have HIH := Lib.hid IH; have HPL := Lib.hid hpl; have HT := Lib.hid hT
  clear hpv hcd IH hpl hT
  have hmeth : ∀ (f : Nat) (w : World), (method (f + 1) 201 (.agg #[ptr g, .int .u64 (a : Int), .int .u64 (b : Int)]) "pawl/schema.is").run Tryz.prog w = .ok (193, .agg #[ptr g, .int .u64 (a : Int), .int .u64 (b : Int)]) w := fun _ _ => by kernel_rfl
  have hcm := fun i => hp_cell hm i
  have HM := Lib.hid hm; have HS := Lib.hid hs
  have hv0 : hp (w.alloc (.cells #[.int .u64 num, .slice A dl c, .slice B pl c2] 32)) w.heap.size = some (.cells #[.int .u64 num, .slice A dl c, .slice B pl c2] 32 (0, 0)) := hp_alloc_at _ _ rfl
  have HV0 := Lib.hid hv0; have BX := Lib.hid (Vh.b1 w (.cells #[.int .u64 num, .slice A dl c, .slice B pl c2] 32))
  -- what stands in a world of those behind
  have hfacts : ∀ w1, Below (w.heap.size + 1) (w.alloc (.cells #[.int .u64 num, .slice A dl c, .slice B pl c2] 32)) w1 → (∀ i, w1.cell? ⟨b4, i, none⟩ = (#[.iface 201 (.agg #[ptr g, .int .u64 (a : Int), .int .u64 (b : Int)])] : Array Value)[i]?) ∧ w1.cell? ⟨b1, 0, none⟩ = some (.int .i64 no) ∧ (∀ i, w1.cell? ⟨w.heap.size, i, none⟩ = (#[.int .u64 num, .slice A dl c, .slice B pl c2] : Array Value)[i]?) ∧ w.heap.size < w1.heap.size ∧ Below w.heap.size w w1 := by
    intro w1 hb
    have hb0 : Below w.heap.size w w1 := BX.out.trans (hb.mono (by omega))
    have hsz := hb.size
    simp only [World.size_alloc] at hsz
    refine ⟨fun i => hp_cell ((hb0.hp b4 hlt).trans HM.out) i, (World.cell?_of_block (hb0.block b1 hb1)).trans HS.out, fun i => hp_cell ((hb.hp _ (by omega)).trans HV0.out) i, by omega, hb0⟩
  have HF := Lib.hid hfacts
  clear hfacts hv0
  clear hm
  unfold ptr at *
  go_enter Tryz.func117, Tryz.ntmps117
  go_wp2_with (go_at_call 9999)
  go_at_call 193
  refine (HIS.out _).mono ?_
  rintro _ w1 ⟨rfl, bb1⟩
  have bb1' := bb1
  simp only [World.size_alloc] at bb1'
  obtain ⟨f1, f2, f3, f4, f5⟩ := HF.out w1 bb1'
  have B1 := Lib.hid bb1'; have F5 := Lib.hid f5
  have hne5 : ¬ b4 = w1.heap.size := by omega
  have hne6 : ¬ w1.heap.size = b4 := by omega
  have hne7 : ¬ b1 = w1.heap.size := by omega
  have hne8 : ¬ w1.heap.size = b1 := by omega
  have hne9 : ¬ w.heap.size = w1.heap.size := by omega
  have hne10 : ¬ w1.heap.size = w.heap.size := by omega
  clear bb1 bb1' f5 hcm hs hmeth
  have gv := fun w => Vg.give deep no 84 w
  have GV := Lib.hid gv; clear gv
  cases ok with
  | false =>
    go_wp2_with (go_at_call 9999)
    go_at_call 86
    refine (GV.out _).mono ?_
    rintro _ w2 ⟨rfl, rfl⟩
    exact ⟨rfl, .inr ⟨(by show (84 : Int) ≠ 0; decide), rfl⟩, F5.out⟩
  | true =>
    have hbd := HBD.out w1 F5.out
    have HBD2 := Lib.hid hbd; clear hbd HBD HIS GV
    go_wp2_with (go_at_call 9999)
    go_at_call 118
    refine HBD2.out.mono ?_
    rintro _ w2 ⟨rfl, bb2⟩
    have bb2' := B1.out.trans (bb2.mono (by omega))
    obtain ⟨g1, g2, g3, g4, g5⟩ := HF.out w2 bb2'
    have hsz2 := bb2.size
    have B2 := Lib.hid bb2'; have G5 := Lib.hid g5
    have hn5 : ¬ b4 = w2.heap.size := by omega
    have hn6 : ¬ w2.heap.size = b4 := by omega
    have hn7 : ¬ b1 = w2.heap.size := by omega
    have hn8 : ¬ w2.heap.size = b1 := by omega
    have hn9 : ¬ w.heap.size = w2.heap.size := by omega
    have hn10 : ¬ w2.heap.size = w.heap.size := by omega
    clear bb2 bb2' g5 f1 f2 f3 B1 F5 HBD2
    by_cases hz : bd = 0
    · subst hz
      have hadd : IntKind.i64.wrap (deep + 1) = deep + 1 := by rw [IntKind.wrap_i64]; omega
      obtain ⟨R, hR⟩ : ∃ R, R = itemsOf U n sub deep l := ⟨_, rfl⟩
      rw [← hR]
      have HR := Lib.hid hR; clear hR
      obtain ⟨m, rfl⟩ := HPV.out.pos
      go_wp2_with fail
      go_loopw [41] (fun s wr => ∃ i : Nat, i ≤ pl ∧ s = .int .i64 i ∧ (∀ j, wr.cell? ⟨w2.heap.size, j, none⟩ = (#[ptr g, .int .u64 (a : Int), .int .u64 (b : Int)] : Array Value)[j]?) ∧ w2.heap.size < wr.heap.size ∧ Below w.heap.size w wr ∧ itemsOf U n sub deep (l.drop i) = R) (fun s _ => pl - (intOf s).toNat)
      case atStart =>
        refine ⟨0, by omega, rfl, ?_, by simp, G5.out.trans ((Vh.b1 _ _).mono G5.out.size), ?_⟩
        · unfold ptr; exact fun j => hp_cell (hp_alloc_at _ _ rfl) j
        · rw [List.drop_zero]; exact HR.out.symm
      case round =>
        obtain ⟨i, hi, rfl, hcl, hls, hbw, hgo⟩ := hrel
        unfold ptr at hcl
        by_cases hip : i < pl
        · have hil : i < l.length := by have := HPL.out; omega
          obtain ⟨ad, rfl, dv, pv, q1, q2, q3, hrv⟩ := HPV.out.at_ i hil
          rw [List.drop_eq_getElem_cons hil] at hgo
          generalize l[i] = y at *
          have K : ∀ a u, w.cell? a = some u → wr.cell? a = some u := fun a u hu => (World.cell?_of_block (hbw.block _ (World.block_lt_of_cell? w _ hu))).trans hu
          rw [Rs.add_lit ad (i * 3) 1 (by omega)] at q2
          rw [Rs.add_lit ad (i * 3) 2 (by omega)] at q3
          have r1 := K _ _ q1; have r2 := K _ _ q2; have r3 := K _ _ q3
          obtain ⟨p, hpa⟩ : ∃ p, ad.add (i * 3) = p := ⟨_, rfl⟩
          rw [hpa] at r1 r2 r3
          have hch := HIH.out S g m sub (.int .u64 y.num) dv pv y (deep + 1) (wr.alloc (.cells #[.int .u64 y.num, dv, pv] 32)) (HCD.out.below (hbw.trans ((Vh.b1 _ _).mono hbw.size))) (hrv.below (hbw.trans ((Vh.b1 _ _).mono hbw.size))) (HT.out.below (hbw.trans ((Vh.b1 _ _).mono hbw.size))) (by omega) (by omega)
          obtain ⟨-, -, hdv, hpv⟩ := hrv
          obtain ⟨A3, cc3, rfl, -, -⟩ := hpv.slice
          obtain ⟨A2, cc2, rfl, -, -⟩ : ∃ A c, dv = .slice A y.data.length c ∧ y.data.length ≤ c ∧ c ≤ maxLen := by obtain ⟨A, c, e, h1, h2, -⟩ := hdv; exact ⟨A, c, e, h1, h2⟩
          have HCH := Lib.hid hch; have HBW := Lib.hid hbw; have HCL := Lib.hid hcl; have HGO := Lib.hid hgo
          have hk1 : ¬ w2.heap.size = wr.heap.size := by omega
          have hk2 : ¬ wr.heap.size = w2.heap.size := by omega
          clear hch hbw q1 q2 q3 hdv hpv K hgo g1 g2 g3
          unfold ptr at HCH
          go_wp2_with (go_at_call 9999)
          go_at_call 60
          refine HCH.out.mono ?_
          rintro e w3 ⟨⟨h0, rfl⟩ | ⟨h0, rfl⟩, hb⟩
          · have hb3 : Below wr.heap.size wr w3 := (Vh.b1 _ _).trans (hb.mono (by simp))
            have HB3 := Lib.hid hb3
            have hcl3 : ∀ j, w3.cell? ⟨w2.heap.size, j, none⟩ = (#[.pointer (some ⟨g, 0, none⟩), .int .u64 (a : Int), .int .u64 (b : Int)] : Array Value)[j]? := fun j => (World.cell?_of_block (hb3.block _ hls)).trans (HCL.out j)
            have HCL3 := Lib.hid hcl3
            have hgo2 : itemsOf U n sub deep (l.drop (i + 1)) = R := by
              have := HGO.out
              rw [items_cons, if_neg (by rw [h0]; decide)] at this
              exact this
            have HGO2 := Lib.hid hgo2
            have HLS := Lib.hid hls
            clear hb hb3 hcl3 hcl hgo2 h0 r1 r2 r3
            go_wp2_with fail
            go_roundw
            case rel => exact ⟨i + 1, by omega, by go_num, HCL3.out, Nat.lt_of_lt_of_le HLS.out HB3.out.size, HBW.out.trans (HB3.out.mono HBW.out.size), HGO2.out⟩
            case measure => simp [intOf]; omega
          · have hb3 : Below w.heap.size w w3 := HBW.out.trans (((Vh.b1 _ _).trans (hb.mono (by simp))).mono HBW.out.size)
            have hgo2 : chk pF U n sub y (deep + 1) = R := by
              have := HGO.out
              rw [items_cons, if_pos h0] at this
              exact this
            have hfr : found deep no true 0 (itemsOf U n sub deep l) = R := HR.out.symm
            rw [hgo2]
            rw [hgo2] at h0
            exact ⟨rfl, .inr ⟨by rw [hfr]; exact h0, by rw [hfr]; rfl⟩, hb3⟩
        · have hr0 : R = (0, 0, 0) := by
            have := HPL.out
            rw [List.drop_of_length_le (by omega)] at hgo
            exact hgo.symm
          have HR0 := Lib.hid hr0; have HBW := Lib.hid hbw
          clear hbw hgo hr0 hcl g1 g2 g3
          go_wp2_with fail
          go_end0
          refine ⟨.inl ⟨?_, rfl⟩, HBW.out⟩
          show (itemsOf U n sub deep l).2.2 = 0
          rw [← HR.out, HR0.out]
    · have gv := fun w => Vg.give deep no bd w
      have GV := Lib.hid gv; clear gv
      have HZ := Lib.hid hz
      go_wp2_with (go_at_call 9999)
      go_at_call 86
      refine (GV.out _).mono ?_
      rintro _ w3 ⟨rfl, rfl⟩
      have hz := HZ.out
      refine ⟨rfl, .inr ⟨?_, ?_⟩, G5.out⟩
      · unfold found; rw [if_neg (by simp), if_pos hz]; exact hz
      · unfold found; rw [if_neg (by simp), if_pos hz]; rfl
-- @END
theorem one_found (U : List UInt8 → Bool) (n : Nat) (deep : Int) (t : Slot) (x : Va) (h8 : t.kind ≠ 8) : one pF U n deep t x = found deep t.no (isOf t x) (badOf pF U t x x.parts.length) (if t.kind = 9 then itemsOf U n t.sub deep x.parts else (0, 0, 0)) := by
  unfold one
  rw [if_neg h8]
  rfl
/-- The check of a slot without a message within. -/
theorem one2 (U : List UInt8 → Bool) (HU : UtfSaid U) (n : Nat) (IH : CheckSaid pF U n) (S : Pl) (k : Nat) (t : Slot) (chk wr rd nv dv pv : Value) (x : Va) (deep : Int) (w : World) (hr : Rdy (Cd w S n) w S t chk wr rd) (h8 : t.kind ≠ 8)
    (hx : RdV w k nv dv pv x) (hT : TabU w) (hd1 : 0 ≤ deep) (hd2 : deep + 1 + n ≤ 1000000) :
    ∃ b4 b1, chk = .func (.func 117) #[] #[ptr b4, ptr b1] ∧ b4 < w.heap.size ∧ b1 < w.heap.size ∧ Calls Tryz.prog 117 #[.agg #[nv, dv, pv], .int .i64 deep, ptr b4, ptr b1] w (Ends (one pF U n deep t x) w) := by
  unfold Rdy at hr
  rw [if_neg h8] at hr
  obtain ⟨sh, b4, b1, sv, hsh, -, -, h4, h1, rfl, -⟩ := hr
  have l4 : b4 < w.heap.size := (Array.getElem?_eq_some_iff.1 h4).1
  have l1 : b1 < w.heap.size := (Array.getElem?_eq_some_iff.1 h1).1
  refine ⟨b4, b1, rfl, l4, l1, ?_⟩
  obtain ⟨hn, rfl, hdv, hpv⟩ := hx
  obtain ⟨B, c2, rfl, hpc, hpm⟩ := hpv.slice
  obtain ⟨A, c, rfl, hlc, hcm⟩ : ∃ A c, dv = .slice A x.data.length c ∧ x.data.length ≤ c ∧ c ≤ maxLen := by obtain ⟨A, c, e, h1, h2, -⟩ := hdv; exact ⟨A, c, e, h1, h2⟩
  have hpm' : x.parts.length < 9223372036854775808 := by unfold maxLen at hpm; omega
  have hno : w.cell? ⟨b1, 0, none⟩ = some (.int .i64 t.no) := hp_cell h1 0
  rw [one_found U n deep t x h8]
  unfold Shp at hsh
  rw [if_neg h8] at hsh
  by_cases h9 : t.kind = 9
  · rw [if_pos h9] at hsh
    obtain ⟨g, hg, rfl⟩ := hsh
    have e1 : isOf t x = (decide (x.num = 0) && decide (x.data.length = 0)) := by simp [isOf, h9]
    have e2 : badOf pF U t x x.parts.length = Vu.within x.parts.length t.least t.most := by simp [badOf, h9]
    rw [if_pos h9, e1, e2]
    exact ready2_list g t.least t.most t.no b4 b1 x.num x.data.length x.parts.length c c2 A B deep _ _ w U n k IH S t.sub x.parts rfl hg hpv hT hd1 hd2 h4 hno l1
      (Lib.hid fun w => is_list g t.least t.most x.num x.data.length x.parts.length c c2 A B w) (Lib.hid fun w1 _ => bad_list g t.least t.most x.num x.parts.length hpm' _ _ w1)
  · rw [if_neg h9] at hsh ⊢
    subst hsh
    unfold flat at h4
    by_cases k4 : t.kind = 4
    · rw [if_pos k4] at h4
      have e1 : isOf t x = (decide (x.data.length = 0) && decide (x.parts.length = 0)) := by simp [isOf, k4]
      have e2 : badOf pF U t x x.parts.length = Vu.within x.num 0 1 := by simp [badOf, k4]
      rw [e1, e2]
      exact ready2_number 0 1 t.no b4 b1 x.num x.data.length x.parts.length c c2 A B deep _ _ w h4 hno l1
        (Lib.hid fun w => is_number 0 1 x.num x.data.length x.parts.length c c2 A B w) (Lib.hid fun w1 _ => bad_number 0 1 x.num x.parts.length _ _ w1)
    · rw [if_neg k4] at h4
      by_cases k7 : t.kind = 7
      · rw [if_pos k7] at h4
        have e1 : isOf t x = (decide (x.data.length = 0) && decide (x.parts.length = 0)) := by simp [isOf, k7]
        have e2 : badOf pF U t x x.parts.length = pF x.num t.most := by simp [badOf, k7]
        rw [e1, e2]
        exact ready2_float t.most t.no b4 b1 x.num x.data.length x.parts.length c c2 A B deep _ _ w h4 hno l1
          (Lib.hid fun w => is_float _ x.num x.data.length x.parts.length c c2 A B w) (Lib.hid fun w1 _ => bad_float x.num t.most x.parts.length hn _ _ w1)
      · rw [if_neg k7] at h4
        by_cases k5 : t.kind = 5 ∨ t.kind = 6
        · rw [if_pos k5] at h4
          have e1 : isOf t x = (decide (x.num = 0) && decide (x.parts.length = 0)) := by simp [isOf, k5]
          have e2 : badOf pF U t x x.parts.length = (if Vu.within x.data.length t.least t.most ≠ 0 then 83 else if decide (t.kind = 6) = true ∧ U x.data = false then 84 else 0) := by simp [badOf, k5, k4, k7]
          rw [e1, e2]
          exact ready2_data t.least t.most (decide (t.kind = 6)) t.no b4 b1 x.num x.data.length x.parts.length c c2 A B deep _ _ w h4 hno l1
            (Lib.hid fun w => is_data t.least t.most _ x.num x.data.length x.parts.length c c2 A B w) (Lib.hid fun w1 hb => bad_data HU t.least t.most x.num x.parts.length _ _ _ x.data w1 (rd_keep hb.block hdv) (hT.below hb))
        · rw [if_neg k5] at h4
          have e1 : isOf t x = (decide (x.data.length = 0) && decide (x.parts.length = 0)) := by simp [isOf, k5, h8, h9]
          have e2 : badOf pF U t x x.parts.length = Vu.within x.num t.least t.most := by simp [badOf, k5, k4, k7, h8, h9]
          rw [e1, e2]
          exact ready2_number t.least t.most t.no b4 b1 x.num x.data.length x.parts.length c c2 A B deep _ _ w h4 hno l1
            (Lib.hid fun w => is_number t.least t.most x.num x.data.length x.parts.length c c2 A B w) (Lib.hid fun w1 _ => bad_number t.least t.most x.num x.parts.length _ _ w1)
theorem rdy_fn {C : Nat → List Slot → Prop} {w : World} {S : Pl} {t : Slot} {chk wr rd : Value} (h : Rdy C w S t chk wr rd) : (∃ f a c, wr = .func (.func f) a c) ∧ (∃ f a c, rd = .func (.func f) a c) := by
  unfold Rdy at h
  split at h
  · obtain ⟨c, b5, b9, -, -, -, -, -, -, h1, h2⟩ := h
    exact ⟨⟨_, _, _, h1⟩, ⟨_, _, _, h2⟩⟩
  · obtain ⟨sh, b4, b1, sv, -, -, -, -, -, -, h⟩ := h
    split at h
    · obtain ⟨c, -, h1, h2⟩ := h
      exact ⟨⟨_, _, _, h1⟩, ⟨_, _, _, h2⟩⟩
    · split at h
      · exact ⟨⟨_, _, _, h.1⟩, ⟨_, _, _, h.2⟩⟩
      · exact ⟨⟨_, _, _, h.1⟩, ⟨_, _, _, h.2⟩⟩
theorem rdy_below {w w' : World} {S : Pl} {n : Nat} {t : Slot} {chk wr rd : Value} (h : Rdy (Cd w S n) w S t chk wr rd) (hb : Below w.heap.size w w') : Rdy (Cd w' S n) w' S t chk wr rd :=
  h.mono (fun c s hc => hc.below hb) (fun _ h => h) (fun b _ o ho => by unfold hp at *; rw [hb.block b (Array.getElem?_eq_some_iff.1 ho).1]; exact ho)
set_option maxHeartbeats 2000000 in
set_option maxRecDepth 100000 in
theorem check (U : List UInt8 → Bool) (HU : UtfSaid U) (n : Nat) (IH : CheckSaid pF U n) : CheckSaid pF U (n + 1) := by
  intro S g k l nv dv pv x deep w hc hx hT hd1 hd2
  obtain ⟨hnum, rfl, hdv, hpv⟩ := hx
  obtain ⟨Ad, cd, rfl, hlc, hcm⟩ : ∃ A c, dv = .slice A x.data.length c ∧ x.data.length ≤ c ∧ c ≤ maxLen := by obtain ⟨A, c, e, h1, h2, -⟩ := hdv; exact ⟨A, c, e, h1, h2⟩
  obtain ⟨Ap, cp, rfl, hpc, hpm⟩ := hpv.slice
  obtain ⟨hSg, A, c, hg, hsl⟩ := hc
  rw [chk_succ]
  have bx : Below w.heap.size w (w.alloc (.cells #[.int .u64 x.num, .slice Ad x.data.length cd, .slice Ap x.parts.length cp] 32)) := b1 _ _
  have BX := Lib.hid bx; clear bx
  have HDV := Lib.hid hdv; have HPV := Lib.hid hpv; have HSL := Lib.hid hsl; have HG := Lib.hid hg; have HT := Lib.hid hT
  clear hdv hpv hsl hT
  have hgl : g < w.heap.size := (Array.getElem?_eq_some_iff.1 hg).1
  unfold Ends
  by_cases hz : x.num ≠ 0 ∨ x.data.length ≠ 0
  · rw [if_pos hz]
    have gv := fun w => Vg.give deep 0 84 w
    have GV := Lib.hid gv; clear gv
    by_cases h0 : x.num = 0
    · have h0' : (x.num : Int) = 0 := by omega
      have hdl : (0 : Int) < (x.data.length : Int) := by omega
      have H0 := Lib.hid h0; clear h0
      unfold ptr
      go_enter Tryz.func60, Tryz.ntmps60
      go_wp2_with (go_at_call 9999)
      go_at_call 86
      refine (GV.out _).mono ?_
      rintro _ w1 ⟨rfl, rfl⟩
      exact ⟨rfl, .inr ⟨by decide, rfl⟩, b1 _ _⟩
    · have h0' : ¬ (x.num : Int) = 0 := by omega
      unfold ptr
      go_enter Tryz.func60, Tryz.ntmps60
      go_wp2_with (go_at_call 9999)
      go_at_call 86
      refine (GV.out _).mono ?_
      rintro _ w1 ⟨rfl, rfl⟩
      exact ⟨rfl, .inr ⟨by decide, rfl⟩, b1 _ _⟩
  · rw [if_neg hz]
    have h0 : (x.num : Int) = 0 := by omega
    have hdl : ¬ (0 : Int) < (x.data.length : Int) := by omega
    have HZ := Lib.hid hz; clear hz
    have gv := fun w => Vg.give deep 0 81 w
    have GV := Lib.hid gv; clear gv
    unfold ptr
    obtain ⟨R, hR⟩ : ∃ R, R = (if x.parts.length ≠ l.length then (deep, 0, 81) else chkGo (one pF U n deep) l x.parts : Flt) := ⟨_, rfl⟩
    rw [← hR]
    have HR := Lib.hid hR; clear hR
    go_enter Tryz.func60, Tryz.ntmps60
    go_wp2_with fail
    obtain ⟨wx, hwx⟩ : ∃ y, y = w.alloc (.cells #[.int .u64 0, .slice Ad x.data.length cd, .slice Ap x.parts.length cp] 32) := ⟨_, rfl⟩
    have hwx' : wx = w.alloc (.cells #[.int .u64 x.num, .slice Ad x.data.length cd, .slice Ap x.parts.length cp] 32) := by rw [hwx, h0]
    rw [← hwx]
    have hvx : hp wx w.heap.size = some (.cells #[.int .u64 0, .slice Ad x.data.length cd, .slice Ap x.parts.length cp] 32 (0, 0)) := by rw [hwx]; exact hp_alloc_at _ _ rfl
    have hgx : hp wx g = some (.cells #[.slice A l.length c, .int .i64 (pSpan (n + 1) l).1, .int .i64 (pSpan (n + 1) l).2] 114 (0, 0)) := by rw [hwx]; exact (hp_alloc_past _ _ hgl).trans hg
    rw [← hwx'] at BX
    have HVX := Lib.hid hvx; have HGX := Lib.hid hgx; clear hwx hwx' hvx hgx hg
    generalize (pSpan (n + 1) l).1 = p1 at *
    generalize (pSpan (n + 1) l).2 = p2 at *
    have hcv : ∀ (u : Held (Like wx)) (i : Nat), u.w.cell? ⟨w.heap.size, i, none⟩ = (#[.int .u64 0, .slice Ad x.data.length cd, .slice Ap x.parts.length cp] : Array Value)[i]? := fun u i => by obtain ⟨m, hm⟩ := u.h; rw [hm]; exact hp_cell ((hp_drewN m _).trans HVX.out) i
    have hcg : ∀ (u : Held (Like wx)) (i : Nat), u.w.cell? ⟨g, i, none⟩ = (#[.slice A l.length c, .int .i64 p1, .int .i64 p2] : Array Value)[i]? := fun u i => by obtain ⟨m, hm⟩ := u.h; rw [hm]; exact hp_cell ((hp_drewN m _).trans HGX.out) i
    refine wp_region_calm (S := Like wx) (by kernel_rfl) (by kernel_rfl) (Like.refl _) ?_
    intro hN
    repeat (go_big_quiet_step (fail))
    refine wpQuiet_nil ?_
    intro u
    obtain ⟨m1, hm1⟩ := u.h
    rw [hm1]
    have hgy : hp (wx.drewN m1) g = some (.cells #[.slice A l.length c, .int .i64 p1, .int .i64 p2] 114 (0, 0)) := (hp_drewN m1 _).trans HGX.out
    have hvy : hp (wx.drewN m1) w.heap.size = some (.cells #[.int .u64 0, .slice Ad x.data.length cd, .slice Ap x.parts.length cp] 32 (0, 0)) := (hp_drewN m1 _).trans HVX.out
    have hby : Below w.heap.size w (wx.drewN m1) := ⟨BX.out.os, BX.out.tape, BX.out.output, BX.out.size, BX.out.block⟩
    generalize wx.drewN m1 = wy at *
    have HGY := Lib.hid hgy; have HVY := Lib.hid hvy; have HBY := Lib.hid hby
    clear hcv hcg hN hm1 u HVX HGX BX hvy hby
    have hcg := fun i => hp_cell hgy i
    clear hgy
    by_cases hpl : x.parts.length = l.length
    · have hr := HR.out
      rw [if_neg (by omega)] at hr
      have HR2 := Lib.hid hr; clear hr HR
      have hpl2 : ((x.parts.length : Int) != (l.length : Int)) = false := by simp [hpl]
      have hlm : l.length ≤ 9223372036854775807 := by unfold maxLen at hpm; omega
      have HPL := Lib.hid hpl
      have BZ := Lib.hid HBY.out.size
      rw [hpl2]
      clear hpl hpl2
      go_wp2_with fail
      have HIH := Lib.hid IH
      go_loopw [35] (fun s wr => ∃ i : Nat, i ≤ l.length ∧ s = .int .i64 i ∧ hp wr w.heap.size = some (.cells #[.int .u64 0, .slice Ad x.data.length cd, .slice Ap x.parts.length cp] 32 (0, 0)) ∧ Below w.heap.size w wr ∧ chkGo (one pF U n deep) (l.drop i) (x.parts.drop i) = R) (fun s _ => l.length - (intOf s).toNat)
      case atStart => exact ⟨0, by omega, rfl, HVY.out, HBY.out, by rw [List.drop_zero, List.drop_zero]; exact HR2.out.symm⟩
      case round =>
        obtain ⟨i, hi, rfl, hvr, hbw, hgo⟩ := hrel
        by_cases hil : i < l.length
        · have hip : i < x.parts.length := by have := HPL.out; omega
          obtain ⟨m, hk⟩ := HPV.out.pos
          subst hk
          obtain ⟨ad, rfl, dv, pv, q1, q2, q3, hrv⟩ := HPV.out.at_ i hip
          obtain ⟨b, rfl, hSb, hsl⟩ := HSL.out (by omega)
          obtain ⟨hwf, hbd, ch, wr_, rd_, c0, c1, c2, c3, c4, hrdy⟩ := hsl i l[i] (by simp [hil])
          rw [chkGo_drop _ _ _ _ hil hip] at hgo
          generalize l[i] = t at *
          generalize x.parts[i] = y at *
          have K : ∀ a u, w.cell? a = some u → wr.cell? a = some u := fun a u hu => (World.cell?_of_block (hbw.block _ (World.block_lt_of_cell? w _ hu))).trans hu
          rw [Rs.add_lit ad (i * 3) 1 (by omega)] at q2
          rw [Rs.add_lit ad (i * 3) 2 (by omega)] at q3
          have r1 := K _ _ q1; have r2 := K _ _ q2; have r3 := K _ _ q3
          have hpl1 : (ad.add (i * 3)).block < w.heap.size := World.block_lt_of_cell? w _ q1
          obtain ⟨p, hpa⟩ : ∃ p, ad.add (i * 3) = p := ⟨_, rfl⟩
          rw [hpa] at r1 r2 r3 hpl1
          have k0 := K _ _ c0; have k1 := K _ _ c1; have k2 := K _ _ c2; have k3 := K _ _ c3; have k4 := K _ _ c4
          have hb0 := hbw
          have HRV := Lib.hid hrv; have HGO := Lib.hid hgo; have HBW := Lib.hid hbw; have HVR := Lib.hid hvr
          obtain ⟨⟨fw, aw, cw, rfl⟩, ⟨fr, ar, cr, rfl⟩⟩ := rdy_fn hrdy
          have hsz := hbw.size
          have hvv := HVR.out
          obtain ⟨-, -, hdv2, hpv2⟩ := hrv
          obtain ⟨A3, cc3, rfl, -, -⟩ := hpv2.slice
          obtain ⟨A2, cc2, rfl, -, -⟩ : ∃ A c, dv = .slice A y.data.length c ∧ y.data.length ≤ c ∧ c ≤ maxLen := by obtain ⟨A, c, e, h1, h2, -⟩ := hdv2; exact ⟨A, c, e, h1, h2⟩
          clear hb0 hgo hbw hvr q1 q2 q3 c0 c1 c2 c3 c4 hsl hvv hdv2 hpv2 hcg K
          by_cases h8 : t.kind = 8
          · have hr8 := hrdy
            unfold Rdy at hr8
            rw [if_pos h8] at hr8
            obtain ⟨cc, b5, b9, hcc, hS5, -, hm5, -, rfl, -, -⟩ := hr8
            have hcon : ∀ w4, Below w.heap.size w w4 → Calls Tryz.prog 116 #[.agg #[.int .u64 y.num, .slice A2 y.data.length cc2, .slice A3 y.parts.length cc3], .int .i64 deep, ptr b5] w4 (Ends (one pF U n deep t y) w4) := fun w4 hb => by
              have := ready1 U n HIH.out S cc b5 m t.sub _ _ _ y deep w4 (hcc.below hb) ((hb.hp b5 (Array.getElem?_eq_some_iff.1 hm5).1).trans hm5) (HRV.out.below hb) (HT.out.below hb) hd1 (by omega)
              unfold one; rw [if_pos h8]; exact this
            have HCON := Lib.hid hcon; clear hcon hm5 hcc hrdy h8
            unfold ptr at HCON k2
            obtain ⟨w4, hw4⟩ : ∃ y, y = wr.alloc (.cells #[.int .i64 t.no, .int .i64 (wt t.kind : Nat), .func (.func 116) #[] #[.pointer (some ⟨b5, 0, none⟩)], .func (.func fw) aw cw, .func (.func fr) ar cr] 149) := ⟨_, rfl⟩
            have hb4 : Below wr.heap.size wr w4 := by rw [hw4]; exact b1 _ _
            have h4c : hp w4 wr.heap.size = some (.cells #[.int .i64 t.no, .int .i64 (wt t.kind : Nat), .func (.func 116) #[] #[.pointer (some ⟨b5, 0, none⟩)], .func (.func fw) aw cw, .func (.func fr) ar cr] 149 (0, 0)) := by rw [hw4]; exact hp_alloc_at _ _ rfl
            have hv4 : hp w4 w.heap.size = some (.cells #[.int .u64 0, .slice Ad x.data.length cd, .slice (some ad) x.parts.length cp] 32 (0, 0)) := (hb4.hp _ (Array.getElem?_eq_some_iff.1 HVR.out).1).trans HVR.out
            have K4 : ∀ a u, wr.cell? a = some u → w4.cell? a = some u := fun a u hu => (World.cell?_of_block (hb4.block _ (World.block_lt_of_cell? wr _ hu))).trans hu
            have s1 : ∀ u : Held (Like w4), u.w.cell? p = some (.int .u64 y.num) := fun u => by obtain ⟨m, hm⟩ := u.h; rw [hm]; exact K4 _ _ r1
            have s2 : ∀ u : Held (Like w4), u.w.cell? ⟨p.block, p.off + 1, none⟩ = some (.slice A2 y.data.length cc2) := fun u => by obtain ⟨m, hm⟩ := u.h; rw [hm]; exact K4 _ _ r2
            have s3 : ∀ u : Held (Like w4), u.w.cell? ⟨p.block, p.off + 2, none⟩ = some (.slice A3 y.parts.length cc3) := fun u => by obtain ⟨m, hm⟩ := u.h; rw [hm]; exact K4 _ _ r3
            have s4 : ∀ (u : Held (Like w4)) (i : Nat), u.w.cell? ⟨wr.heap.size, i, none⟩ = (#[.int .i64 t.no, .int .i64 (wt t.kind : Nat), .func (.func 116) #[] #[.pointer (some ⟨b5, 0, none⟩)], .func (.func fw) aw cw, .func (.func fr) ar cr] : Array Value)[i]? := fun u i => by obtain ⟨m, hm⟩ := u.h; rw [hm]; exact hp_cell ((hp_drewN m _).trans h4c) i
            have s5 : ∀ (u : Held (Like w4)) (i : Nat), u.w.cell? ⟨w.heap.size, i, none⟩ = (#[.int .u64 0, .slice Ad x.data.length cd, .slice (some ad) x.parts.length cp] : Array Value)[i]? := fun u i => by obtain ⟨m, hm⟩ := u.h; rw [hm]; exact hp_cell ((hp_drewN m _).trans hv4) i
            have HB4 := Lib.hid hb4; have HW4 := Lib.hid hw4; have HV4 := Lib.hid hv4
            clear hb4 h4c hw4 hv4
            go_wp2_with fail
            rw [← HW4.out]
            clear k0 k1 k2 k3 k4 r1 r2 r3 K4
            refine wp_region_calm_tail (S := Like w4) 8 (by kernel_rfl) (by kernel_rfl) (Like.refl _) ?_
            intro hN
            simp only [List.take_succ_cons, List.take_zero, List.drop_succ_cons, List.drop_zero]
            repeat (go_big_quiet_step (fail))
            refine wpQuiet_nil ?_
            intro u
            obtain ⟨m1, hm1⟩ := u.h
            rw [hm1]
            have hby : Below wr.heap.size wr (w4.drewN m1) := ⟨HB4.out.os, HB4.out.tape, HB4.out.output, HB4.out.size, HB4.out.block⟩
            have hvy : hp (w4.drewN m1) w.heap.size = some (.cells #[.int .u64 0, .slice Ad x.data.length cd, .slice (some ad) x.parts.length cp] 32 (0, 0)) := (hp_drewN m1 _).trans HV4.out
            generalize w4.drewN m1 = w5 at *
            have hcall := HCON.out w5 (HBW.out.trans (hby.mono HBW.out.size))
            have HCA := Lib.hid hcall; have HV5 := Lib.hid hvy; have HB5 := Lib.hid hby
            clear hN hm1 u s1 s2 s3 s4 s5 hcall hvy hby HW4 HV4 HB4 HCON
            go_wp2_with (go_at_call 9999)
            go_at_call 116
            refine HCA.out.mono ?_
            rintro e w6 ⟨⟨hz, rfl⟩ | ⟨hz, rfl⟩, hb⟩
            · have hb6 : Below w.heap.size w w6 := HBW.out.trans ((HB5.out.trans (hb.mono HB5.out.size)).mono HBW.out.size)
              have hv6 := (hb.hp w.heap.size (Array.getElem?_eq_some_iff.1 HV5.out).1).trans HV5.out
              have hgo2 : chkGo (one pF U n deep) (l.drop (i + 1)) (x.parts.drop (i + 1)) = R := by
                have := HGO.out
                rw [if_neg (by rw [hz]; decide)] at this
                exact this
              have HB6 := Lib.hid hb6; have HV6 := Lib.hid hv6; have HGO2 := Lib.hid hgo2
              clear hb hb6 hv6 hgo2 hz
              go_wp2_with fail
              go_roundw
              case rel => exact ⟨i + 1, by omega, by go_num, HV6.out, HB6.out, HGO2.out⟩
              case measure => simp [intOf]; omega
            · have hb6 : Below w.heap.size w w6 := HBW.out.trans ((HB5.out.trans (hb.mono HB5.out.size)).mono HBW.out.size)
              have hgo2 : one pF U n deep t y = R := by
                have := HGO.out
                rw [if_pos hz] at this
                exact this
              rw [hgo2] at hz ⊢
              exact ⟨rfl, .inr ⟨hz, rfl⟩, hb6⟩
          · obtain ⟨b4, b1, rfl, -, -, -⟩ := one2 U HU n HIH.out S m t _ _ _ _ _ _ y deep w hrdy h8 HRV.out HT.out hd1 (by omega)
            have hcon : ∀ w4, Below w.heap.size w w4 → Calls Tryz.prog 117 #[.agg #[.int .u64 y.num, .slice A2 y.data.length cc2, .slice A3 y.parts.length cc3], .int .i64 deep, ptr b4, ptr b1] w4 (Ends (one pF U n deep t y) w4) := fun w4 hb => by
              obtain ⟨b4', b1', e, -, -, h⟩ := one2 U HU n HIH.out S m t _ _ _ _ _ _ y deep w4 (rdy_below hrdy hb) h8 (HRV.out.below hb) (HT.out.below hb) hd1 (by omega)
              simp only [ptr, Value.func.injEq, true_and, Array.mk.injEq, List.cons.injEq, Value.pointer.injEq, Option.some.injEq, Addr.mk.injEq, and_true] at e
              obtain ⟨rfl, rfl⟩ := e
              exact h
            have HCON := Lib.hid hcon; clear hcon hrdy h8
            unfold ptr at HCON k2
            obtain ⟨w4, hw4⟩ : ∃ y, y = wr.alloc (.cells #[.int .i64 t.no, .int .i64 (wt t.kind : Nat), .func (.func 117) #[] #[.pointer (some ⟨b4, 0, none⟩), .pointer (some ⟨b1, 0, none⟩)], .func (.func fw) aw cw, .func (.func fr) ar cr] 149) := ⟨_, rfl⟩
            have hb4 : Below wr.heap.size wr w4 := by rw [hw4]; exact Vh.b1 _ _
            have h4c : hp w4 wr.heap.size = some (.cells #[.int .i64 t.no, .int .i64 (wt t.kind : Nat), .func (.func 117) #[] #[.pointer (some ⟨b4, 0, none⟩), .pointer (some ⟨b1, 0, none⟩)], .func (.func fw) aw cw, .func (.func fr) ar cr] 149 (0, 0)) := by rw [hw4]; exact hp_alloc_at _ _ rfl
            have hv4 : hp w4 w.heap.size = some (.cells #[.int .u64 0, .slice Ad x.data.length cd, .slice (some ad) x.parts.length cp] 32 (0, 0)) := (hb4.hp _ (Array.getElem?_eq_some_iff.1 HVR.out).1).trans HVR.out
            have K4 : ∀ a u, wr.cell? a = some u → w4.cell? a = some u := fun a u hu => (World.cell?_of_block (hb4.block _ (World.block_lt_of_cell? wr _ hu))).trans hu
            have s1 : ∀ u : Held (Like w4), u.w.cell? p = some (.int .u64 y.num) := fun u => by obtain ⟨m, hm⟩ := u.h; rw [hm]; exact K4 _ _ r1
            have s2 : ∀ u : Held (Like w4), u.w.cell? ⟨p.block, p.off + 1, none⟩ = some (.slice A2 y.data.length cc2) := fun u => by obtain ⟨m, hm⟩ := u.h; rw [hm]; exact K4 _ _ r2
            have s3 : ∀ u : Held (Like w4), u.w.cell? ⟨p.block, p.off + 2, none⟩ = some (.slice A3 y.parts.length cc3) := fun u => by obtain ⟨m, hm⟩ := u.h; rw [hm]; exact K4 _ _ r3
            have s4 : ∀ (u : Held (Like w4)) (i : Nat), u.w.cell? ⟨wr.heap.size, i, none⟩ = (#[.int .i64 t.no, .int .i64 (wt t.kind : Nat), .func (.func 117) #[] #[.pointer (some ⟨b4, 0, none⟩), .pointer (some ⟨b1, 0, none⟩)], .func (.func fw) aw cw, .func (.func fr) ar cr] : Array Value)[i]? := fun u i => by obtain ⟨m, hm⟩ := u.h; rw [hm]; exact hp_cell ((hp_drewN m _).trans h4c) i
            have s5 : ∀ (u : Held (Like w4)) (i : Nat), u.w.cell? ⟨w.heap.size, i, none⟩ = (#[.int .u64 0, .slice Ad x.data.length cd, .slice (some ad) x.parts.length cp] : Array Value)[i]? := fun u i => by obtain ⟨m, hm⟩ := u.h; rw [hm]; exact hp_cell ((hp_drewN m _).trans hv4) i
            have HB4 := Lib.hid hb4; have HW4 := Lib.hid hw4; have HV4 := Lib.hid hv4
            clear hb4 h4c hw4 hv4
            go_wp2_with fail
            rw [← HW4.out]
            clear k0 k1 k2 k3 k4 r1 r2 r3 K4
            refine wp_region_calm_tail (S := Like w4) 8 (by kernel_rfl) (by kernel_rfl) (Like.refl _) ?_
            intro hN
            simp only [List.take_succ_cons, List.take_zero, List.drop_succ_cons, List.drop_zero]
            repeat (go_big_quiet_step (fail))
            refine wpQuiet_nil ?_
            intro u
            obtain ⟨m1, hm1⟩ := u.h
            rw [hm1]
            have hby : Below wr.heap.size wr (w4.drewN m1) := ⟨HB4.out.os, HB4.out.tape, HB4.out.output, HB4.out.size, HB4.out.block⟩
            have hvy : hp (w4.drewN m1) w.heap.size = some (.cells #[.int .u64 0, .slice Ad x.data.length cd, .slice (some ad) x.parts.length cp] 32 (0, 0)) := (hp_drewN m1 _).trans HV4.out
            generalize w4.drewN m1 = w5 at *
            have hcall := HCON.out w5 (HBW.out.trans (hby.mono HBW.out.size))
            have HCA := Lib.hid hcall; have HV5 := Lib.hid hvy; have HB5 := Lib.hid hby
            clear hN hm1 u s1 s2 s3 s4 s5 hcall hvy hby HW4 HV4 HB4 HCON
            go_wp2_with (go_at_call 9999)
            go_at_call 117
            refine HCA.out.mono ?_
            rintro e w6 ⟨⟨hz, rfl⟩ | ⟨hz, rfl⟩, hb⟩
            · have hb6 : Below w.heap.size w w6 := HBW.out.trans ((HB5.out.trans (hb.mono HB5.out.size)).mono HBW.out.size)
              have hv6 := (hb.hp w.heap.size (Array.getElem?_eq_some_iff.1 HV5.out).1).trans HV5.out
              have hgo2 : chkGo (one pF U n deep) (l.drop (i + 1)) (x.parts.drop (i + 1)) = R := by
                have := HGO.out
                rw [if_neg (by rw [hz]; decide)] at this
                exact this
              have HB6 := Lib.hid hb6; have HV6 := Lib.hid hv6; have HGO2 := Lib.hid hgo2
              clear hb hb6 hv6 hgo2 hz
              go_wp2_with fail
              go_roundw
              case rel => exact ⟨i + 1, by omega, by go_num, HV6.out, HB6.out, HGO2.out⟩
              case measure => simp [intOf]; omega
            · have hb6 : Below w.heap.size w w6 := HBW.out.trans ((HB5.out.trans (hb.mono HB5.out.size)).mono HBW.out.size)
              have hgo2 : one pF U n deep t y = R := by
                have := HGO.out
                rw [if_pos hz] at this
                exact this
              rw [hgo2] at hz ⊢
              exact ⟨rfl, .inr ⟨hz, rfl⟩, hb6⟩
        · obtain rfl : i = l.length := by omega
          have HVR := Lib.hid hvr; have HBW := Lib.hid hbw
          have hr0 : R = (0, 0, 0) := by
            have := HPL.out
            rw [List.drop_of_length_le (by omega)] at hgo
            exact hgo.symm
          have HR0 := Lib.hid hr0
          clear hvr hbw hgo hr0
          go_wp2_with fail
          go_end0
          exact ⟨.inl ⟨by rw [HR0.out], rfl⟩, HBW.out⟩
    · have hr := HR.out
      rw [if_pos hpl] at hr
      have HR2 := Lib.hid hr; clear hr HR
      have hpl' : ¬ (x.parts.length : Int) = (l.length : Int) := by omega
      go_wp2_with (go_at_call 9999)
      go_at_call 86
      refine (GV.out _).mono ?_
      rintro _ w1 ⟨rfl, rfl⟩
      refine ⟨rfl, .inr ⟨by rw [HR2.out]; show (81 : Int) ≠ 0; decide, by rw [HR2.out]; rfl⟩, HBY.out⟩
end Go.Proofs.YtinngljphjdpoaaGreatDoor.Vi
