/- The reference: plain joined, part, check. -/
import Derived.Test.YtpfckpaokoifhaaGreatDoorRp
import Derived.Test.YtpfckpaokoifhaaGreatDoorVo
import Derived.Test.YtpfckpaokoifhaaGreatDoorVj
import Derived.BigRegion
import Derived.Deep.RegionWith
namespace Go.Proofs.YtpfckpaokoifhaaGreatDoor.Rq
open Go Go.RowKit Go.Proofs.YtpfckpaokoifhaaGreatDoor.Pa Go.Proofs.YtpfckpaokoifhaaGreatDoor.Pb Go.Proofs.YtpfckpaokoifhaaGreatDoor.Pf Go.Proofs.YtpfckpaokoifhaaGreatDoor.Sc Go.Proofs.YtpfckpaokoifhaaGreatDoor.Rs Go.Proofs.YtpfckpaokoifhaaGreatDoor.Vu Go.Proofs.YtpfckpaokoifhaaGreatDoor.Vo Go.Proofs.YtpfckpaokoifhaaGreatDoor.Vh Go.Proofs.YtpfckpaokoifhaaGreatDoor.Fl Go.Proofs.YtpfckpaokoifhaaGreatDoor.Rf Go.Proofs.YtpfckpaokoifhaaGreatDoor.Tx Go.Proofs.YtpfckpaokoifhaaGreatDoor.Rp
set_option linter.unusedVariables false
set_option linter.unusedSimpArgs false
theorem re_int {a b : Int} {w : World} (e : a = b) : (fun (en : Ending) (w' : World) => en = .returned (.int .i64 a) ∧ Below w.heap.size w w') = (fun en w' => en = .returned (.int .i64 b) ∧ Below w.heap.size w w') := by rw [e]
theorem calls_eq {f : Nat} {args : Array Value} {w : World} {a b : Int} (h : Calls Tryz.prog f args w fun e w' => e = .returned (.int .i64 a) ∧ Below w.heap.size w w') (e : a = b) : Calls Tryz.prog f args w fun e w' => e = .returned (.int .i64 b) ∧ Below w.heap.size w w' := e ▸ h
theorem wz {n a b : Nat} : (if Vu.within n a b ≠ 0 then (83 : Int) else 0) = Vu.within n a b := by unfold Vu.within; split <;> split <;> simp_all
/-- plain, of every kind but a message. -/
theorem rplain (no kind : Int) (a b : Nat) (sub : List Slot) (C Ad Ap : Option Addr) (m cd cp c3 : Nat) (x : Va) (w : World) (hb : bnd (.mk no kind a b sub) = true) (h8 : kind ≠ 8) (hn : x.num < 18446744073709551616) (hp : x.parts.length ≤ 10000) (hd : x.data.length ≤ 700000) (hrd : Rd w (.slice Ad x.data.length cd) x.data) :
    Calls Tryz.prog 50 #[.agg #[.int .i64 no, .int .i64 kind, .int .u64 (a : Int), .int .u64 (b : Int), .slice C m c3], .agg #[.int .u64 (x.num : Int), .slice Ad x.data.length cd, .slice Ap x.parts.length cp]] w fun e w' => e = .returned (.int .i64 (plainOf Lib.validD (.mk no kind a b sub) x)) ∧ Below w.heap.size w w' := by
  have hbb := _root_.Go.Proofs.YtpfckpaokoifhaaGreatDoor.Va.bnd_at no kind a b sub
  rw [hb] at hbb
  rcases bnd_kind hb with e | e | e | e | e | e | e | e | e
  all_goals simp only [Slot.kind] at e; subst e
  · refine calls_eq (plain_num1 no a b x.num x.data.length x.parts.length Ad Ap C m cd cp c3 x.data w hn (by omega) (by omega)) ?_
    simp only [plainOf, isOf, badOf, Slot.kind, Slot.least, Slot.most]
    by_cases g1 : x.data.length = 0 <;> by_cases g2 : x.parts.length = 0 <;> simp [g1, g2]
  · refine calls_eq (plain_num2 no a b x.num x.data.length x.parts.length Ad Ap C m cd cp c3 x.data w hn (by omega) (by omega)) ?_
    simp only [plainOf, isOf, badOf, Slot.kind, Slot.least, Slot.most]
    by_cases g1 : x.data.length = 0 <;> by_cases g2 : x.parts.length = 0 <;> simp [g1, g2]
  · refine calls_eq (plain_num3 no a b x.num x.data.length x.parts.length Ad Ap C m cd cp c3 x.data w hn (by omega) (by omega)) ?_
    simp only [plainOf, isOf, badOf, Slot.kind, Slot.least, Slot.most]
    by_cases g1 : x.data.length = 0 <;> by_cases g2 : x.parts.length = 0 <;> simp [g1, g2]
  · refine calls_eq (plain_flag no a b x.num x.data.length x.parts.length Ad Ap C m cd cp c3 x.data w hn (by omega) (by omega)) ?_
    simp only [plainOf, isOf, badOf, Slot.kind, Slot.least, Slot.most]
    by_cases g1 : x.data.length = 0 <;> by_cases g2 : x.parts.length = 0 <;> simp [g1, g2, Vu.within]
  · refine calls_eq (plain_bytes no a b x.num x.data.length x.parts.length Ad Ap C m cd cp c3 x.data w hn (by omega) (by omega)) ?_
    have := @wz x.data.length a b
    simp only [plainOf, isOf, badOf, Slot.kind, Slot.least, Slot.most]
    by_cases g1 : x.num = 0 <;> by_cases g2 : x.parts.length = 0 <;> simp_all
  · refine calls_eq (plain_text no a b x.num x.data.length x.parts.length Ad Ap C m cd cp c3 x.data w hn (by omega) (by omega) hrd) ?_
    simp only [plainOf, isOf, badOf, Slot.kind, Slot.least, Slot.most]
    by_cases g1 : x.num = 0 <;> by_cases g2 : x.parts.length = 0 <;> simp [g1, g2]
  · have h2 : b ≤ 9007199254740992 := by
      have h := hbb.symm
      simp at h
      omega
    refine calls_eq (plain_float no a b x.num x.data.length x.parts.length Ad Ap C m cd cp c3 x.data w hn (by omega) (by omega) h2) ?_
    simp only [plainOf, isOf, badOf, Slot.kind, Slot.least, Slot.most]
    by_cases g1 : x.data.length = 0 <;> by_cases g2 : x.parts.length = 0 <;> simp [g1, g2]
  · exact absurd rfl h8
  · refine calls_eq (plain_list no a b x.num x.data.length x.parts.length Ad Ap C m cd cp c3 x.data w hn (by omega) (by omega)) ?_
    simp only [plainOf, isOf, badOf, Slot.kind, Slot.least, Slot.most]
    by_cases g1 : x.num = 0 <;> by_cases g2 : x.data.length = 0 <;> simp [g1, g2]
/-- A fault as a value. -/
def fl (f : Flt) : Value := .agg #[.int .i64 f.1, .int .i64 f.2.1, .int .i64 f.2.2]
/-- What part answers. -/
def partOf (U : List UInt8 → Bool) (n : Nat) (t : Slot) (x : Va) (deep : Int) : Flt :=
  if t.kind = 8 then chk pF U n t.sub x (deep + 1)
  else if plainOf U t x ≠ 0 then (deep, t.no, plainOf U t x)
  else if t.kind = 9 then itemsGo (fun y => chk pF U n t.sub y (deep + 1)) x.parts
  else (0, 0, 0)
theorem chk_succ (U : List UInt8 → Bool) (n : Nat) (s : List Slot) (v : Va) (deep : Int) : chk pF U (n + 1) s v deep =
    (if v.num ≠ 0 ∨ v.data.length ≠ 0 then (deep, 0, 84) else if v.parts.length ≠ s.length then (deep, 0, 81) else chkGo (fun t x => partOf U n t x deep) s v.parts) := by
  simp only [chk]
  congr 2
  congr 1
  funext t x
  simp only [partOf, plainOf]
  by_cases h8 : t.kind = 8
  · simp [h8]
  · rw [if_neg h8, if_neg h8]
    by_cases hi : isOf t x = false
    · simp [hi]
    · simp [hi]
theorem itemsGo_drop (f : Va → Flt) (p : List Va) (i : Nat) (h : i < p.length) : itemsGo f (p.drop i) = if (f p[i]).2.2 ≠ 0 then f p[i] else itemsGo f (p.drop (i + 1)) := by
  rw [List.drop_eq_getElem_cons h]; rfl
theorem chkGo_drop (f : Slot → Va → Flt) (s : List Slot) (p : List Va) (i : Nat) (h : i < p.length) (h2 : i < s.length) : chkGo f (s.drop i) (p.drop i) = if (f s[i] p[i]).2.2 ≠ 0 then f s[i] p[i] else chkGo f (s.drop (i + 1)) (p.drop (i + 1)) := by
  rw [List.drop_eq_getElem_cons h, List.drop_eq_getElem_cons h2]; rfl
/-- What check answers. -/
def RChk (n : Nat) : Prop := ∀ (k m : Nat) (sv nv dv pv : Value) (l : List Slot) (x : Va) (deep : Int) (W w : World), RdS W n sv l → okL k l → RdV W m nv dv pv x → FewV (m + 1) x → Below W.heap.size W w → 0 ≤ deep → deep + n ≤ 1000000 →
  Calls Tryz.prog 25 #[sv, .agg #[nv, dv, pv], .int .i64 deep] w fun e w' => e = .returned (fl (chk pF Lib.validD n l x deep)) ∧ Below w.heap.size w w'
/-- The world where a fault is laid. -/
def set3 (w : World) (g : Nat) (f : Flt) : World := ((w.setCell ⟨g, 0, none⟩ (.int .i64 f.1)).setCell ⟨g, 1, none⟩ (.int .i64 f.2.1)).setCell ⟨g, 2, none⟩ (.int .i64 f.2.2)
theorem hp_set3 {w : World} {g : Nat} {a b c : Value} {t : TypeId} (h : hp w g = some (.cells #[a, b, c] t (0, 0))) (f : Flt) : hp (set3 w g f) g = some (.cells #[.int .i64 f.1, .int .i64 f.2.1, .int .i64 f.2.2] t (0, 0)) := by
  have h1 := heap_setCell_same w g 0 _ _ (.int .i64 f.1) h
  have h2 := heap_setCell_same _ g 1 _ _ (.int .i64 f.2.1) h1
  exact heap_setCell_same _ g 2 _ _ (.int .i64 f.2.2) h2
theorem below_set3 {B : Nat} {w0 w : World} (h : Below B w0 w) {g : Nat} (hg : B ≤ g) (f : Flt) : Below B w0 (set3 w g f) := ((h.setCell hg _).setCell hg _).setCell hg _
end Go.Proofs.YtpfckpaokoifhaaGreatDoor.Rq
