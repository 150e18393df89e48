/- The reference: within, plain. -/
import Derived.Test.YtinngljphjdpoaaGreatDoorJTx
import Derived.Test.YtinngljphjdpoaaGreatDoorJVi
namespace Go.Proofs.YtinngljphjdpoaaGreatDoor.Rp
open Go Go.RowKit Go.Proofs.YtinngljphjdpoaaGreatDoor.Pa Go.Proofs.YtinngljphjdpoaaGreatDoor.Pb Go.Proofs.YtinngljphjdpoaaGreatDoor.Pf Go.Proofs.YtinngljphjdpoaaGreatDoor.Sc Go.Proofs.YtinngljphjdpoaaGreatDoor.Rs Go.Proofs.YtinngljphjdpoaaGreatDoor.Vu Go.Proofs.YtinngljphjdpoaaGreatDoor.Vh Go.Proofs.YtinngljphjdpoaaGreatDoor.Fl Go.Proofs.YtinngljphjdpoaaGreatDoor.Rf Go.Proofs.YtinngljphjdpoaaGreatDoor.Tx
set_option linter.unusedVariables false
set_option linter.unusedSimpArgs false
theorem within_zero {n a b : Nat} : (Vu.within n a b = 0) ↔ (a ≤ n ∧ n ≤ b) := by unfold Vu.within; split <;> constructor <;> intro h <;> first | omega | rfl
theorem within_no {n a b : Nat} (h : ¬ Vu.within n a b = 0) : Vu.within n a b = 83 := by unfold Vu.within at *; split <;> simp_all
set_option maxRecDepth 100000 in
theorem rwithin (n a b : Nat) (no kind : Int) (A : Option Addr) (m c : Nat) (w : World) : Calls Tryz.prog 103 #[.int .u64 (n : Int), .agg #[.int .i64 no, .int .i64 kind, .int .u64 (a : Int), .int .u64 (b : Int), .slice A m c]] w fun e w' => e = .returned (.bool (decide (Vu.within n a b = 0))) ∧ Below w.heap.size w w' := by
  have BB := Lib.hid (b1 w (.cells #[.int .i64 no, .int .i64 kind, .int .u64 (a : Int), .int .u64 (b : Int), .slice A m c] 117))
  by_cases h1 : a ≤ n
  · have h1z : (a : Int) ≤ (n : Int) := by omega
    by_cases h2 : n ≤ b
    · have h2z : (n : Int) ≤ (b : Int) := by omega
      have e : decide (Vu.within n a b = 0) = true := decide_eq_true (within_zero.2 ⟨h1, h2⟩)
      rw [e]
      go_enter Tryz.func103, Tryz.ntmps103
      go_wp2
      go_ret
      exact ⟨rfl, BB.out⟩
    · have h2z : ¬ (n : Int) ≤ (b : Int) := by omega
      have e : decide (Vu.within n a b = 0) = false := decide_eq_false (fun h => h2 (within_zero.1 h).2)
      rw [e]
      go_enter Tryz.func103, Tryz.ntmps103
      go_wp2
      go_ret
      exact ⟨rfl, BB.out⟩
  · have h1z : ¬ (a : Int) ≤ (n : Int) := by omega
    have h1b : decide ((a : Int) ≤ (n : Int)) = false := decide_eq_false h1z
    have e : decide (Vu.within n a b = 0) = false := decide_eq_false (fun h => h1 (within_zero.1 h).1)
    rw [e]
    go_enter Tryz.func103, Tryz.ntmps103
    go_wp2
    go_ret
    exact ⟨rfl, BB.out⟩
theorem b2s (w : World) (o o' : Obj) : w.heap.size ≤ ((w.alloc o).alloc o').heap.size := by simp; omega
/-- What plain answers. -/
def plainOf (U : List UInt8 → Bool) (t : Slot) (x : Va) : Int := if isOf t x = false then 84 else badOf pF U t x x.parts.length
-- @GEN
set_option maxHeartbeats 1000000 in
set_option maxRecDepth 100000 in
theorem plain_list (no : Int) (a b num dl pl : Nat) (A B C : Option Addr) (m c c2 c3 : Nat) (data : List UInt8) (w : World) (hn : num < 18446744073709551616) (hp : pl ≤ 20000) (hd : dl ≤ 5000000) :
    Calls Tryz.prog 101 #[.agg #[.int .i64 no, .int .i64 9, .int .u64 (a : Int), .int .u64 (b : Int), .slice C m c3], .agg #[.int .u64 (num : Int), .slice A dl c, .slice B pl c2]] w fun e w' => e = .returned (.int .i64 (if num ≠ 0 ∨ dl ≠ 0 then 84 else Vu.within pl a b)) ∧ Below w.heap.size w w' := by
  have hwd : IntKind.u64.wrap (dl : Int) = (dl : Int) := by rw [IntKind.wrap_u64]; omega
  have hwp : IntKind.u64.wrap (pl : Int) = (pl : Int) := by rw [IntKind.wrap_u64]; omega
  have BB := Lib.hid (b2 w (.cells #[.int .i64 no, .int .i64 9, .int .u64 (a : Int), .int .u64 (b : Int), .slice C m c3] 117) (.cells #[.int .u64 (num : Int), .slice A dl c, .slice B pl c2] 32))
  obtain ⟨R, hR⟩ : ∃ R, R = (if num ≠ 0 ∨ dl ≠ 0 then 84 else Vu.within pl a b : Int) := ⟨_, rfl⟩
  rw [← hR]
  have HR := Lib.hid hR; clear hR
  by_cases g1 : num ≠ 0
  · have hr : R = 84 := by rw [HR.out, if_pos (by simp [g1])]
    subst hr
    have g1z : ((num : Int) != 0) = true := by first | omega | (simp; omega)
    clear HR g1
    go_enter Tryz.func101, Tryz.ntmps101
    go_wp2_with fail
    go_ret
    exact ⟨rfl, BB.out⟩
  · have g1z : ((num : Int) != 0) = false := by first | omega | (simp; omega)
    by_cases g2 : dl ≠ 0
    · have hr : R = 84 := by rw [HR.out, if_pos (by simp [g1, g2])]
      subst hr
      have g2z : (0 : Int) < (dl : Int) := by omega
      clear HR g1 g2
      go_enter Tryz.func101, Tryz.ntmps101
      go_wp2_with fail
      go_ret
      exact ⟨rfl, BB.out⟩
    · obtain rfl : dl = 0 := by omega
      have hr2 := HR.out
      rw [if_neg (by simp [g1, g2])] at hr2
      have HR2 := Lib.hid hr2
      clear HR g1 g2 hr2
      obtain ⟨W, hW⟩ : ∃ W, Vu.within pl a b = W := ⟨_, rfl⟩
      have HWN := Lib.hid (fun w => rwithin pl a b no (9) C m c3 w)
      rw [hW] at HWN HR2
      have hw83 : ¬ W = 0 → W = 83 := fun h => by rw [← hW] at *; exact within_no h
      by_cases hz : W = 0
      · subst hz
        clear hW hw83
        have hr : R = 0 := by rw [HR2.out]
        subst hr
        have hzb : decide ((0 : Int) = 0) = true := rfl
        rw [hzb] at HWN
        clear HR2 hzb
        go_enter Tryz.func101, Tryz.ntmps101
        go_wp2_with (go_at_call 9999)
        go_at_call 103
        refine (HWN.out _).mono ?_
        rintro _ w1 ⟨rfl, bb⟩
        have B3 := Lib.hid (BB.out.trans (bb.mono (b2s _ _ _)))
        clear bb
        go_wp2_with fail
        go_ret
        exact ⟨rfl, B3.out⟩
      · have hr : R = 83 := by rw [HR2.out]; exact hw83 hz
        subst hr
        have hzb : decide (W = 0) = false := decide_eq_false hz
        rw [hzb] at HWN
        clear HR2 hW hw83 hz hzb
        go_enter Tryz.func101, Tryz.ntmps101
        go_wp2_with (go_at_call 9999)
        go_at_call 103
        refine (HWN.out _).mono ?_
        rintro _ w1 ⟨rfl, bb⟩
        have B3 := Lib.hid (BB.out.trans (bb.mono (b2s _ _ _)))
        clear bb
        go_wp2_with fail
        go_ret
        exact ⟨rfl, B3.out⟩
set_option maxHeartbeats 1000000 in
set_option maxRecDepth 100000 in
theorem plain_num1 (no : Int) (a b num dl pl : Nat) (A B C : Option Addr) (m c c2 c3 : Nat) (data : List UInt8) (w : World) (hn : num < 18446744073709551616) (hp : pl ≤ 20000) (hd : dl ≤ 5000000) :
    Calls Tryz.prog 101 #[.agg #[.int .i64 no, .int .i64 1, .int .u64 (a : Int), .int .u64 (b : Int), .slice C m c3], .agg #[.int .u64 (num : Int), .slice A dl c, .slice B pl c2]] w fun e w' => e = .returned (.int .i64 (if dl ≠ 0 ∨ pl ≠ 0 then 84 else Vu.within num a b)) ∧ Below w.heap.size w w' := by
  have hwd : IntKind.u64.wrap (dl : Int) = (dl : Int) := by rw [IntKind.wrap_u64]; omega
  have hwp : IntKind.u64.wrap (pl : Int) = (pl : Int) := by rw [IntKind.wrap_u64]; omega
  have BB := Lib.hid (b2 w (.cells #[.int .i64 no, .int .i64 1, .int .u64 (a : Int), .int .u64 (b : Int), .slice C m c3] 117) (.cells #[.int .u64 (num : Int), .slice A dl c, .slice B pl c2] 32))
  obtain ⟨R, hR⟩ : ∃ R, R = (if dl ≠ 0 ∨ pl ≠ 0 then 84 else Vu.within num a b : Int) := ⟨_, rfl⟩
  rw [← hR]
  have HR := Lib.hid hR; clear hR
  by_cases g1 : dl ≠ 0
  · have hr : R = 84 := by rw [HR.out, if_pos (by simp [g1])]
    subst hr
    have g1z : (0 : Int) < (dl : Int) := by first | omega | (simp; omega)
    clear HR g1
    go_enter Tryz.func101, Tryz.ntmps101
    go_wp2_with fail
    go_ret
    exact ⟨rfl, BB.out⟩
  · obtain rfl : dl = 0 := by omega
    by_cases g2 : pl ≠ 0
    · have hr : R = 84 := by rw [HR.out, if_pos (by simp [g1, g2])]
      subst hr
      have g2z : (0 : Int) < (pl : Int) := by omega
      clear HR g1 g2
      go_enter Tryz.func101, Tryz.ntmps101
      go_wp2_with fail
      go_ret
      exact ⟨rfl, BB.out⟩
    · obtain rfl : pl = 0 := by omega
      have hr2 := HR.out
      rw [if_neg (by simp [g1, g2])] at hr2
      have HR2 := Lib.hid hr2
      clear HR g1 g2 hr2
      obtain ⟨W, hW⟩ : ∃ W, Vu.within num a b = W := ⟨_, rfl⟩
      have HWN := Lib.hid (fun w => rwithin num a b no (1) C m c3 w)
      rw [hW] at HWN HR2
      have hw83 : ¬ W = 0 → W = 83 := fun h => by rw [← hW] at *; exact within_no h
      by_cases hz : W = 0
      · subst hz
        clear hW hw83
        have hr : R = 0 := by rw [HR2.out]
        subst hr
        have hzb : decide ((0 : Int) = 0) = true := rfl
        rw [hzb] at HWN
        clear HR2 hzb
        go_enter Tryz.func101, Tryz.ntmps101
        go_wp2_with (go_at_call 9999)
        go_at_call 103
        refine (HWN.out _).mono ?_
        rintro _ w1 ⟨rfl, bb⟩
        have B3 := Lib.hid (BB.out.trans (bb.mono (b2s _ _ _)))
        clear bb
        go_wp2_with fail
        go_ret
        exact ⟨rfl, B3.out⟩
      · have hr : R = 83 := by rw [HR2.out]; exact hw83 hz
        subst hr
        have hzb : decide (W = 0) = false := decide_eq_false hz
        rw [hzb] at HWN
        clear HR2 hW hw83 hz hzb
        go_enter Tryz.func101, Tryz.ntmps101
        go_wp2_with (go_at_call 9999)
        go_at_call 103
        refine (HWN.out _).mono ?_
        rintro _ w1 ⟨rfl, bb⟩
        have B3 := Lib.hid (BB.out.trans (bb.mono (b2s _ _ _)))
        clear bb
        go_wp2_with fail
        go_ret
        exact ⟨rfl, B3.out⟩
set_option maxHeartbeats 1000000 in
set_option maxRecDepth 100000 in
theorem plain_num2 (no : Int) (a b num dl pl : Nat) (A B C : Option Addr) (m c c2 c3 : Nat) (data : List UInt8) (w : World) (hn : num < 18446744073709551616) (hp : pl ≤ 20000) (hd : dl ≤ 5000000) :
    Calls Tryz.prog 101 #[.agg #[.int .i64 no, .int .i64 2, .int .u64 (a : Int), .int .u64 (b : Int), .slice C m c3], .agg #[.int .u64 (num : Int), .slice A dl c, .slice B pl c2]] w fun e w' => e = .returned (.int .i64 (if dl ≠ 0 ∨ pl ≠ 0 then 84 else Vu.within num a b)) ∧ Below w.heap.size w w' := by
  have hwd : IntKind.u64.wrap (dl : Int) = (dl : Int) := by rw [IntKind.wrap_u64]; omega
  have hwp : IntKind.u64.wrap (pl : Int) = (pl : Int) := by rw [IntKind.wrap_u64]; omega
  have BB := Lib.hid (b2 w (.cells #[.int .i64 no, .int .i64 2, .int .u64 (a : Int), .int .u64 (b : Int), .slice C m c3] 117) (.cells #[.int .u64 (num : Int), .slice A dl c, .slice B pl c2] 32))
  obtain ⟨R, hR⟩ : ∃ R, R = (if dl ≠ 0 ∨ pl ≠ 0 then 84 else Vu.within num a b : Int) := ⟨_, rfl⟩
  rw [← hR]
  have HR := Lib.hid hR; clear hR
  by_cases g1 : dl ≠ 0
  · have hr : R = 84 := by rw [HR.out, if_pos (by simp [g1])]
    subst hr
    have g1z : (0 : Int) < (dl : Int) := by first | omega | (simp; omega)
    clear HR g1
    go_enter Tryz.func101, Tryz.ntmps101
    go_wp2_with fail
    go_ret
    exact ⟨rfl, BB.out⟩
  · obtain rfl : dl = 0 := by omega
    by_cases g2 : pl ≠ 0
    · have hr : R = 84 := by rw [HR.out, if_pos (by simp [g1, g2])]
      subst hr
      have g2z : (0 : Int) < (pl : Int) := by omega
      clear HR g1 g2
      go_enter Tryz.func101, Tryz.ntmps101
      go_wp2_with fail
      go_ret
      exact ⟨rfl, BB.out⟩
    · obtain rfl : pl = 0 := by omega
      have hr2 := HR.out
      rw [if_neg (by simp [g1, g2])] at hr2
      have HR2 := Lib.hid hr2
      clear HR g1 g2 hr2
      obtain ⟨W, hW⟩ : ∃ W, Vu.within num a b = W := ⟨_, rfl⟩
      have HWN := Lib.hid (fun w => rwithin num a b no (2) C m c3 w)
      rw [hW] at HWN HR2
      have hw83 : ¬ W = 0 → W = 83 := fun h => by rw [← hW] at *; exact within_no h
      by_cases hz : W = 0
      · subst hz
        clear hW hw83
        have hr : R = 0 := by rw [HR2.out]
        subst hr
        have hzb : decide ((0 : Int) = 0) = true := rfl
        rw [hzb] at HWN
        clear HR2 hzb
        go_enter Tryz.func101, Tryz.ntmps101
        go_wp2_with (go_at_call 9999)
        go_at_call 103
        refine (HWN.out _).mono ?_
        rintro _ w1 ⟨rfl, bb⟩
        have B3 := Lib.hid (BB.out.trans (bb.mono (b2s _ _ _)))
        clear bb
        go_wp2_with fail
        go_ret
        exact ⟨rfl, B3.out⟩
      · have hr : R = 83 := by rw [HR2.out]; exact hw83 hz
        subst hr
        have hzb : decide (W = 0) = false := decide_eq_false hz
        rw [hzb] at HWN
        clear HR2 hW hw83 hz hzb
        go_enter Tryz.func101, Tryz.ntmps101
        go_wp2_with (go_at_call 9999)
        go_at_call 103
        refine (HWN.out _).mono ?_
        rintro _ w1 ⟨rfl, bb⟩
        have B3 := Lib.hid (BB.out.trans (bb.mono (b2s _ _ _)))
        clear bb
        go_wp2_with fail
        go_ret
        exact ⟨rfl, B3.out⟩
set_option maxHeartbeats 1000000 in
set_option maxRecDepth 100000 in
theorem plain_num3 (no : Int) (a b num dl pl : Nat) (A B C : Option Addr) (m c c2 c3 : Nat) (data : List UInt8) (w : World) (hn : num < 18446744073709551616) (hp : pl ≤ 20000) (hd : dl ≤ 5000000) :
    Calls Tryz.prog 101 #[.agg #[.int .i64 no, .int .i64 3, .int .u64 (a : Int), .int .u64 (b : Int), .slice C m c3], .agg #[.int .u64 (num : Int), .slice A dl c, .slice B pl c2]] w fun e w' => e = .returned (.int .i64 (if dl ≠ 0 ∨ pl ≠ 0 then 84 else Vu.within num a b)) ∧ Below w.heap.size w w' := by
  have hwd : IntKind.u64.wrap (dl : Int) = (dl : Int) := by rw [IntKind.wrap_u64]; omega
  have hwp : IntKind.u64.wrap (pl : Int) = (pl : Int) := by rw [IntKind.wrap_u64]; omega
  have BB := Lib.hid (b2 w (.cells #[.int .i64 no, .int .i64 3, .int .u64 (a : Int), .int .u64 (b : Int), .slice C m c3] 117) (.cells #[.int .u64 (num : Int), .slice A dl c, .slice B pl c2] 32))
  obtain ⟨R, hR⟩ : ∃ R, R = (if dl ≠ 0 ∨ pl ≠ 0 then 84 else Vu.within num a b : Int) := ⟨_, rfl⟩
  rw [← hR]
  have HR := Lib.hid hR; clear hR
  by_cases g1 : dl ≠ 0
  · have hr : R = 84 := by rw [HR.out, if_pos (by simp [g1])]
    subst hr
    have g1z : (0 : Int) < (dl : Int) := by first | omega | (simp; omega)
    clear HR g1
    go_enter Tryz.func101, Tryz.ntmps101
    go_wp2_with fail
    go_ret
    exact ⟨rfl, BB.out⟩
  · obtain rfl : dl = 0 := by omega
    by_cases g2 : pl ≠ 0
    · have hr : R = 84 := by rw [HR.out, if_pos (by simp [g1, g2])]
      subst hr
      have g2z : (0 : Int) < (pl : Int) := by omega
      clear HR g1 g2
      go_enter Tryz.func101, Tryz.ntmps101
      go_wp2_with fail
      go_ret
      exact ⟨rfl, BB.out⟩
    · obtain rfl : pl = 0 := by omega
      have hr2 := HR.out
      rw [if_neg (by simp [g1, g2])] at hr2
      have HR2 := Lib.hid hr2
      clear HR g1 g2 hr2
      obtain ⟨W, hW⟩ : ∃ W, Vu.within num a b = W := ⟨_, rfl⟩
      have HWN := Lib.hid (fun w => rwithin num a b no (3) C m c3 w)
      rw [hW] at HWN HR2
      have hw83 : ¬ W = 0 → W = 83 := fun h => by rw [← hW] at *; exact within_no h
      by_cases hz : W = 0
      · subst hz
        clear hW hw83
        have hr : R = 0 := by rw [HR2.out]
        subst hr
        have hzb : decide ((0 : Int) = 0) = true := rfl
        rw [hzb] at HWN
        clear HR2 hzb
        go_enter Tryz.func101, Tryz.ntmps101
        go_wp2_with (go_at_call 9999)
        go_at_call 103
        refine (HWN.out _).mono ?_
        rintro _ w1 ⟨rfl, bb⟩
        have B3 := Lib.hid (BB.out.trans (bb.mono (b2s _ _ _)))
        clear bb
        go_wp2_with fail
        go_ret
        exact ⟨rfl, B3.out⟩
      · have hr : R = 83 := by rw [HR2.out]; exact hw83 hz
        subst hr
        have hzb : decide (W = 0) = false := decide_eq_false hz
        rw [hzb] at HWN
        clear HR2 hW hw83 hz hzb
        go_enter Tryz.func101, Tryz.ntmps101
        go_wp2_with (go_at_call 9999)
        go_at_call 103
        refine (HWN.out _).mono ?_
        rintro _ w1 ⟨rfl, bb⟩
        have B3 := Lib.hid (BB.out.trans (bb.mono (b2s _ _ _)))
        clear bb
        go_wp2_with fail
        go_ret
        exact ⟨rfl, B3.out⟩
set_option maxHeartbeats 1000000 in
set_option maxRecDepth 100000 in
theorem plain_flag (no : Int) (a b num dl pl : Nat) (A B C : Option Addr) (m c c2 c3 : Nat) (data : List UInt8) (w : World) (hn : num < 18446744073709551616) (hp : pl ≤ 20000) (hd : dl ≤ 5000000) :
    Calls Tryz.prog 101 #[.agg #[.int .i64 no, .int .i64 4, .int .u64 (a : Int), .int .u64 (b : Int), .slice C m c3], .agg #[.int .u64 (num : Int), .slice A dl c, .slice B pl c2]] w fun e w' => e = .returned (.int .i64 (if dl ≠ 0 ∨ pl ≠ 0 then 84 else Vu.within num 0 1)) ∧ Below w.heap.size w w' := by
  have hwd : IntKind.u64.wrap (dl : Int) = (dl : Int) := by rw [IntKind.wrap_u64]; omega
  have hwp : IntKind.u64.wrap (pl : Int) = (pl : Int) := by rw [IntKind.wrap_u64]; omega
  have BB := Lib.hid (b2 w (.cells #[.int .i64 no, .int .i64 4, .int .u64 (a : Int), .int .u64 (b : Int), .slice C m c3] 117) (.cells #[.int .u64 (num : Int), .slice A dl c, .slice B pl c2] 32))
  obtain ⟨R, hR⟩ : ∃ R, R = (if dl ≠ 0 ∨ pl ≠ 0 then 84 else Vu.within num 0 1 : Int) := ⟨_, rfl⟩
  rw [← hR]
  have HR := Lib.hid hR; clear hR
  by_cases g1 : dl ≠ 0
  · have hr : R = 84 := by rw [HR.out, if_pos (by simp [g1])]
    subst hr
    have g1z : (0 : Int) < (dl : Int) := by first | omega | (simp; omega)
    clear HR g1
    go_enter Tryz.func101, Tryz.ntmps101
    go_wp2_with fail
    go_ret
    exact ⟨rfl, BB.out⟩
  · obtain rfl : dl = 0 := by omega
    by_cases g2 : pl ≠ 0
    · have hr : R = 84 := by rw [HR.out, if_pos (by simp [g1, g2])]
      subst hr
      have g2z : (0 : Int) < (pl : Int) := by omega
      clear HR g1 g2
      go_enter Tryz.func101, Tryz.ntmps101
      go_wp2_with fail
      go_ret
      exact ⟨rfl, BB.out⟩
    · obtain rfl : pl = 0 := by omega
      have hr2 := HR.out
      rw [if_neg (by simp [g1, g2])] at hr2
      have HR2 := Lib.hid hr2
      clear HR g1 g2 hr2
      by_cases hz : 1 < num
      · have hzz : (1 : Int) < (num : Int) := by omega
        have hr : R = 83 := by rw [HR2.out]; unfold Vu.within; rw [if_pos (by omega)]
        subst hr
        clear HR2 hz
        go_enter Tryz.func101, Tryz.ntmps101
        go_wp2_with fail
        go_ret
        exact ⟨rfl, BB.out⟩
      · have hzz : ¬ (1 : Int) < (num : Int) := by omega
        have hr : R = 0 := by rw [HR2.out]; unfold Vu.within; rw [if_neg (by omega)]
        subst hr
        clear HR2 hz
        go_enter Tryz.func101, Tryz.ntmps101
        go_wp2_with fail
        go_ret
        exact ⟨rfl, BB.out⟩
set_option maxHeartbeats 1000000 in
set_option maxRecDepth 100000 in
theorem plain_float (no : Int) (a b num dl pl : Nat) (A B C : Option Addr) (m c c2 c3 : Nat) (data : List UInt8) (w : World) (hn : num < 18446744073709551616) (hp : pl ≤ 20000) (hd : dl ≤ 5000000) (hb : b ≤ 9007199254740992) :
    Calls Tryz.prog 101 #[.agg #[.int .i64 no, .int .i64 7, .int .u64 (a : Int), .int .u64 (b : Int), .slice C m c3], .agg #[.int .u64 (num : Int), .slice A dl c, .slice B pl c2]] w fun e w' => e = .returned (.int .i64 (if dl ≠ 0 ∨ pl ≠ 0 then 84 else pF num b)) ∧ Below w.heap.size w w' := by
  have hwd : IntKind.u64.wrap (dl : Int) = (dl : Int) := by rw [IntKind.wrap_u64]; omega
  have hwp : IntKind.u64.wrap (pl : Int) = (pl : Int) := by rw [IntKind.wrap_u64]; omega
  have BB := Lib.hid (b2 w (.cells #[.int .i64 no, .int .i64 7, .int .u64 (a : Int), .int .u64 (b : Int), .slice C m c3] 117) (.cells #[.int .u64 (num : Int), .slice A dl c, .slice B pl c2] 32))
  obtain ⟨R, hR⟩ : ∃ R, R = (if dl ≠ 0 ∨ pl ≠ 0 then 84 else pF num b : Int) := ⟨_, rfl⟩
  rw [← hR]
  have HR := Lib.hid hR; clear hR
  by_cases g1 : dl ≠ 0
  · have hr : R = 84 := by rw [HR.out, if_pos (by simp [g1])]
    subst hr
    have g1z : (0 : Int) < (dl : Int) := by first | omega | (simp; omega)
    clear HR g1
    go_enter Tryz.func101, Tryz.ntmps101
    go_wp2_with fail
    go_ret
    exact ⟨rfl, BB.out⟩
  · obtain rfl : dl = 0 := by omega
    by_cases g2 : pl ≠ 0
    · have hr : R = 84 := by rw [HR.out, if_pos (by simp [g1, g2])]
      subst hr
      have g2z : (0 : Int) < (pl : Int) := by omega
      clear HR g1 g2
      go_enter Tryz.func101, Tryz.ntmps101
      go_wp2_with fail
      go_ret
      exact ⟨rfl, BB.out⟩
    · obtain rfl : pl = 0 := by omega
      have hr2 := HR.out
      rw [if_neg (by simp [g1, g2])] at hr2
      have HR2 := Lib.hid hr2
      clear HR g1 g2 hr2
      have HFL := Lib.hid (fun w => rFloat num b hn hb w)
      rw [← pF_eq num b hn hb, ← HR2.out] at HFL
      clear HR2
      go_enter Tryz.func101, Tryz.ntmps101
      go_wp2_with (go_at_call 9999)
      go_at_call 135
      refine (HFL.out _).mono ?_
      rintro _ w1 ⟨rfl, rfl⟩
      go_wp2_with fail
      go_ret
      exact ⟨rfl, BB.out⟩
set_option maxHeartbeats 1000000 in
set_option maxRecDepth 100000 in
theorem plain_bytes (no : Int) (a b num dl pl : Nat) (A B C : Option Addr) (m c c2 c3 : Nat) (data : List UInt8) (w : World) (hn : num < 18446744073709551616) (hp : pl ≤ 20000) (hd : dl ≤ 5000000) :
    Calls Tryz.prog 101 #[.agg #[.int .i64 no, .int .i64 5, .int .u64 (a : Int), .int .u64 (b : Int), .slice C m c3], .agg #[.int .u64 (num : Int), .slice A dl c, .slice B pl c2]] w fun e w' => e = .returned (.int .i64 (if num ≠ 0 ∨ pl ≠ 0 then 84 else Vu.within dl a b)) ∧ Below w.heap.size w w' := by
  have hwd : IntKind.u64.wrap (dl : Int) = (dl : Int) := by rw [IntKind.wrap_u64]; omega
  have hwp : IntKind.u64.wrap (pl : Int) = (pl : Int) := by rw [IntKind.wrap_u64]; omega
  have BB := Lib.hid (b2 w (.cells #[.int .i64 no, .int .i64 5, .int .u64 (a : Int), .int .u64 (b : Int), .slice C m c3] 117) (.cells #[.int .u64 (num : Int), .slice A dl c, .slice B pl c2] 32))
  obtain ⟨R, hR⟩ : ∃ R, R = (if num ≠ 0 ∨ pl ≠ 0 then 84 else Vu.within dl a b : Int) := ⟨_, rfl⟩
  rw [← hR]
  have HR := Lib.hid hR; clear hR
  by_cases g1 : num ≠ 0
  · have hr : R = 84 := by rw [HR.out, if_pos (by simp [g1])]
    subst hr
    have g1z : ((num : Int) != 0) = true := by first | omega | (simp; omega)
    clear HR g1
    go_enter Tryz.func101, Tryz.ntmps101
    go_wp2_with fail
    go_ret
    exact ⟨rfl, BB.out⟩
  · have g1z : ((num : Int) != 0) = false := by first | omega | (simp; omega)
    by_cases g2 : pl ≠ 0
    · have hr : R = 84 := by rw [HR.out, if_pos (by simp [g1, g2])]
      subst hr
      have g2z : (0 : Int) < (pl : Int) := by omega
      clear HR g1 g2
      go_enter Tryz.func101, Tryz.ntmps101
      go_wp2_with fail
      go_ret
      exact ⟨rfl, BB.out⟩
    · obtain rfl : pl = 0 := by omega
      have hr2 := HR.out
      rw [if_neg (by simp [g1, g2])] at hr2
      have HR2 := Lib.hid hr2
      clear HR g1 g2 hr2
      obtain ⟨W, hW⟩ : ∃ W, Vu.within dl a b = W := ⟨_, rfl⟩
      have HWN := Lib.hid (fun w => rwithin dl a b no (5) C m c3 w)
      rw [hW] at HWN HR2
      have hw83 : ¬ W = 0 → W = 83 := fun h => by rw [← hW] at *; exact within_no h
      by_cases hz : W = 0
      · subst hz
        clear hW hw83
        have hr : R = 0 := by rw [HR2.out]
        subst hr
        have hzb : decide ((0 : Int) = 0) = true := rfl
        rw [hzb] at HWN
        clear HR2 hzb
        go_enter Tryz.func101, Tryz.ntmps101
        go_wp2_with (go_at_call 9999)
        go_at_call 103
        refine (HWN.out _).mono ?_
        rintro _ w1 ⟨rfl, bb⟩
        have B3 := Lib.hid (BB.out.trans (bb.mono (b2s _ _ _)))
        have hv1 : Pa.hp w1 (w.heap.size + 1) = some (.cells #[.int .u64 (num : Int), .slice A dl c, .slice B 0 c2] 32 (0, 0)) := (bb.hp _ (by simp)).trans (hp_alloc_at _ _ (by simp))
        have hs1 : Pa.hp w1 w.heap.size = some (.cells #[.int .i64 no, .int .i64 5, .int .u64 (a : Int), .int .u64 (b : Int), .slice C m c3] 117 (0, 0)) := (bb.hp _ (by first | (simp; done) | (simp; omega))).trans ((hp_alloc_past _ _ (by simp)).trans (hp_alloc_at _ _ rfl))
        have hc1 := fun i => hp_cell hv1 i
        have hc2 := fun i => hp_cell hs1 i
        clear bb hv1 hs1
        go_wp2_with fail
        go_ret
        exact ⟨rfl, B3.out⟩
      · have hr : R = 83 := by rw [HR2.out]; exact hw83 hz
        subst hr
        have hzb : decide (W = 0) = false := decide_eq_false hz
        rw [hzb] at HWN
        clear HR2 hW hw83 hz hzb
        go_enter Tryz.func101, Tryz.ntmps101
        go_wp2_with (go_at_call 9999)
        go_at_call 103
        refine (HWN.out _).mono ?_
        rintro _ w1 ⟨rfl, bb⟩
        have B3 := Lib.hid (BB.out.trans (bb.mono (b2s _ _ _)))
        clear bb
        go_wp2_with fail
        go_ret
        exact ⟨rfl, B3.out⟩
set_option maxHeartbeats 1000000 in
set_option maxRecDepth 100000 in
theorem plain_text (no : Int) (a b num dl pl : Nat) (A B C : Option Addr) (m c c2 c3 : Nat) (data : List UInt8) (w : World) (hn : num < 18446744073709551616) (hp : pl ≤ 20000) (hd : dl ≤ 5000000) (hrd : Rd w (.slice A dl c) data) :
    Calls Tryz.prog 101 #[.agg #[.int .i64 no, .int .i64 6, .int .u64 (a : Int), .int .u64 (b : Int), .slice C m c3], .agg #[.int .u64 (num : Int), .slice A dl c, .slice B pl c2]] w fun e w' => e = .returned (.int .i64 (if num ≠ 0 ∨ pl ≠ 0 then 84 else if Vu.within dl a b ≠ 0 then 83 else if Lib.validD data = false then 84 else 0)) ∧ Below w.heap.size w w' := by
  have hwd : IntKind.u64.wrap (dl : Int) = (dl : Int) := by rw [IntKind.wrap_u64]; omega
  have hwp : IntKind.u64.wrap (pl : Int) = (pl : Int) := by rw [IntKind.wrap_u64]; omega
  have BB := Lib.hid (b2 w (.cells #[.int .i64 no, .int .i64 6, .int .u64 (a : Int), .int .u64 (b : Int), .slice C m c3] 117) (.cells #[.int .u64 (num : Int), .slice A dl c, .slice B pl c2] 32))
  obtain ⟨R, hR⟩ : ∃ R, R = (if num ≠ 0 ∨ pl ≠ 0 then 84 else if Vu.within dl a b ≠ 0 then 83 else if Lib.validD data = false then 84 else 0 : Int) := ⟨_, rfl⟩
  rw [← hR]
  have HR := Lib.hid hR; clear hR
  by_cases g1 : num ≠ 0
  · have hr : R = 84 := by rw [HR.out, if_pos (by simp [g1])]
    subst hr
    have g1z : ((num : Int) != 0) = true := by first | omega | (simp; omega)
    clear HR g1
    go_enter Tryz.func101, Tryz.ntmps101
    go_wp2_with fail
    go_ret
    exact ⟨rfl, BB.out⟩
  · have g1z : ((num : Int) != 0) = false := by first | omega | (simp; omega)
    by_cases g2 : pl ≠ 0
    · have hr : R = 84 := by rw [HR.out, if_pos (by simp [g1, g2])]
      subst hr
      have g2z : (0 : Int) < (pl : Int) := by omega
      clear HR g1 g2
      go_enter Tryz.func101, Tryz.ntmps101
      go_wp2_with fail
      go_ret
      exact ⟨rfl, BB.out⟩
    · obtain rfl : pl = 0 := by omega
      have hr2 := HR.out
      rw [if_neg (by simp [g1, g2])] at hr2
      have HR2 := Lib.hid hr2
      clear HR g1 g2 hr2
      obtain ⟨W, hW⟩ : ∃ W, Vu.within dl a b = W := ⟨_, rfl⟩
      have HWN := Lib.hid (fun w => rwithin dl a b no (6) C m c3 w)
      rw [hW] at HWN HR2
      have hw83 : ¬ W = 0 → W = 83 := fun h => by rw [← hW] at *; exact within_no h
      by_cases hz : W = 0
      · subst hz
        clear hW hw83
        have hzb : decide ((0 : Int) = 0) = true := rfl
        rw [hzb] at HWN
        have hr3 := HR2.out
        rw [if_neg (by decide)] at hr3
        have HR3 := Lib.hid hr3
        clear HR2 hzb hr3
        have htx : ∀ w1, Below w.heap.size w w1 → Calls Tryz.prog 134 #[.slice A dl c] w1 fun e w' => e = .returned (.bool (Lib.validD data)) ∧ w' = w1 := fun w1 hb1 => rText _ data w1 (rd_keep hb1.block hrd) (by have := hrd.len.1; omega)
        have HTX := Lib.hid htx; clear htx hrd
        go_enter Tryz.func101, Tryz.ntmps101
        go_wp2_with (go_at_call 9999)
        go_at_call 103
        refine (HWN.out _).mono ?_
        rintro _ w1 ⟨rfl, bb⟩
        have hb3 := BB.out.trans (bb.mono (b2s _ _ _))
        have hv1 : Pa.hp w1 (w.heap.size + 1) = some (.cells #[.int .u64 (num : Int), .slice A dl c, .slice B 0 c2] 32 (0, 0)) := (bb.hp _ (by simp)).trans (hp_alloc_at _ _ (by simp))
        have hs1 : Pa.hp w1 w.heap.size = some (.cells #[.int .i64 no, .int .i64 6, .int .u64 (a : Int), .int .u64 (b : Int), .slice C m c3] 117 (0, 0)) := (bb.hp _ (by first | (simp; done) | (simp; omega))).trans ((hp_alloc_past _ _ (by simp)).trans (hp_alloc_at _ _ rfl))
        have hc1 := fun i => hp_cell hv1 i
        have hc2 := fun i => hp_cell hs1 i
        have HT2 := Lib.hid (HTX.out w1 hb3)
        have B3 := Lib.hid hb3
        clear bb hb3 hv1 hs1 HTX
        cases hu : Lib.validD data with
        | true =>
          rw [hu] at HT2 HR3
          have hr : R = 0 := by rw [HR3.out]; rfl
          subst hr
          clear HR3 hu
          go_wp2_with (go_at_call 134; refine HT2.out.mono ?_; rintro _ w2 ⟨rfl, rfl⟩)
          go_ret
          exact ⟨rfl, B3.out⟩
        | false =>
          rw [hu] at HT2 HR3
          have hr : R = 84 := by rw [HR3.out]; rfl
          subst hr
          clear HR3 hu
          go_wp2_with (go_at_call 134; refine HT2.out.mono ?_; rintro _ w2 ⟨rfl, rfl⟩)
          go_ret
          exact ⟨rfl, B3.out⟩
      · have hr : R = 83 := by rw [HR2.out, if_pos hz]
        subst hr
        have hzb : decide (W = 0) = false := decide_eq_false hz
        rw [hzb] at HWN
        clear HR2 hW hw83 hz hzb
        go_enter Tryz.func101, Tryz.ntmps101
        go_wp2_with (go_at_call 9999)
        go_at_call 103
        refine (HWN.out _).mono ?_
        rintro _ w1 ⟨rfl, bb⟩
        have B3 := Lib.hid (BB.out.trans (bb.mono (b2s _ _ _)))
        clear bb
        go_wp2_with fail
        go_ret
        exact ⟨rfl, B3.out⟩
-- @END
end Go.Proofs.YtinngljphjdpoaaGreatDoor.Rp
