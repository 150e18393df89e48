/- bad: floats, bounds. -/
import Derived.Test.YtinngljphjdpoaaDoorJVg
import Derived.Laws.BitsAllLaws
import Derived.Laws.Externs
import Derived.BigQuiet
import Derived.Shelf.Unicode.DecodeSlow
import Derived.Lib.Endian
import Derived.Lib.EndianBits
import Derived.Lib.ValidAsc
import Derived.Test.YtinngljphjdpoaaDoorRows
import Derived.Lib.LaidU8T
import Derived.LaidLaws
import Derived.LaidMore
import Derived.Lay
import Derived.MakeChecks
namespace Go.Proofs.YtinngljphjdpoaaDoor.Vh
open Go Go.RowKit Go.Proofs.YtinngljphjdpoaaDoor.Pa Go.Proofs.YtinngljphjdpoaaDoor.Pb Go.Proofs.YtinngljphjdpoaaDoor.Pf Go.Proofs.YtinngljphjdpoaaDoor.Pq Go.Proofs.YtinngljphjdpoaaDoor.Sc Go.Proofs.YtinngljphjdpoaaDoor.Rs Go.Proofs.YtinngljphjdpoaaDoor.Hs Go.Proofs.YtinngljphjdpoaaDoor.Ca Go.Proofs.YtinngljphjdpoaaDoor.Cb Go.Proofs.YtinngljphjdpoaaDoor.Vu Go.Proofs.YtinngljphjdpoaaDoor.Vg
set_option linter.unusedVariables false
set_option linter.unusedSimpArgs false
/-- A world that has drawn. -/
def Like (w W : World) : Prop := ∃ n, W = w.drewN n
theorem Like.same {w W W' : World} (h : Like w W) (e : W' = W) : Like w W' := e ▸ h
theorem Like.refl (w : World) : Like w w.drew := ⟨1, rfl⟩
def ord (a b : Nat) : Option Ordering := FloatKind.f64.format.order a b
/-- The program's test of a float's bits. -/
def pF (n most : Nat) : Int :=
  if (ord n n != some .eq) || (ord (n % 9223372036854775808) 9218868437227405311 == some .gt) || (ord n 0 == some .eq && decide (n ≠ 0)) then 84
  else if ord (n % 9223372036854775808) (FloatKind.f64.nearest (most : Int)) == some .gt then 83 else 0
theorem from_run (n : Nat) (w : World) : (callFunc 76 #[.int .u64 (n : Int)]).run Tryd.prog w = .ok (.value (.float .f64 n)) w := by
  rw [run_callFunc_extern Tryd.func76 (by kernel_rfl) (by kernel_rfl) (by kernel_rfl) (e := Extern.MathFloatBits.float64frombits) (by kernel_rfl)]
  rfl
theorem to_run (n : Nat) (w : World) : (callFunc 86 #[.float .f64 n]).run Tryd.prog w = .ok (.value (.int .u64 (n : Int))) w := by
  rw [run_callFunc_extern Tryd.func86 (by kernel_rfl) (by kernel_rfl) (by kernel_rfl) (e := Extern.MathFloatBits.float64bits) (by kernel_rfl)]
  rfl
theorem and_not (n : Nat) (h : n < 18446744073709551616) : bits .andNot .u64 (n : Int) 9223372036854775808 = ((n % 9223372036854775808 : Nat) : Int) := by
  have := u64_andNot_nat n 9223372036854775808 h (by decide)
  rw [show ((9223372036854775808 : Nat) : Int) = 9223372036854775808 from rfl] at this
  rw [this]
  congr 1
  have h63 := Nat.and_two_pow_sub_one_eq_mod n 63
  exact h63
set_option maxRecDepth 100000 in
theorem abs_ (n : Nat) (h : n < 18446744073709551616) (w : World) : Calls Tryd.prog 79 #[.float .f64 n] w fun e w' => e = .returned (.float .f64 (n % 9223372036854775808)) ∧ w' = w := by
  have h1 := to_run n
  have h2 : ∀ w, (callFunc 76 #[.int .u64 ((n : Int) % 9223372036854775808)]).run Tryd.prog w = .ok (.value (.float .f64 (n % 9223372036854775808))) w := fun w => by
    have := from_run (n % 9223372036854775808) w
    rw [Int.natCast_emod] at this
    exact this
  have h3 : bits .andNot .u64 (n : Int) 9223372036854775808 = (n : Int) % 9223372036854775808 := by
    rw [and_not n h, Int.natCast_emod]; rfl
  go_enter Tryd.func79, Tryd.ntmps79
  go_wp2
  go_ret
  exact ⟨rfl, rfl⟩
set_option maxRecDepth 100000 in
theorem isNaN (n : Nat) (w : World) : Calls Tryd.prog 77 #[.float .f64 n] w fun e w' => e = .returned (.bool (ord n n != some .eq)) ∧ w' = w := by
  go_enter Tryd.func77, Tryd.ntmps77
  go_wp2
  go_ret
  exact ⟨rfl, rfl⟩
set_option maxRecDepth 100000 in
theorem isInf (n : Nat) (h : n < 18446744073709551616) (w : World) : Calls Tryd.prog 78 #[.float .f64 n, .int .i64 0] w fun e w' => e = .returned (.bool (ord (n % 9223372036854775808) 9218868437227405311 == some .gt)) ∧ w' = w := by
  go_enter Tryd.func78, Tryd.ntmps78
  go_wp2_with (go_at_call 9999)
  go_at_call 79
  refine (abs_ n h w).mono ?_
  rintro _ w1 ⟨rfl, rfl⟩
  go_wp2_with fail
  go_ret
  exact ⟨rfl, rfl⟩
/-- The tables of package utf8 stand as laid. -/
def TabU (w : World) : Prop := Lib.Utf8Tabs 1 2 w
theorem TabU.below {w w' : World} (h : TabU w) (hb : Below w.heap.size w w') : TabU w' := Go.Proofs.Utf8Tabs_below h hb
/-- What Valid says of bytes. -/
def UtfSaid (U : List UInt8 → Bool) : Prop := ∀ (v : Value) (l : List UInt8) (w : World), Rd w v l → TabU w → Calls Tryd.prog 80 #[v] w fun e w' => e = .returned (.bool (U l)) ∧ Below w.heap.size w w'
section
variable (w : World)
theorem b1 (o : Obj) : Below w.heap.size w (w.alloc o) := (Below.refl _ _).alloc (Nat.le_refl _) _
theorem b2 (o o' : Obj) : Below w.heap.size w ((w.alloc o).alloc o') := (b1 w o).trans ((b1 _ o').mono (by simp))
theorem b3 (o o' o'' : Obj) : Below w.heap.size w (((w.alloc o).alloc o').alloc o'') := (b2 w o o').trans ((b1 _ o'').mono (by simp; omega))
theorem b4 (o o' o'' o3 : Obj) : Below w.heap.size w ((((w.alloc o).alloc o').alloc o'').alloc o3) := (b3 w o o' o'').trans ((b1 _ o3).mono (by simp; omega))
theorem b5 (o o' o'' o3 o4 : Obj) : Below w.heap.size w (((((w.alloc o).alloc o').alloc o'').alloc o3).alloc o4) := (b4 w o o' o'' o3).trans ((b1 _ o4).mono (by simp; omega))
end
set_option maxRecDepth 100000 in
theorem bad_number (a b num items : Nat) (dv pv : Value) (w : World) : Calls Tryd.prog 59 #[.iface 140 (.agg #[.int .u64 (a : Int), .int .u64 (b : Int)]), .agg #[.int .u64 (num : Int), dv, pv], .int .i64 (items : Int)] w fun e w' => e = .returned (.int .i64 (Vu.within num a b)) ∧ Below w.heap.size w w' := by
  go_enter Tryd.func59, Tryd.ntmps59
  go_wp2_with (go_at_call 9999)
  go_at_call 75
  refine (Vg.within num a b _).mono ?_
  rintro _ w1 ⟨rfl, rfl⟩
  go_wp2_with fail
  go_ret
  exact ⟨rfl, b2 _ _ _⟩
set_option maxRecDepth 100000 in
theorem bad_list (g a b num items : Nat) (hi : items < 9223372036854775808) (dv pv : Value) (w : World) : Calls Tryd.prog 59 #[.iface 137 (.agg #[ptr g, .int .u64 (a : Int), .int .u64 (b : Int)]), .agg #[.int .u64 (num : Int), dv, pv], .int .i64 (items : Int)] w fun e w' => e = .returned (.int .i64 (Vu.within items a b)) ∧ Below w.heap.size w w' := by
  unfold ptr
  have hw : IntKind.u64.wrap (items : Int) = (items : Int) := by rw [IntKind.wrap_u64]; omega
  go_enter Tryd.func59, Tryd.ntmps59
  go_wp2_with (go_at_call 9999)
  go_at_call 75
  refine (Vg.within items a b _).mono ?_
  rintro _ w1 ⟨rfl, rfl⟩
  go_wp2_with fail
  go_ret
  exact ⟨rfl, b2 _ _ _⟩
theorem rint {a b : Int} (h : a = b) : Ending.returned (.int .i64 a) = .returned (.int .i64 b) := by rw [h]
set_option maxRecDepth 100000 in
theorem bad_data {U : List UInt8 → Bool} (HU : UtfSaid U) (a b num items : Nat) (tx : Bool) (dv pv : Value) (l : List UInt8) (w : World) (hd : Rd w dv l) (hT : TabU w) : Calls Tryd.prog 59 #[.iface 146 (.agg #[.int .u64 (a : Int), .int .u64 (b : Int), .bool tx]), .agg #[.int .u64 (num : Int), dv, pv], .int .i64 (items : Int)] w fun e w' => e = .returned (.int .i64 (if Vu.within l.length a b ≠ 0 then 83 else if tx = true ∧ U l = false then 84 else 0)) ∧ Below w.heap.size w w' := by
  obtain ⟨A, c, rfl, hlc, hcm⟩ : ∃ A c, dv = .slice A l.length c ∧ l.length ≤ c ∧ c ≤ maxLen := by obtain ⟨A, c, e, h1, h2, -⟩ := hd; exact ⟨A, c, e, h1, h2⟩
  unfold maxLen at hcm
  have hw : IntKind.u64.wrap (l.length : Int) = (l.length : Int) := by rw [IntKind.wrap_u64]; omega
  obtain ⟨R, hR⟩ : ∃ R, R = (if Vu.within l.length a b ≠ 0 then (83 : Int) else if tx = true ∧ U l = false then 84 else 0) := ⟨_, rfl⟩
  rw [← hR]
  have HR := Lib.hid hR; clear hR
  go_enter Tryd.func59, Tryd.ntmps59
  go_wp2_with (go_at_call 9999)
  go_at_call 75
  refine (Vg.within l.length a b _).mono ?_
  rintro _ w1 ⟨rfl, rfl⟩
  by_cases hE : Vu.within l.length a b = 0
  · have hR2 := HR.out
    rw [if_neg (by omega)] at hR2
    have HR2 := Lib.hid hR2
    rw [hE]
    have hu := HU (.slice A l.length c) l ((w.alloc (.cells #[.int .u64 (num : Int), .slice A l.length c, pv] 27)).alloc (.cells #[.int .u64 (a : Int), .int .u64 (b : Int), .bool tx] 146)) (hd.below (b2 _ _ _)) (hT.below (b2 _ _ _))
    have HUU := Lib.hid hu; clear hu hE HU hd hT HR hR2
    cases tx with
    | false =>
      go_wp2_with fail
      go_ret
      exact ⟨rint (by rw [HR2.out]; simp), b2 _ _ _⟩
    | true =>
      go_wp2_with (go_at_call 9999)
      go_at_call 80
      refine HUU.out.mono ?_
      rintro _ w2 ⟨rfl, bb⟩
      have BB := Lib.hid ((b2 w _ _).trans (bb.mono (by simp; omega)))
      clear bb HUU
      cases hU : U l with
      | true =>
        go_wp2_with fail
        go_ret
        exact ⟨rint (by rw [HR2.out]; simp [hU]), BB.out⟩
      | false =>
        go_wp2_with fail
        go_ret
        exact ⟨rint (by rw [HR2.out]; simp [hU]), BB.out⟩
  · have hE83 : Vu.within l.length a b = 83 := by unfold Vu.within at *; split <;> simp_all
    have hR2 := HR.out
    rw [if_pos hE] at hR2
    have HR2 := Lib.hid hR2; clear hR2
    rw [hE83]
    go_wp2_with fail
    go_ret
    exact ⟨rint HR2.out.symm, b2 _ _ _⟩
@[go_sem] theorem run_store_float (P : Program) (w : World) (a : Addr) (m : Mode) (k : FloatKind) (b : Nat) : (store a (.float k b) m).run P w = stored P w a (.float k b) m := run_store P w a _ m rfl
set_option maxRecDepth 100000 in
theorem bad_float (num most items : Nat) (hn : num < 18446744073709551616) (dv pv : Value) (w : World) : Calls Tryd.prog 59 #[.iface 143 (.agg #[fbits most]), .agg #[.int .u64 (num : Int), dv, pv], .int .i64 (items : Int)] w fun e w' => e = .returned (.int .i64 (pF num most)) ∧ Below w.heap.size w w' := by
  unfold fbits
  have hf := from_run num
  obtain ⟨R, hR⟩ : ∃ R, R = pF num most := ⟨_, rfl⟩
  rw [← hR]
  unfold pF at hR
  generalize FloatKind.f64.nearest (most : Int) = M at *
  have HR := Lib.hid hR; clear hR
  go_enter Tryd.func59, Tryd.ntmps59
  go_wp2_with (go_at_call 9999)
  go_at_call 77
  refine (isNaN num _).mono ?_
  rintro _ w1 ⟨rfl, rfl⟩
  have HI := Lib.hid (fun w => isInf num hn w); have HA := Lib.hid (fun w => abs_ num hn w); clear hf
  cases h1 : (ord num num != some .eq) with
  | true =>
    have hr := HR.out
    rw [h1] at hr
    have HR2 := Lib.hid hr; clear hr
    go_wp2_with fail
    go_ret
    exact ⟨rint (by rw [HR2.out]; simp), b2 _ _ _⟩
  | false =>
    have hr := HR.out
    rw [h1] at hr
    have HR2 := Lib.hid hr; clear hr
    go_wp2_with (go_at_call 9999)
    go_at_call 78
    refine (HI.out _).mono ?_
    rintro _ w1 ⟨rfl, rfl⟩
    cases h2 : (ord (num % 9223372036854775808) 9218868437227405311 == some .gt) with
    | true =>
      have hr := HR2.out
      rw [h2] at hr
      have HR3 := Lib.hid hr; clear hr
      go_wp2_with fail
      go_ret
      exact ⟨rint (by rw [HR3.out]; simp), b2 _ _ _⟩
    | false =>
      have hr := HR2.out
      rw [h2] at hr
      have HR3 := Lib.hid hr; clear hr
      obtain ⟨wz, hwz⟩ : ∃ x, x = (w.alloc (.cells #[.int .u64 (num : Int), dv, pv] 27)).alloc (.cells #[.float .f64 M] 143) := ⟨_, rfl⟩
      rw [← hwz]
      have hz : hp wz (w.heap.size + 1) = some (.cells #[.float .f64 M] 143 (0, 0)) := by rw [hwz]; exact hp_alloc_at _ _ (by simp)
      have hz0 : hp wz w.heap.size = some (.cells #[.int .u64 (num : Int), dv, pv] 27 (0, 0)) := by rw [hwz]; simp [go_sem]
      have hc0 := fun i => hp_cell hz0 i
      have hcell : ∀ u : Held (Like wz), u.w.cell? ⟨w.heap.size + 1, 0, none⟩ = some (.float .f64 M) := fun u => by obtain ⟨m, hm⟩ := u.h; rw [hm]; exact hp_cell ((hp_drewN m _).trans hz) 0
      have BZ := Lib.hid (show Below w.heap.size w wz by rw [hwz]; exact b2 _ _ _)
      clear hwz hz hz0
      cases h3 : (ord num 0 == some .eq) with
      | true =>
        have hr := HR3.out
        rw [h3] at hr
        have HR4 := Lib.hid hr; clear hr
        have h3' : (FloatKind.f64.format.order num 0 == some .eq) = true := h3
        by_cases h4 : num = 0
        · have h4' : (num : Int) = 0 := by omega
          have H4 := Lib.hid h4; clear h4
          go_wp2_with fail
          clear h4'
          refine wp_region_calm (S := Like wz) (by kernel_rfl) (by kernel_rfl) (Like.refl _) ?_
          intro hN
          repeat (go_big_quiet_step (first | (go_at_call 79; exact calm_call (HA.out _) (fun w' hs hr => hs.same hr))))
          refine wpQuiet_nil ?_
          intro u
          obtain ⟨m, hm⟩ := u.h
          rw [hm]
          have hBz : Below w.heap.size w (wz.drewN m) := ⟨BZ.out.os, BZ.out.tape, BZ.out.output, BZ.out.size, BZ.out.block⟩
          have HBZ := Lib.hid hBz; clear hBz hcell hN hm u
          generalize hOO : FloatKind.f64.format.order (num % 9223372036854775808) M = OO at *
          have HOO := Lib.hid hOO; clear hOO
          go_wp2_with fail
          all_goals
            go_ret
            refine ⟨rint ?_, HBZ.out⟩
            rw [HR4.out]
            have ho := HOO.out
            have h4 := H4.out
            subst h4
            rw [Nat.zero_mod] at ho
            simp_all [ord]
        · have h4' : ¬ (num : Int) = 0 := by omega
          go_wp2_with fail
          go_ret
          exact ⟨rint (by rw [HR4.out]; simp [h4]), BZ.out⟩
      | false =>
        have hr := HR3.out
        rw [h3] at hr
        have HR4 := Lib.hid hr; clear hr
        have h3' : (FloatKind.f64.format.order num 0 == some .eq) = false := h3
        go_wp2_with fail
        refine wp_region_calm (S := Like wz) (by kernel_rfl) (by kernel_rfl) (Like.refl _) ?_
        intro hN
        repeat (go_big_quiet_step (first | (go_at_call 79; exact calm_call (HA.out _) (fun w' hs hr => hs.same hr))))
        refine wpQuiet_nil ?_
        intro u
        obtain ⟨m, hm⟩ := u.h
        rw [hm]
        have hBz : Below w.heap.size w (wz.drewN m) := ⟨BZ.out.os, BZ.out.tape, BZ.out.output, BZ.out.size, BZ.out.block⟩
        have HBZ := Lib.hid hBz; clear hBz hcell hN hm u
        generalize hOO : FloatKind.f64.format.order (num % 9223372036854775808) M = OO at *
        have HOO := Lib.hid hOO; clear hOO
        go_wp2_with fail
        all_goals
          go_ret
          refine ⟨rint ?_, HBZ.out⟩
          rw [HR4.out]
          simp_all [ord, HOO.out]
end Go.Proofs.YtinngljphjdpoaaDoor.Vh
/- utf8.word of bytes. -/
namespace Go.Proofs.YtinngljphjdpoaaDoor.Uw
open Go Go.RowKit Go.Proofs.YtinngljphjdpoaaDoor.Pa Go.Proofs.YtinngljphjdpoaaDoor.Pb Go.Proofs.YtinngljphjdpoaaDoor.Pf Go.Proofs.YtinngljphjdpoaaDoor.Pq Go.Proofs.YtinngljphjdpoaaDoor.Vh
set_option linter.unusedVariables false
set_option linter.unusedSimpArgs false
theorem below_drewN (w : World) (n : Nat) : Below w.heap.size w (w.drewN n) := ⟨rfl, rfl, rfl, Nat.le_refl _, fun _ _ => rfl⟩
theorem Like.below {w W : World} (h : Like w W) : Below w.heap.size w W := by obtain ⟨n, rfl⟩ := h; exact below_drewN w n
/-- A byte behind an address. -/
theorem rd_byte {w : World} {ad : Addr} {n c : Nat} {l : List UInt8} (h : Rd w (.slice (some ad) n c) l) (j : Nat) (hj : j < l.length) (h0 : 0 < j) (x : Nat) (hx : l[j].toNat = x) : w.cell? ⟨ad.block, ad.off + j, none⟩ = some (.int .u8 (x : Int)) := by
  obtain ⟨ad', e, hc⟩ := h.at_ j hj
  cases e
  rw [← hx, ← hc]
  unfold Addr.add
  rw [if_neg (by omega)]
theorem rd_byte0 {w : World} {ad : Addr} {n c : Nat} {l : List UInt8} (h : Rd w (.slice (some ad) n c) l) (hj : 0 < l.length) (x : Nat) (hx : l[0].toNat = x) : w.cell? ad = some (.int .u8 (x : Int)) := by
  obtain ⟨ad', e, hc⟩ := h.at_ 0 hj
  cases e
  rw [← hx, ← hc]
  rfl
set_option maxHeartbeats 4000000 in
set_option maxRecDepth 100000 in
theorem word8 (v : Value) (l : List UInt8) (w : World) (h : Rd w v l) (h8 : 8 ≤ l.length) :
    Calls Tryd.prog 87 #[v] w fun e w' => e = .returned (.int .u64 (Lib.leNat (l.take 8))) ∧ ∃ q, w' = w.drewN q := by
  obtain ⟨A, c, rfl, h1, h2, -⟩ := id h
  obtain ⟨ad, rfl, -⟩ := h.at_ 0 (by omega)
  obtain ⟨x0, hx0⟩ : ∃ x, l[0].toNat = x := ⟨_, rfl⟩
  obtain ⟨x1, hx1⟩ : ∃ x, l[1].toNat = x := ⟨_, rfl⟩
  obtain ⟨x2, hx2⟩ : ∃ x, l[2].toNat = x := ⟨_, rfl⟩
  obtain ⟨x3, hx3⟩ : ∃ x, l[3].toNat = x := ⟨_, rfl⟩
  obtain ⟨x4, hx4⟩ : ∃ x, l[4].toNat = x := ⟨_, rfl⟩
  obtain ⟨x5, hx5⟩ : ∃ x, l[5].toNat = x := ⟨_, rfl⟩
  obtain ⟨x6, hx6⟩ : ∃ x, l[6].toNat = x := ⟨_, rfl⟩
  obtain ⟨x7, hx7⟩ : ∃ x, l[7].toNat = x := ⟨_, rfl⟩
  have hr : ∀ u : Held (Like w), Rd u.w (.slice (some ad) l.length c) l := fun u => h.below (Like.below u.h)
  have g0 := fun u => rd_byte0 (hr u) (by omega) x0 hx0
  have g1 := fun u => rd_byte (hr u) 1 (by omega) (by omega) x1 hx1
  have g2 := fun u => rd_byte (hr u) 2 (by omega) (by omega) x2 hx2
  have g3 := fun u => rd_byte (hr u) 3 (by omega) (by omega) x3 hx3
  have g4 := fun u => rd_byte (hr u) 4 (by omega) (by omega) x4 hx4
  have g5 := fun u => rd_byte (hr u) 5 (by omega) (by omega) x5 hx5
  have g6 := fun u => rd_byte (hr u) 6 (by omega) (by omega) x6 hx6
  have g7 := fun u => rd_byte (hr u) 7 (by omega) (by omega) x7 hx7
  have b0 : x0 < 256 := hx0 ▸ l[0].toNat_lt
  have b1 : x1 < 256 := hx1 ▸ l[1].toNat_lt
  have b2 : x2 < 256 := hx2 ▸ l[2].toNat_lt
  have b3 : x3 < 256 := hx3 ▸ l[3].toNat_lt
  have b4 : x4 < 256 := hx4 ▸ l[4].toNat_lt
  have b5 : x5 < 256 := hx5 ▸ l[5].toNat_lt
  have b6 : x6 < 256 := hx6 ▸ l[6].toNat_lt
  have b7 : x7 < 256 := hx7 ▸ l[7].toNat_lt
  have hv : ((Lib.leNat (l.take 8) : Nat) : Int) = (x0 : Int) + (x1 : Int) * 256 + (x2 : Int) * 65536 + (x3 : Int) * 16777216 + (x4 : Int) * 4294967296 + (x5 : Int) * 1099511627776 + (x6 : Int) * 281474976710656 + (x7 : Int) * 72057594037927936 := by
    clear g0 g1 g2 g3 g4 g5 g6 g7 hr b0 b1 b2 b3 b4 b5 b6 b7 h
    obtain ⟨a0, a1, a2, a3, a4, a5, a6, a7, r, hl⟩ : ∃ a0 a1 a2 a3 a4 a5 a6 a7 r, l = a0 :: a1 :: a2 :: a3 :: a4 :: a5 :: a6 :: a7 :: r := by
      match l, h8 with
      | a0 :: a1 :: a2 :: a3 :: a4 :: a5 :: a6 :: a7 :: r, _ => exact ⟨_, _, _, _, _, _, _, _, _, rfl⟩
    subst hl
    simp at hx0 hx1 hx2 hx3 hx4 hx5 hx6 hx7
    simp only [List.take_succ_cons, List.take_zero, Lib.leNat, hx0, hx1, hx2, hx3, hx4, hx5, hx6, hx7]
    push_cast
    omega
  obtain ⟨A, hA⟩ : ∃ A, A = Lib.leNat (l.take 8) := ⟨_, rfl⟩
  rw [← hA] at hv ⊢
  have q0 : (0 : Int) < (l.length : Int) := by omega
  have q1 : (1 : Int) < (l.length : Int) := by omega
  have q2 : (2 : Int) < (l.length : Int) := by omega
  have q3 : (3 : Int) < (l.length : Int) := by omega
  have q4 : (4 : Int) < (l.length : Int) := by omega
  have q5 : (5 : Int) < (l.length : Int) := by omega
  have q6 : (6 : Int) < (l.length : Int) := by omega
  have q7 : (7 : Int) < (l.length : Int) := by omega
  have HV := Lib.hid hv
  clear hr hx0 hx1 hx2 hx3 hx4 hx5 hx6 hx7 hA h hv h1 h2
  generalize l.length = n at *
  clear h8
  go_enter Tryd.func87, Tryd.ntmps87
  go_wp2_with fail
  refine wp_region_calm (S := Like w) (by kernel_rfl) (by kernel_rfl) (Like.refl _) ?_
  intro hN
  repeat (go_big_quiet_step (fail))
  refine wpQuiet_nil ?_
  intro u
  obtain ⟨m, hm⟩ := u.h
  rw [hm]
  clear g0 g1 g2 g3 g4 g5 g6 g7 hN
  go_wp2_with fail
  go_ret
  refine ⟨?_, _, rfl⟩
  simp (disch := omega) only [u64_wrap_id, u64_or8, u64_or16, u64_or24, u64_or32, u64_or40, u64_or48, u64_or56]
  rw [HV.out]; rfl
end Go.Proofs.YtinngljphjdpoaaDoor.Uw
/- What the laid variables give: the tables of utf8; a world that has them. -/
namespace Go.Proofs.YtinngljphjdpoaaDoor.Kd
open Go Go.RowKit Go.Lib
set_option linter.unusedVariables false
set_option maxRecDepth 100000
def dataL : List (String × DataW Unit) := [("unicode/utf8.acceptRanges", Rows.laid_unicode_utf8_acceptRanges), ("unicode/utf8.first", Rows.laid_unicode_utf8_first)]
/-- The names of a library's types and variables in this program. -/
def ρ : Go.Shelf.Ren := ⟨fun x => x, fun n => if n = 5 then 5 else if n = 119 then 169 else if n = 138 then 171 else 172, fun g => if g = 3 then 1 else 2⟩
theorem types : U8Types Tryd.prog ρ := ⟨Tryd.underlying5, Tryd.underlying169, Tryd.underlying171, Tryd.underlying172⟩
theorem extra : U8Extra Tryd.prog ρ := ⟨by kernel_rfl, by kernel_rfl, by kernel_rfl, by kernel_rfl, by kernel_rfl, by kernel_rfl, by kernel_rfl⟩
theorem first_is : Rows.laid_unicode_utf8_first = firstData := by kernel_rfl
theorem accept_is : (Rows.laid_unicode_utf8_acceptRanges : DataW Unit) = acceptData := by kernel_rfl
/-- A world that has them. -/
noncomputable def start (os : Os) : World := (World.doorLaid Tryd.prog 400 os).layVars Tryd.prog dataL
theorem start_os (os : Os) : (start os).os = os := (World.layVars_os _ _ _).trans rfl
theorem great_all : (dataL.filter fun x => ["unicode/utf8.acceptRanges", "unicode/utf8.first"].contains x.1) = dataL := by kernel_rfl
theorem great_none : (dataL.filter fun x => !["unicode/utf8.acceptRanges", "unicode/utf8.first"].contains x.1) = [] := by kernel_rfl
theorem start_data (os : Os) : laidMet Tryd.prog dataL (start os) :=
  laidMet_layVars (w0 := World.doorLaid Tryd.prog 400 os) ["unicode/utf8.acceptRanges", "unicode/utf8.first"] [] (by rw [great_all]; rfl) (by rw [great_all]; kernel_rfl) (by rw [great_all]; kernel_rfl) (by rw [great_none]; exact LaidIn.none)
theorem data_plain (w : World) : laidMetH Tryd.prog dataL w = laidMet Tryd.prog dataL w := MakeChecks.laidMetH_plain _ _ _ (by kernel_rfl)
theorem tabu_data {W : World} (h : laidMetH Tryd.prog dataL W) : Vh.TabU W := by
  rw [data_plain] at h
  have h3 : VarReads Tryd.prog W "unicode/utf8.first" firstData := first_is ▸ laidMet.reads h (by unfold dataL; simp)
  have h4 : VarReads Tryd.prog W "unicode/utf8.acceptRanges" acceptData := accept_is ▸ laidMet.reads h (by unfold dataL; simp)
  exact utf8Tabs_of_readsT types extra h3 h4
theorem data_met (os : Os) (args : Array Value) : laidMetH Tryd.prog dataL ((start os).forCall (fun _ _ => 0) ⟨#[], args, []⟩).memory := by
  rw [data_plain]
  exact (start_data os).of_heap (by simp [World.memory, World.forCall, Input.heap])
end Go.Proofs.YtinngljphjdpoaaDoor.Kd
