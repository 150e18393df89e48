/- The program's add, fixed, of, wrong. -/
import Derived.Test.YtinngljphjdpoaaGreatDoorJEp
import Derived.Test.YtinngljphjdpoaaGreatDoorJAx
namespace Go.Proofs.YtinngljphjdpoaaGreatDoor.Ea
open Go Go.RowKit Go.Proofs.YtinngljphjdpoaaGreatDoor.Pa Go.Proofs.YtinngljphjdpoaaGreatDoor.Pb Go.Proofs.YtinngljphjdpoaaGreatDoor.Pf Go.Proofs.YtinngljphjdpoaaGreatDoor.Nz Go.Proofs.YtinngljphjdpoaaGreatDoor.Nm
set_option linter.unusedVariables false
set_option linter.unusedSimpArgs false
theorem vb (w : World) (o : Obj) : Below w.heap.size w (w.alloc o) := (Below.refl _ _).alloc (Nat.le_refl _) _
/-- What grew: the row v alone, which is v' now. -/
def Gr (w : World) (v : Value) (w' : World) (v' : Value) : Prop := w.grownBy w' v.ownBlock ∧ (v'.ownBlock = v.ownBlock ∨ ∃ b, v'.ownBlock = some b ∧ w.heap.size ≤ b)
theorem Gr.refl (w : World) (v : Value) : Gr w v w v := ⟨⟨rfl, rfl, rfl, Nat.le_refl _, fun _ _ _ => rfl⟩, .inl rfl⟩
theorem Gr.trans {w w' w'' : World} {v v' v'' : Value} (h : Gr w v w' v') (k : Gr w' v' w'' v'') : Gr w v w'' v'' := by
  obtain ⟨⟨a1, a2, a3, a4, a5⟩, a6⟩ := h
  obtain ⟨⟨b1, b2, b3, b4, b5⟩, b6⟩ := k
  refine ⟨⟨b1.trans a1, b2.trans a2, b3.trans a3, Nat.le_trans a4 b4, fun i hi hne => ?_⟩, ?_⟩
  · have hne' : v'.ownBlock ≠ some i := by
      rcases a6 with e | ⟨b, e, hb⟩
      · rw [e]; exact fun h => hne h.symm
      · rw [e]; intro h; cases h; omega
    exact (b5 i (by omega) (Ne.symm hne')).trans (a5 i hi hne)
  · rcases b6 with e | ⟨b, e, hb⟩
    · rw [e]; exact a6
    · exact .inr ⟨b, e, Nat.le_trans a4 hb⟩
theorem gr_below {w w' : World} {v : Value} (h : Below w.heap.size w w') : Gr w v w' v := ⟨grown_below h _, .inl rfl⟩
theorem gr_app {w w' : World} {v v' : Value} {c : Prop} {c' : Prop} (h : w.grownBy w' v.ownBlock) (k : v'.ownBlock = v.ownBlock ∧ c ∨ v'.ownBlock = some w.heap.size ∧ c') : Gr w v w' v' :=
  ⟨h, k.elim (fun h => .inl h.1) (fun h => .inr ⟨_, h.1, Nat.le_refl _⟩)⟩
theorem Gr.toBelow {base : Nat} {w w' : World} {v v' : Value} {l : List UInt8} (h : Gr w v w' v') (ho : Own w base 5 v l) (hb : base ≤ w.heap.size) : Below base w w' := below_grown (Below.refl _ _) ho (Nat.le_refl _) hb h.1
theorem Gr.hp {w w' : World} {v v' : Value} {g : Nat} {o : Obj} (h : Gr w v w' v') (hg : Pa.hp w g = some o) (hne : v.ownBlock ≠ some g) : Pa.hp w' g = some o := by
  have hlt : g < w.heap.size := (Array.getElem?_eq_some_iff.1 hg).1
  exact (h.1.block g hlt (Ne.symm hne)).trans hg
set_option maxRecDepth 100000 in
/-- add: in the row's own room. -/
theorem add {base : Nat} (v : Value) (l : List UInt8) (n : Nat) (hn : n < 18446744073709551616) (w : World) (hv : Own w base 5 v l) (hb : base ≤ w.heap.size) (hl : l.length ≤ 100000000) :
    Calls Tryz.prog 137 #[v, .int .u64 n] w fun e w' => ∃ v', e = .returned v' ∧ Own w' base 5 v' (l ++ num n) ∧ Gr w v w' v' := by
  have HV := Lib.hid hv; have HN := Lib.hid hn; clear hv hn
  go_enter Tryz.func137, Tryz.ntmps137
  go_wp2_with fail
  go_loopw [0, 1] (fun t s wr => ∃ (m : Nat) (pre : List UInt8), m < 18446744073709551616 ∧ pre ++ num m = num n ∧ s = .int .u64 m ∧ Own wr base 5 t (l ++ pre) ∧ Gr w v wr t) (fun t s _ => (intOf s).toNat)
  case atStart => exact ⟨n, [], HN.out, rfl, rfl, by simpa using HV.out, Gr.refl _ _⟩
  case round =>
    obtain ⟨m, pre, hm, hp, rfl, ho, hbw⟩ := hrel
    have hpl : pre.length ≤ 10 := by have := congrArg List.length hp; have h2 := sz_u64 n HN.out; simp only [List.length_append] at this; unfold sz at h2; omega
    have hq : IntKind.u64.wrap ((m : Int) / 128) = ((m / 128 : Nat) : Int) := by rw [wu64 (by omega) (by omega)]; omega
    have HP := Lib.hid hp; have HM := Lib.hid hm; have HO := Lib.hid ho; clear hp hm ho
    have hbs := hbw.1.size
    by_cases h : 128 ≤ m
    · have HY := Lib.hid (show ((m : Int) % 128 + 128) = ((UInt8.ofNat (m % 128 + 128)).toNat : Int) by rw [← of_nat8 (by omega)]; omega)
      go_wp2_with (at_builtin; refine wp_app (.tmp 9) (.tmp 14) Nm.u8 rfl rfl rfl rfl (HO.out.alloc _) (rd_box wr _ _ _ HY.out) (by simp; omega) (by simp; omega) ?_; intro v2 w2 ho2 hg2 hc2)
      have hb2 := Lib.hid ((hbw.trans (gr_below (vb _ _))).trans (gr_app hg2 hc2))
      clear hg2 hc2
      go_wp2
      go_roundw
      case rel => exact ⟨m / 128, pre ++ [UInt8.ofNat (m % 128 + 128)], by have := HM.out; omega, by rw [← HP.out, num_step h]; simp, rfl, by simpa using ho2, hb2.out⟩
      case measure => simp [intOf]; omega
    · have HY := Lib.hid (show (m : Int) = ((UInt8.ofNat m).toNat : Int) from of_nat8 (by omega))
      go_wp2_with (at_builtin; refine wp_app (.tmp 16) (.tmp 19) Nm.u8 rfl rfl rfl rfl (HO.out.alloc _) (rd_box wr _ _ _ HY.out) (by simp; omega) (by simp; omega) ?_; intro v2 w2 ho2 hg2 hc2)
      have hb2 := Lib.hid ((hbw.trans (gr_below (vb _ _))).trans (gr_app hg2 hc2))
      clear hg2 hc2
      go_wp2
      go_ret
      refine ⟨v2, rfl, ?_, hb2.out⟩
      rw [← HP.out, num_end h]
      simpa using ho2
set_option maxRecDepth 100000 in
/-- fixed: so many bytes, the lowest first. -/
theorem fixed {base : Nat} (v : Value) (l : List UInt8) (n k : Nat) (hn : n < 18446744073709551616) (hk : k ≤ 8) (w : World) (hv : Own w base 5 v l) (hb : base ≤ w.heap.size) (hl : l.length ≤ 100000000) :
    Calls Tryz.prog 139 #[v, .int .u64 n, .int .i64 (k : Int)] w fun e w' => ∃ v', e = .returned v' ∧ Own w' base 5 v' (l ++ Ep.low n k) ∧ Gr w v w' v' := by
  have HV := Lib.hid hv; have HN := Lib.hid hn; clear hv hn
  go_enter Tryz.func139, Tryz.ntmps139
  go_wp2_with fail
  go_loopw [0, 1, 8] (fun t s u wr => ∃ (i : Nat), i ≤ k ∧ u = .int .i64 i ∧ s = .int .u64 ((n / 256 ^ i : Nat) : Int) ∧ Own wr base 5 t (l ++ Ep.low n i) ∧ Gr w v wr t) (fun _ _ u _ => k - (intOf u).toNat)
  case atStart => exact ⟨0, by omega, rfl, by simp, by simpa [Ep.low] using HV.out, Gr.refl _ _⟩
  case round =>
    obtain ⟨i, hi, rfl, rfl, ho, hbw⟩ := hrel
    have hbs := hbw.1.size
    have hll := Ep.low_length n i
    have hsn := Ep.low_snoc i n
    have hnx : n / 256 ^ (i + 1) = n / 256 ^ i / 256 := by rw [Nat.div_div_eq_div_mul, Nat.pow_succ]
    have hlt : n / 256 ^ i < 18446744073709551616 := Nat.lt_of_le_of_lt (Nat.div_le_self _ _) HN.out
    generalize n / 256 ^ i = q at *
    have HO := Lib.hid ho; clear ho
    by_cases h : i < k
    · have HY := Lib.hid (show ((q : Int) % 256) = ((UInt8.ofNat (q % 256)).toNat : Int) by rw [← of_nat8 (by omega)]; omega)
      have hw8 : IntKind.u8.wrap (q : Int) = (q : Int) % 256 := by rw [IntKind.wrap_u8]
      have HNX := Lib.hid hnx; have HSN := Lib.hid hsn; clear hnx hsn
      go_wp2_with (at_builtin; refine wp_app (.tmp 10) (.tmp 13) Nm.u8 rfl rfl rfl rfl (HO.out.alloc _) (rd_box wr _ _ _ HY.out) (by simp; omega) (by simp; omega) ?_; intro v2 w2 ho2 hg2 hc2)
      have hb2 := Lib.hid ((hbw.trans (gr_below (vb _ _))).trans (gr_app hg2 hc2))
      clear hg2 hc2
      go_wp2
      go_roundw
      case rel => exact ⟨i + 1, by omega, by go_num, by rw [HNX.out]; rfl, by rw [HSN.out]; simpa using ho2, hb2⟩
      case measure => simp [intOf]; omega
    · obtain rfl : i = k := by omega
      go_wp2
      go_ret
      exact ⟨_, rfl, HO.out, hbw⟩
set_option maxRecDepth 100000 in
theorem of_ (no ty : Int) (num : Nat) (A : Option Addr) (dl c : Nat) (h1 : 0 ≤ no) (h2 : no ≤ 536870911) (h3 : 0 ≤ ty) (h4 : ty ≤ 7) (w : World) :
    Calls Tryz.prog 138 #[.agg #[.int .i64 no, .int .i64 ty, .int .u64 (num : Int), .slice A dl c]] w fun e w' => e = .returned (.int .u64 ((8 * no.toNat + ty.toNat : Nat) : Int)) ∧ Below w.heap.size w w' := by
  have BB := Lib.hid (vb w (.cells #[.int .i64 no, .int .i64 ty, .int .u64 (num : Int), .slice A dl c] 140))
  obtain ⟨a, rfl⟩ := Int.eq_ofNat_of_zero_le h1
  obtain ⟨b, rfl⟩ := Int.eq_ofNat_of_zero_le h3
  have hq : IntKind.u64.wrap (8 * (a : Int) + (b : Int)) = 8 * (a : Int) + (b : Int) := wu64 (by omega) (by omega)
  go_enter Tryz.func138, Tryz.ntmps138
  go_wp2_with fail
  go_ret
  exact ⟨by simp, BB.out⟩
set_option maxHeartbeats 1000000 in
set_option maxRecDepth 100000 in
theorem wrong (no ty last : Int) (num : Nat) (A : Option Addr) (dl c : Nat) (data : List UInt8) (hdl : dl = data.length) (hd : dl ≤ 100000000) (w : World) :
    Calls Tryz.prog 104 #[.agg #[.int .i64 no, .int .i64 ty, .int .u64 (num : Int), .slice A dl c], .int .i64 last] w fun e w' => e = .returned (.int .i64 (Ep.wrong ⟨no, ty, num, data⟩ last)) ∧ Below w.heap.size w w' := by
  have BB := Lib.hid (vb w (.cells #[.int .i64 no, .int .i64 ty, .int .u64 (num : Int), .slice A dl c] 140))
  obtain ⟨R, hR⟩ : ∃ R, R = Ep.wrong ⟨no, ty, num, data⟩ last := ⟨_, rfl⟩
  rw [← hR]
  unfold Ep.wrong at hR
  simp only [← hdl] at hR
  clear hdl
  by_cases c1 : no < 1
  · have hr : R = 71 := by rw [hR, if_pos (.inl c1)]
    subst hr; clear hR
    go_enter Tryz.func104, Tryz.ntmps104
    go_wp2_with fail
    go_ret
    exact ⟨rfl, BB.out⟩
  by_cases c2 : 536870911 < no
  · have hr : R = 71 := by rw [hR, if_pos (.inr (.inl c2))]
    subst hr; clear hR
    go_enter Tryz.func104, Tryz.ntmps104
    go_wp2_with fail
    go_ret
    exact ⟨rfl, BB.out⟩
  by_cases c3 : no ≤ last
  · have hr : R = 71 := by rw [hR, if_pos (.inr (.inr c3))]
    subst hr; clear hR
    go_enter Tryz.func104, Tryz.ntmps104
    go_wp2_with fail
    go_ret
    exact ⟨rfl, BB.out⟩
  rw [if_neg (by omega)] at hR
  by_cases t2 : ty = 2
  · subst t2
    rw [if_pos rfl] at hR
    by_cases n0 : num ≠ 0
    · have hr : R = 1 := by rw [hR, if_pos n0]
      have nz : ((num : Int) != 0) = true := by simp; omega
      subst hr; clear hR n0
      go_enter Tryz.func104, Tryz.ntmps104
      go_wp2_with fail
      go_ret
      exact ⟨rfl, BB.out⟩
    · have hr : R = 0 := by rw [hR, if_neg n0]
      have nz : ((num : Int) != 0) = false := by simp; omega
      subst hr; clear hR n0
      go_enter Tryz.func104, Tryz.ntmps104
      go_wp2_with fail
      go_ret
      exact ⟨rfl, BB.out⟩
  rw [if_neg t2] at hR
  have t2z : (ty == 2) = false := by simpa using t2
  by_cases d0 : dl ≠ 0
  · have dz : (0 : Int) < (dl : Int) := by omega
    by_cases t0 : ty = 0
    · subst t0
      have hr : R = 1 := by rw [hR, if_pos (by simp), if_pos (.inl d0)]
      subst hr; clear hR d0 t2 t2z
      go_enter Tryz.func104, Tryz.ntmps104
      go_wp2_with fail
      go_ret
      exact ⟨rfl, BB.out⟩
    by_cases t1 : ty = 1
    · subst t1
      have hr : R = 1 := by rw [hR, if_pos (by simp), if_pos (.inl d0)]
      subst hr; clear hR d0 t2 t2z t0
      go_enter Tryz.func104, Tryz.ntmps104
      go_wp2_with fail
      go_ret
      exact ⟨rfl, BB.out⟩
    by_cases t5 : ty = 5
    · subst t5
      have hr : R = 1 := by rw [hR, if_pos (by simp), if_pos (.inl d0)]
      subst hr; clear hR d0 t2 t2z t0 t1
      go_enter Tryz.func104, Tryz.ntmps104
      go_wp2_with fail
      go_ret
      exact ⟨rfl, BB.out⟩
    have hr : R = 72 := by rw [hR, if_neg (by simp [t0, t1, t5])]
    have t0z : (ty == 0) = false := by simpa using t0
    have t1z : (ty == 1) = false := by simpa using t1
    have t5z : (ty == 5) = false := by simpa using t5
    subst hr; clear hR d0 t2 t0 t1 t5
    go_enter Tryz.func104, Tryz.ntmps104
    go_wp2_with fail
    go_ret
    exact ⟨rfl, BB.out⟩
  · obtain rfl : dl = 0 := by omega
    by_cases t0 : ty = 0
    · subst t0
      have hr : R = 0 := by rw [hR, if_pos (by simp), if_neg (by simp)]
      subst hr; clear hR d0 t2 t2z
      go_enter Tryz.func104, Tryz.ntmps104
      go_wp2_with fail
      go_ret
      exact ⟨rfl, BB.out⟩
    by_cases t1 : ty = 1
    · subst t1
      have hr : R = 0 := by rw [hR, if_pos (by simp), if_neg (by simp)]
      subst hr; clear hR d0 t2 t2z t0
      go_enter Tryz.func104, Tryz.ntmps104
      go_wp2_with fail
      go_ret
      exact ⟨rfl, BB.out⟩
    by_cases t5 : ty = 5
    · subst t5
      by_cases n32 : 4294967296 ≤ num
      · have nz : (4294967296 : Int) ≤ (num : Int) := by omega
        have hr : R = 1 := by rw [hR, if_pos (by simp), if_pos (by simp [n32])]
        subst hr; clear hR d0 t2 t2z t0 t1 n32
        go_enter Tryz.func104, Tryz.ntmps104
        go_wp2_with fail
        go_ret
        exact ⟨rfl, BB.out⟩
      · have nz : ¬ (4294967296 : Int) ≤ (num : Int) := by omega
        have hr : R = 0 := by rw [hR, if_pos (by simp), if_neg (by simp [n32])]
        subst hr; clear hR d0 t2 t2z t0 t1 n32
        go_enter Tryz.func104, Tryz.ntmps104
        go_wp2_with fail
        go_ret
        exact ⟨rfl, BB.out⟩
    have hr : R = 72 := by rw [hR, if_neg (by simp [t0, t1, t5])]
    have t0z : (ty == 0) = false := by simpa using t0
    have t1z : (ty == 1) = false := by simpa using t1
    have t5z : (ty == 5) = false := by simpa using t5
    subst hr; clear hR d0 t2 t0 t1 t5
    go_enter Tryz.func104, Tryz.ntmps104
    go_wp2_with fail
    go_ret
    exact ⟨rfl, BB.out⟩
end Go.Proofs.YtinngljphjdpoaaGreatDoor.Ea
