/- Fields read out of bytes: plain. No program in sight; no conditions. -/
import Derived.Test.YtinngljphjdpoaaGreatDoorJEp
import Derived.Test.YtinngljphjdpoaaGreatDoorJPl
namespace Go.Proofs.YtinngljphjdpoaaGreatDoor.Gp
open Go.Proofs.YtinngljphjdpoaaGreatDoor.Nz Go.Proofs.YtinngljphjdpoaaGreatDoor.Ep
set_option linter.unusedVariables false
set_option linter.unusedSimpArgs false
/-- A number at the front, from its i-th byte on: what is wrong, the number, how many bytes. -/
def nm : Nat → Nat → List UInt8 → Int × Nat × Nat
  | _, _, [] => (73, 0, 0)
  | i, acc, x :: t =>
    if (i = 9 ∧ 1 < x.toNat) ∨ (0 < i ∧ x.toNat = 0) then (70, 0, 0)
    else if x.toNat < 128 then (0, acc + x.toNat % 128 * 128 ^ i, i + 1)
    else nm (i + 1) (acc + x.toNat % 128 * 128 ^ i) t
theorem nm_nil (i acc : Nat) : nm i acc [] = (73, 0, 0) := rfl
theorem nm_cons (i acc : Nat) (x : UInt8) (t : List UInt8) : nm i acc (x :: t) = if (i = 9 ∧ 1 < x.toNat) ∨ (0 < i ∧ x.toNat = 0) then (70, 0, 0) else if x.toNat < 128 then (0, acc + x.toNat % 128 * 128 ^ i, i + 1) else nm (i + 1) (acc + x.toNat % 128 * 128 ^ i) t := rfl
/-- The number is that which is written so, and no other. -/
theorem nm_back : ∀ (l : List UInt8) (i acc v k : Nat), i ≤ 9 → acc < 128 ^ i → nm i acc l = (0, v, k) →
    i < k ∧ k - i ≤ l.length ∧ v < 18446744073709551616 ∧ ∃ m, v = acc + m * 128 ^ i ∧ l.take (k - i) = num m ∧ (0 < i → 0 < m)
  | [], i, acc, v, k, _, _, h => by simp [nm] at h
  | x :: t, i, acc, v, k, hi, ha, h => by
    rw [nm_cons] at h
    have hx : x.toNat < 256 := x.toNat_lt
    split at h
    · cases h
    · rename_i h1
      have hp : 128 ^ (i + 1) = 128 ^ i * 128 := Nat.pow_succ _ _
      have hmod : x.toNat % 128 < 128 := Nat.mod_lt _ (by omega)
      have hm1 : x.toNat % 128 * 128 ^ i ≤ 127 * 128 ^ i := Nat.mul_le_mul_right _ (by omega)
      split at h
      · rename_i h2
        simp only [Prod.mk.injEq] at h
        obtain ⟨-, rfl, rfl⟩ := h
        have he : x.toNat % 128 = x.toNat := Nat.mod_eq_of_lt h2
        refine ⟨by omega, by simp, ?_, x.toNat, by rw [he], ?_, by omega⟩
        · rw [he]
          rw [he] at hm1
          by_cases h9 : i = 9
          · subst h9
            have : x.toNat ≤ 1 := by omega
            have : x.toNat * 128 ^ 9 ≤ 1 * 128 ^ 9 := Nat.mul_le_mul_right _ this
            have e9 : 128 ^ 9 = 9223372036854775808 := by decide
            rw [e9] at *
            omega
          · have : 128 ^ i ≤ 128 ^ 8 := Nat.pow_le_pow_right (by omega) (by omega)
            have e9 : 128 ^ 8 = 72057594037927936 := by decide
            rw [e9] at this
            omega
        · rw [show i + 1 - i = 1 by omega, num_end (by omega)]
          simp
      · rename_i h2
        by_cases h9 : i = 9
        · exact absurd (.inl ⟨h9, by omega⟩) h1
        · have hlt : acc + x.toNat % 128 * 128 ^ i < 128 ^ (i + 1) := by omega
          obtain ⟨g1, g2, g3, m, g4, g5, g6⟩ := nm_back t (i + 1) _ v k (by omega) hlt h
          have hm := g6 (by omega)
          refine ⟨by omega, by simp; omega, g3, x.toNat % 128 + m * 128, ?_, ?_, fun _ => by omega⟩
          · rw [g4, hp, Nat.add_mul, Nat.add_assoc]
            congr 2
            rw [Nat.mul_comm (128 ^ i) 128, Nat.mul_assoc]
          · rw [show k - i = (k - (i + 1)) + 1 by omega, List.take_succ_cons, g5, num_step (n := x.toNat % 128 + m * 128) (by omega)]
            congr 1
            · apply UInt8.toNat_inj.1
              rw [UInt8.toNat_ofNat']
              omega
            · congr 1; omega
/-- What is written so is read so. -/
theorem nm_num : ∀ (j m i acc : Nat) (r : List UInt8), i + j = 9 → m * 128 ^ i < 18446744073709551616 → (0 < i → 0 < m) → nm i acc (num m ++ r) = (0, acc + m * 128 ^ i, i + sz m)
  | j, m, i, acc, r, hi, hv, hpos => by
    by_cases hm : 128 ≤ m
    · have hj : ∃ j', j = j' + 1 := by
        rcases j with _ | j
        · exfalso
          have : i = 9 := by omega
          subst this
          have e9 : 128 ^ 9 = 9223372036854775808 := by decide
          rw [e9] at hv
          omega
        · exact ⟨j, rfl⟩
      obtain ⟨j', rfl⟩ := hj
      have hx : (UInt8.ofNat (m % 128 + 128)).toNat = m % 128 + 128 := by rw [UInt8.toNat_ofNat']; omega
      rw [num_step hm, List.cons_append, nm_cons, hx, if_neg (by omega), if_neg (by omega)]
      have hp : 128 ^ (i + 1) = 128 ^ i * 128 := Nat.pow_succ _ _
      have hmm : m / 128 * 128 ^ (i + 1) ≤ m * 128 ^ i := by
        rw [hp, Nat.mul_comm (128 ^ i) 128, ← Nat.mul_assoc]
        exact Nat.mul_le_mul_right _ (Nat.div_mul_le_self _ _)
      rw [nm_num j' (m / 128) (i + 1) _ r (by omega) (by omega) (fun _ => by omega), sz_step hm]
      congr 2
      · rw [show (m % 128 + 128) % 128 = m % 128 by omega, hp, Nat.add_assoc]
        congr 1
        rw [Nat.mul_comm (128 ^ i) 128, ← Nat.mul_assoc, ← Nat.add_mul]
        congr 1
        omega
      · omega
    · have hx : (UInt8.ofNat m).toNat = m := by rw [UInt8.toNat_ofNat']; omega
      rw [num_end hm, List.singleton_append, nm_cons, hx]
      rw [if_neg, if_pos (by omega), sz_end hm, Nat.mod_eq_of_lt (by omega)]
      rintro (⟨h9, h1⟩ | ⟨h0, h1⟩)
      · subst h9
        have e9 : 128 ^ 9 = 9223372036854775808 := by decide
        rw [e9] at hv
        omega
      · have := hpos h0; omega
/-- A number at the front of bytes. -/
def rdn (l : List UInt8) : Int × Nat × Nat := nm 0 0 l
theorem rdn_back {l : List UInt8} {v k : Nat} (h : rdn l = (0, v, k)) : 0 < k ∧ k ≤ l.length ∧ v < 18446744073709551616 ∧ l.take k = num v := by
  obtain ⟨h1, h2, h3, m, h4, h5, -⟩ := nm_back l 0 0 v k (by omega) (by simp) h
  simp at h4
  subst h4
  exact ⟨h1, h2, h3, h5⟩
theorem rdn_len {l : List UInt8} {v k : Nat} (h : rdn l = (0, v, k)) : k = sz v := by
  obtain ⟨-, h2, -, h4⟩ := rdn_back h
  have := congrArg List.length h4
  unfold sz
  rw [← this, List.length_take]
  omega
theorem rdn_num (n : Nat) (r : List UInt8) (h : n < 18446744073709551616) : rdn (num n ++ r) = (0, n, sz n) := by
  have := nm_num 9 n 0 0 r (by omega) (by simpa using h) (fun h => by omega)
  simpa [rdn] using this
theorem nm_bad : ∀ (l : List UInt8) (i acc : Nat) (e : Int) (v k : Nat), nm i acc l = (e, v, k) → e ≠ 0 → v = 0 ∧ k = 0 ∧ (e = 73 ∨ e = 70)
  | [], i, acc, e, v, k, h, h0 => by simp only [nm, Prod.mk.injEq] at h; exact ⟨h.2.1.symm, h.2.2.symm, .inl h.1.symm⟩
  | x :: t, i, acc, e, v, k, h, h0 => by
    rw [nm_cons] at h
    split at h
    · simp only [Prod.mk.injEq] at h; exact ⟨h.2.1.symm, h.2.2.symm, .inr h.1.symm⟩
    · split at h
      · simp only [Prod.mk.injEq] at h; exact absurd h.1.symm h0
      · exact nm_bad t _ _ e v k h h0
theorem rdn_bad {l : List UInt8} {e : Int} {v k : Nat} (h : rdn l = (e, v, k)) (h0 : e ≠ 0) : v = 0 ∧ k = 0 ∧ (e = 73 ∨ e = 70) := nm_bad l 0 0 e v k h h0
/-- A number of n bytes, the lowest first. -/
def low' : List UInt8 → Nat
  | [] => 0
  | x :: t => x.toNat + 256 * low' t
/-- A field's head at the front: what is wrong, number and type, how many bytes. -/
def head (l : List UInt8) (count : Nat) (last : Int) : Int × Nat × Nat × Nat :=
  let r := rdn l
  if r.1 ≠ 0 then (r.1, 0, 0, 0)
  else if count = 64 then (2, 0, 0, 0)
  else if r.2.1 / 8 < 1 ∨ 536870911 < r.2.1 / 8 ∨ ((r.2.1 / 8 : Nat) : Int) ≤ last then (71, 0, 0, 0)
  else if r.2.1 % 8 = 2 ∨ r.2.1 % 8 = 0 ∨ r.2.1 % 8 = 1 ∨ r.2.1 % 8 = 5 then (0, r.2.1 / 8, r.2.1 % 8, r.2.2)
  else (72, 0, 0, 0)
/-- A field's value at the front: what is wrong, the number, the bytes, how many bytes. -/
def val (ty : Nat) (l : List UInt8) : Int × Nat × List UInt8 × Nat :=
  if ty = 0 then (let r := rdn l; if r.1 ≠ 0 then (r.1, 0, [], 0) else (0, r.2.1, [], r.2.2))
  else if ty = 2 then (let r := rdn l; if r.1 ≠ 0 then (r.1, 0, [], 0) else if l.length - r.2.2 < r.2.1 then (73, 0, [], 0) else (0, 0, (l.drop r.2.2).take r.2.1, r.2.2 + r.2.1))
  else if ty = 5 then (if l.length < 4 then (73, 0, [], 0) else (0, low' (l.take 4), [], 4))
  else (if l.length < 8 then (73, 0, [], 0) else (0, low' (l.take 8), [], 8))
/-- What came of reading fields: these, the first error's place behind the last of them, the error. -/
structure Dr where
  fs : List Ep.Fd
  off : Nat
  err : Int
/-- The field at the front: what is wrong and where, or the field and how many bytes. -/
def fld (l : List UInt8) (count : Nat) (last : Int) : Int × Nat × Ep.Fd × Nat :=
  let h := head l count last
  if h.1 ≠ 0 then (h.1, 0, ⟨0, 0, 0, []⟩, 0)
  else
    let v := val h.2.2.1 (l.drop h.2.2.2)
    if v.1 ≠ 0 then (v.1, h.2.2.2, ⟨0, 0, 0, []⟩, 0)
    else (0, 0, ⟨(h.2.1 : Nat), (h.2.2.1 : Nat), v.2.1, v.2.2.1⟩, h.2.2.2 + v.2.2.2)
/-- The fields at the front, up to the first fault. -/
def dec : Nat → List UInt8 → Nat → Int → Dr
  | 0, _, _, _ => ⟨[], 0, 0⟩
  | k + 1, l, count, last =>
    if l.length = 0 then ⟨[], 0, 0⟩
    else if (fld l count last).1 ≠ 0 then ⟨[], (fld l count last).2.1, (fld l count last).1⟩
    else ⟨(fld l count last).2.2.1 :: (dec k (l.drop (fld l count last).2.2.2) (count + 1) (fld l count last).2.2.1.no).fs,
      (dec k (l.drop (fld l count last).2.2.2) (count + 1) (fld l count last).2.2.1.no).off, (dec k (l.drop (fld l count last).2.2.2) (count + 1) (fld l count last).2.2.1.no).err⟩
end Go.Proofs.YtinngljphjdpoaaGreatDoor.Gp
/- The program's add, fixed, of, wrong. -/
namespace Go.Proofs.YtinngljphjdpoaaGreatDoor.Ea
open Go Go.RowKit Go.Proofs.YtinngljphjdpoaaGreatDoor.Pa Go.Proofs.YtinngljphjdpoaaGreatDoor.Pb Go.Proofs.YtinngljphjdpoaaGreatDoor.Pf Go.Proofs.YtinngljphjdpoaaGreatDoor.Nz Go.Proofs.YtinngljphjdpoaaGreatDoor.Nm
set_option linter.unusedVariables false
set_option linter.unusedSimpArgs false
theorem vb (w : World) (o : Obj) : Below w.heap.size w (w.alloc o) := (Below.refl _ _).alloc (Nat.le_refl _) _
/-- What grew: the row v alone, which is v' now. -/
def Gr (w : World) (v : Value) (w' : World) (v' : Value) : Prop := w.grownBy w' v.ownBlock ∧ (v'.ownBlock = v.ownBlock ∨ ∃ b, v'.ownBlock = some b ∧ w.heap.size ≤ b)
theorem Gr.refl (w : World) (v : Value) : Gr w v w v := ⟨⟨rfl, rfl, rfl, Nat.le_refl _, fun _ _ _ => rfl⟩, .inl rfl⟩
theorem Gr.trans {w w' w'' : World} {v v' v'' : Value} (h : Gr w v w' v') (k : Gr w' v' w'' v'') : Gr w v w'' v'' := by
  obtain ⟨⟨a1, a2, a3, a4, a5⟩, a6⟩ := h
  obtain ⟨⟨b1, b2, b3, b4, b5⟩, b6⟩ := k
  refine ⟨⟨b1.trans a1, b2.trans a2, b3.trans a3, Nat.le_trans a4 b4, fun i hi hne => ?_⟩, ?_⟩
  · have hne' : v'.ownBlock ≠ some i := by
      rcases a6 with e | ⟨b, e, hb⟩
      · rw [e]; exact fun h => hne h.symm
      · rw [e]; intro h; cases h; omega
    exact (b5 i (by omega) (Ne.symm hne')).trans (a5 i hi hne)
  · rcases b6 with e | ⟨b, e, hb⟩
    · rw [e]; exact a6
    · exact .inr ⟨b, e, Nat.le_trans a4 hb⟩
theorem gr_below {w w' : World} {v : Value} (h : Below w.heap.size w w') : Gr w v w' v := ⟨grown_below h _, .inl rfl⟩
theorem gr_app {w w' : World} {v v' : Value} {c : Prop} {c' : Prop} (h : w.grownBy w' v.ownBlock) (k : v'.ownBlock = v.ownBlock ∧ c ∨ v'.ownBlock = some w.heap.size ∧ c') : Gr w v w' v' :=
  ⟨h, k.elim (fun h => .inl h.1) (fun h => .inr ⟨_, h.1, Nat.le_refl _⟩)⟩
theorem Gr.toBelow {base : Nat} {w w' : World} {v v' : Value} {l : List UInt8} (h : Gr w v w' v') (ho : Own w base 5 v l) (hb : base ≤ w.heap.size) : Below base w w' := below_grown (Below.refl _ _) ho (Nat.le_refl _) hb h.1
theorem Gr.hp {w w' : World} {v v' : Value} {g : Nat} {o : Obj} (h : Gr w v w' v') (hg : Pa.hp w g = some o) (hne : v.ownBlock ≠ some g) : Pa.hp w' g = some o := by
  have hlt : g < w.heap.size := (Array.getElem?_eq_some_iff.1 hg).1
  exact (h.1.block g hlt (Ne.symm hne)).trans hg
set_option maxRecDepth 100000 in
/-- add: in the row's own room. -/
theorem add {base : Nat} (v : Value) (l : List UInt8) (n : Nat) (hn : n < 18446744073709551616) (w : World) (hv : Own w base 5 v l) (hb : base ≤ w.heap.size) (hl : l.length ≤ 100000000) :
    Calls Tryz.prog 137 #[v, .int .u64 n] w fun e w' => ∃ v', e = .returned v' ∧ Own w' base 5 v' (l ++ num n) ∧ Gr w v w' v' := by
  have HV := Lib.hid hv; have HN := Lib.hid hn; clear hv hn
  go_enter Tryz.func137, Tryz.ntmps137
  go_wp2_with fail
  go_loopw [0, 1] (fun t s wr => ∃ (m : Nat) (pre : List UInt8), m < 18446744073709551616 ∧ pre ++ num m = num n ∧ s = .int .u64 m ∧ Own wr base 5 t (l ++ pre) ∧ Gr w v wr t) (fun t s _ => (intOf s).toNat)
  case atStart => exact ⟨n, [], HN.out, rfl, rfl, by simpa using HV.out, Gr.refl _ _⟩
  case round =>
    obtain ⟨m, pre, hm, hp, rfl, ho, hbw⟩ := hrel
    have hpl : pre.length ≤ 10 := by have := congrArg List.length hp; have h2 := sz_u64 n HN.out; simp only [List.length_append] at this; unfold sz at h2; omega
    have hq : IntKind.u64.wrap ((m : Int) / 128) = ((m / 128 : Nat) : Int) := by rw [wu64 (by omega) (by omega)]; omega
    have HP := Lib.hid hp; have HM := Lib.hid hm; have HO := Lib.hid ho; clear hp hm ho
    have hbs := hbw.1.size
    by_cases h : 128 ≤ m
    · have HY := Lib.hid (show ((m : Int) % 128 + 128) = ((UInt8.ofNat (m % 128 + 128)).toNat : Int) by rw [← of_nat8 (by omega)]; omega)
      go_wp2_with (at_builtin; refine wp_app (.tmp 9) (.tmp 14) Nm.u8 rfl rfl rfl rfl (HO.out.alloc _) (rd_box wr _ _ _ HY.out) (by simp; omega) (by simp; omega) ?_; intro v2 w2 ho2 hg2 hc2)
      have hb2 := Lib.hid ((hbw.trans (gr_below (vb _ _))).trans (gr_app hg2 hc2))
      clear hg2 hc2
      go_wp2
      go_roundw
      case rel => exact ⟨m / 128, pre ++ [UInt8.ofNat (m % 128 + 128)], by have := HM.out; omega, by rw [← HP.out, num_step h]; simp, rfl, by simpa using ho2, hb2.out⟩
      case measure => simp [intOf]; omega
    · have HY := Lib.hid (show (m : Int) = ((UInt8.ofNat m).toNat : Int) from of_nat8 (by omega))
      go_wp2_with (at_builtin; refine wp_app (.tmp 16) (.tmp 19) Nm.u8 rfl rfl rfl rfl (HO.out.alloc _) (rd_box wr _ _ _ HY.out) (by simp; omega) (by simp; omega) ?_; intro v2 w2 ho2 hg2 hc2)
      have hb2 := Lib.hid ((hbw.trans (gr_below (vb _ _))).trans (gr_app hg2 hc2))
      clear hg2 hc2
      go_wp2
      go_ret
      refine ⟨v2, rfl, ?_, hb2.out⟩
      rw [← HP.out, num_end h]
      simpa using ho2
set_option maxRecDepth 100000 in
/-- fixed: so many bytes, the lowest first. -/
theorem fixed {base : Nat} (v : Value) (l : List UInt8) (n k : Nat) (hn : n < 18446744073709551616) (hk : k ≤ 8) (w : World) (hv : Own w base 5 v l) (hb : base ≤ w.heap.size) (hl : l.length ≤ 100000000) :
    Calls Tryz.prog 139 #[v, .int .u64 n, .int .i64 (k : Int)] w fun e w' => ∃ v', e = .returned v' ∧ Own w' base 5 v' (l ++ Ep.low n k) ∧ Gr w v w' v' := by
  have HV := Lib.hid hv; have HN := Lib.hid hn; clear hv hn
  go_enter Tryz.func139, Tryz.ntmps139
  go_wp2_with fail
  go_loopw [0, 1, 8] (fun t s u wr => ∃ (i : Nat), i ≤ k ∧ u = .int .i64 i ∧ s = .int .u64 ((n / 256 ^ i : Nat) : Int) ∧ Own wr base 5 t (l ++ Ep.low n i) ∧ Gr w v wr t) (fun _ _ u _ => k - (intOf u).toNat)
  case atStart => exact ⟨0, by omega, rfl, by simp, by simpa [Ep.low] using HV.out, Gr.refl _ _⟩
  case round =>
    obtain ⟨i, hi, rfl, rfl, ho, hbw⟩ := hrel
    have hbs := hbw.1.size
    have hll := Ep.low_length n i
    have hsn := Ep.low_snoc i n
    have hnx : n / 256 ^ (i + 1) = n / 256 ^ i / 256 := by rw [Nat.div_div_eq_div_mul, Nat.pow_succ]
    have hlt : n / 256 ^ i < 18446744073709551616 := Nat.lt_of_le_of_lt (Nat.div_le_self _ _) HN.out
    generalize n / 256 ^ i = q at *
    have HO := Lib.hid ho; clear ho
    by_cases h : i < k
    · have HY := Lib.hid (show ((q : Int) % 256) = ((UInt8.ofNat (q % 256)).toNat : Int) by rw [← of_nat8 (by omega)]; omega)
      have hw8 : IntKind.u8.wrap (q : Int) = (q : Int) % 256 := by rw [IntKind.wrap_u8]
      have HNX := Lib.hid hnx; have HSN := Lib.hid hsn; clear hnx hsn
      go_wp2_with (at_builtin; refine wp_app (.tmp 10) (.tmp 13) Nm.u8 rfl rfl rfl rfl (HO.out.alloc _) (rd_box wr _ _ _ HY.out) (by simp; omega) (by simp; omega) ?_; intro v2 w2 ho2 hg2 hc2)
      have hb2 := Lib.hid ((hbw.trans (gr_below (vb _ _))).trans (gr_app hg2 hc2))
      clear hg2 hc2
      go_wp2
      go_roundw
      case rel => exact ⟨i + 1, by omega, by go_num, by rw [HNX.out]; rfl, by rw [HSN.out]; simpa using ho2, hb2⟩
      case measure => simp [intOf]; omega
    · obtain rfl : i = k := by omega
      go_wp2
      go_ret
      exact ⟨_, rfl, HO.out, hbw⟩
set_option maxRecDepth 100000 in
theorem of_ (no ty : Int) (num : Nat) (A : Option Addr) (dl c : Nat) (h1 : 0 ≤ no) (h2 : no ≤ 536870911) (h3 : 0 ≤ ty) (h4 : ty ≤ 7) (w : World) :
    Calls Tryz.prog 138 #[.agg #[.int .i64 no, .int .i64 ty, .int .u64 (num : Int), .slice A dl c]] w fun e w' => e = .returned (.int .u64 ((8 * no.toNat + ty.toNat : Nat) : Int)) ∧ Below w.heap.size w w' := by
  have BB := Lib.hid (vb w (.cells #[.int .i64 no, .int .i64 ty, .int .u64 (num : Int), .slice A dl c] 140))
  obtain ⟨a, rfl⟩ := Int.eq_ofNat_of_zero_le h1
  obtain ⟨b, rfl⟩ := Int.eq_ofNat_of_zero_le h3
  have hq : IntKind.u64.wrap (8 * (a : Int) + (b : Int)) = 8 * (a : Int) + (b : Int) := wu64 (by omega) (by omega)
  go_enter Tryz.func138, Tryz.ntmps138
  go_wp2_with fail
  go_ret
  exact ⟨by simp, BB.out⟩
set_option maxHeartbeats 1000000 in
set_option maxRecDepth 100000 in
theorem wrong (no ty last : Int) (num : Nat) (A : Option Addr) (dl c : Nat) (data : List UInt8) (hdl : dl = data.length) (hd : dl ≤ 100000000) (w : World) :
    Calls Tryz.prog 104 #[.agg #[.int .i64 no, .int .i64 ty, .int .u64 (num : Int), .slice A dl c], .int .i64 last] w fun e w' => e = .returned (.int .i64 (Ep.wrong ⟨no, ty, num, data⟩ last)) ∧ Below w.heap.size w w' := by
  have BB := Lib.hid (vb w (.cells #[.int .i64 no, .int .i64 ty, .int .u64 (num : Int), .slice A dl c] 140))
  obtain ⟨R, hR⟩ : ∃ R, R = Ep.wrong ⟨no, ty, num, data⟩ last := ⟨_, rfl⟩
  rw [← hR]
  unfold Ep.wrong at hR
  simp only [← hdl] at hR
  clear hdl
  by_cases c1 : no < 1
  · have hr : R = 71 := by rw [hR, if_pos (.inl c1)]
    subst hr; clear hR
    go_enter Tryz.func104, Tryz.ntmps104
    go_wp2_with fail
    go_ret
    exact ⟨rfl, BB.out⟩
  by_cases c2 : 536870911 < no
  · have hr : R = 71 := by rw [hR, if_pos (.inr (.inl c2))]
    subst hr; clear hR
    go_enter Tryz.func104, Tryz.ntmps104
    go_wp2_with fail
    go_ret
    exact ⟨rfl, BB.out⟩
  by_cases c3 : no ≤ last
  · have hr : R = 71 := by rw [hR, if_pos (.inr (.inr c3))]
    subst hr; clear hR
    go_enter Tryz.func104, Tryz.ntmps104
    go_wp2_with fail
    go_ret
    exact ⟨rfl, BB.out⟩
  rw [if_neg (by omega)] at hR
  by_cases t2 : ty = 2
  · subst t2
    rw [if_pos rfl] at hR
    by_cases n0 : num ≠ 0
    · have hr : R = 1 := by rw [hR, if_pos n0]
      have nz : ((num : Int) != 0) = true := by simp; omega
      subst hr; clear hR n0
      go_enter Tryz.func104, Tryz.ntmps104
      go_wp2_with fail
      go_ret
      exact ⟨rfl, BB.out⟩
    · have hr : R = 0 := by rw [hR, if_neg n0]
      have nz : ((num : Int) != 0) = false := by simp; omega
      subst hr; clear hR n0
      go_enter Tryz.func104, Tryz.ntmps104
      go_wp2_with fail
      go_ret
      exact ⟨rfl, BB.out⟩
  rw [if_neg t2] at hR
  have t2z : (ty == 2) = false := by simpa using t2
  by_cases d0 : dl ≠ 0
  · have dz : (0 : Int) < (dl : Int) := by omega
    by_cases t0 : ty = 0
    · subst t0
      have hr : R = 1 := by rw [hR, if_pos (by simp), if_pos (.inl d0)]
      subst hr; clear hR d0 t2 t2z
      go_enter Tryz.func104, Tryz.ntmps104
      go_wp2_with fail
      go_ret
      exact ⟨rfl, BB.out⟩
    by_cases t1 : ty = 1
    · subst t1
      have hr : R = 1 := by rw [hR, if_pos (by simp), if_pos (.inl d0)]
      subst hr; clear hR d0 t2 t2z t0
      go_enter Tryz.func104, Tryz.ntmps104
      go_wp2_with fail
      go_ret
      exact ⟨rfl, BB.out⟩
    by_cases t5 : ty = 5
    · subst t5
      have hr : R = 1 := by rw [hR, if_pos (by simp), if_pos (.inl d0)]
      subst hr; clear hR d0 t2 t2z t0 t1
      go_enter Tryz.func104, Tryz.ntmps104
      go_wp2_with fail
      go_ret
      exact ⟨rfl, BB.out⟩
    have hr : R = 72 := by rw [hR, if_neg (by simp [t0, t1, t5])]
    have t0z : (ty == 0) = false := by simpa using t0
    have t1z : (ty == 1) = false := by simpa using t1
    have t5z : (ty == 5) = false := by simpa using t5
    subst hr; clear hR d0 t2 t0 t1 t5
    go_enter Tryz.func104, Tryz.ntmps104
    go_wp2_with fail
    go_ret
    exact ⟨rfl, BB.out⟩
  · obtain rfl : dl = 0 := by omega
    by_cases t0 : ty = 0
    · subst t0
      have hr : R = 0 := by rw [hR, if_pos (by simp), if_neg (by simp)]
      subst hr; clear hR d0 t2 t2z
      go_enter Tryz.func104, Tryz.ntmps104
      go_wp2_with fail
      go_ret
      exact ⟨rfl, BB.out⟩
    by_cases t1 : ty = 1
    · subst t1
      have hr : R = 0 := by rw [hR, if_pos (by simp), if_neg (by simp)]
      subst hr; clear hR d0 t2 t2z t0
      go_enter Tryz.func104, Tryz.ntmps104
      go_wp2_with fail
      go_ret
      exact ⟨rfl, BB.out⟩
    by_cases t5 : ty = 5
    · subst t5
      by_cases n32 : 4294967296 ≤ num
      · have nz : (4294967296 : Int) ≤ (num : Int) := by omega
        have hr : R = 1 := by rw [hR, if_pos (by simp), if_pos (by simp [n32])]
        subst hr; clear hR d0 t2 t2z t0 t1 n32
        go_enter Tryz.func104, Tryz.ntmps104
        go_wp2_with fail
        go_ret
        exact ⟨rfl, BB.out⟩
      · have nz : ¬ (4294967296 : Int) ≤ (num : Int) := by omega
        have hr : R = 0 := by rw [hR, if_pos (by simp), if_neg (by simp [n32])]
        subst hr; clear hR d0 t2 t2z t0 t1 n32
        go_enter Tryz.func104, Tryz.ntmps104
        go_wp2_with fail
        go_ret
        exact ⟨rfl, BB.out⟩
    have hr : R = 72 := by rw [hR, if_neg (by simp [t0, t1, t5])]
    have t0z : (ty == 0) = false := by simpa using t0
    have t1z : (ty == 1) = false := by simpa using t1
    have t5z : (ty == 5) = false := by simpa using t5
    subst hr; clear hR d0 t2 t0 t1 t5
    go_enter Tryz.func104, Tryz.ntmps104
    go_wp2_with fail
    go_ret
    exact ⟨rfl, BB.out⟩
end Go.Proofs.YtinngljphjdpoaaGreatDoor.Ea
/- The program's Number. -/
namespace Go.Proofs.YtinngljphjdpoaaGreatDoor.Gn
open Go Go.RowKit Go.Proofs.YtinngljphjdpoaaGreatDoor.Pa Go.Proofs.YtinngljphjdpoaaGreatDoor.Pb Go.Proofs.YtinngljphjdpoaaGreatDoor.Pf Go.Proofs.YtinngljphjdpoaaGreatDoor.Nz Go.Proofs.YtinngljphjdpoaaGreatDoor.Nm Go.Proofs.YtinngljphjdpoaaGreatDoor.Gp
set_option linter.unusedVariables false
set_option linter.unusedSimpArgs false
/-- Where a number ends. -/
def numEnd (e : Int) (a k : Nat) : Int := if e = 0 then ((a + k : Nat) : Int) else 0
theorem drop_at {b : List UInt8} {i : Nat} (h : i < b.length) : b.drop i = b[i] :: b.drop (i + 1) := List.drop_eq_getElem_cons h
theorem or_shl (acc X i : Nat) (hi : i ≤ 9) (ha : acc < 128 ^ i) (hs : X % 128 * 128 ^ i < 18446744073709551616) : bits .or .u64 (acc : Int) (IntKind.u64.wrap ((X : Int) % 128 * 2 ^ (7 * i))) = ((acc + X % 128 * 128 ^ i : Nat) : Int) := by
  have hpow : 128 ^ i = 2 ^ (7 * i) := by rw [show (128 : Nat) = 2 ^ 7 from rfl, ← Nat.pow_mul]
  have h1 : (X : Int) % 128 * 2 ^ (7 * i) = ((X % 128 * 128 ^ i : Nat) : Int) := by rw [hpow]; push_cast; rfl
  rw [h1, IntKind.wrap_u64, Int.emod_eq_of_lt (by omega) (by omega)]
  have hacc : acc < 18446744073709551616 := by
    have h9 : 128 ^ i ≤ 128 ^ 9 := Nat.pow_le_pow_right (by omega) hi
    have e9 : 128 ^ 9 = 9223372036854775808 := by decide
    rw [e9] at h9
    omega
  rw [u64_or_nat _ _ hacc hs]
  have := Nat.shiftLeft_add_eq_or_of_lt (i := 7 * i) (b := acc) (by rw [← hpow]; exact ha) (X % 128)
  rw [Nat.shiftLeft_eq, ← hpow] at this
  rw [Nat.or_comm, ← this, Nat.add_comm]
theorem wr9 (X : Nat) (hx : X < 128) : IntKind.u64.wrap ((X : Int) % 128 * 2 ^ (7 * 9)) = IntKind.u64.wrap ((X : Int) * 9223372036854775808) := by
  rw [show (2 : Int) ^ (7 * 9) = 9223372036854775808 by decide, show (X : Int) % 128 = X by omega]
set_option maxHeartbeats 1000000 in
set_option maxRecDepth 100000 in
theorem number (v : Value) (b : List UInt8) (at_ : Nat) (w : World) (hv : Rd w v b) (ha : at_ ≤ b.length) (hb : b.length ≤ 100000000) (e : Int) (n k : Nat) (hr : rdn (b.drop at_) = (e, n, k)) :
    Calls Tryz.prog 156 #[v, .int .i64 (at_ : Int)] w fun e' w' => e' = .returned (.tuple #[.int .u64 (n : Int), .int .i64 (numEnd e at_ k), .int .i64 e]) ∧ w' = w := by
  have hvv := hv
  obtain ⟨A, c, rfl, -⟩ := hv
  have HV := Lib.hid hvv; have HR := Lib.hid hr; have HBL := Lib.hid hb; clear hvv hr
  go_enter Tryz.func156, Tryz.ntmps156
  go_wp2_with fail
  go_loop [7, 18] (fun t s => ∃ (i acc : Nat), i ≤ 9 ∧ t = .int .u64 acc ∧ s = .int .i64 i ∧ acc < 128 ^ i ∧ at_ + i ≤ b.length ∧ nm i acc (b.drop (at_ + i)) = rdn (b.drop at_)) (fun _ s => 10 - (intOf s).toNat)
  case atStart => exact ⟨0, 0, by omega, rfl, rfl, by simp, by omega, rfl⟩
  case round =>
    obtain ⟨i, acc, hi, rfl, rfl, hacc, hle, hnm⟩ := hrel
    have HACC := Lib.hid hacc; clear hacc
    by_cases hend : at_ + i = b.length
    · have hd : b.drop (at_ + i) = [] := List.drop_eq_nil_of_le (by omega)
      rw [hd, nm_nil, HR.out] at hnm
      simp only [Prod.mk.injEq] at hnm
      obtain ⟨rfl, rfl, rfl⟩ := hnm
      have hend' : (at_ : Int) + (i : Int) = (b.length : Int) := by omega
      have hlt : (i : Int) < 10 := by omega
      go_wp2_with fail
      go_ret3
      exact ⟨by simp [numEnd], rfl⟩
    · have hlt : at_ + i < b.length := by omega
      obtain ⟨ad, rfl, hcell⟩ := HV.out.at_ (at_ + i) hlt
      have hxl : b[at_ + i].toNat < 256 := UInt8.toNat_lt _
      rw [drop_at hlt, nm_cons] at hnm
      obtain ⟨X, hX⟩ : ∃ X, X = b[at_ + i].toNat := ⟨_, rfl⟩
      rw [← hX] at hnm hcell hxl
      have hj : ((at_ : Int) + (i : Int)).toNat = at_ + i := by omega
      have HNM := Lib.hid hnm
      have hi10 : (i : Int) < 10 := by omega
      have hne : ¬ (at_ : Int) + (i : Int) = (b.length : Int) := by omega
      have hlt2 : (at_ : Int) + (i : Int) < (b.length : Int) := by omega
      clear hnm
      by_cases hbad : (i = 9 ∧ 1 < X) ∨ (0 < i ∧ X = 0)
      · have hn := HNM.out
        rw [if_pos hbad, HR.out] at hn
        simp only [Prod.mk.injEq] at hn
        obtain ⟨rfl, rfl, rfl⟩ := hn
        clear hX HNM HACC HV
        rcases hbad with ⟨rfl, h1⟩ | ⟨h0, rfl⟩
        · have hc9 : w.cell? ⟨ad.block, ad.off + (at_ + 8 + 1), none⟩ = some (.int .u8 (X : Int)) := hcell
          go_wp2_with fail
          all_goals (go_ret3; exact ⟨by simp [numEnd], rfl⟩)
        · by_cases h9 : i = 9
          · subst h9
            have hc9 : w.cell? ⟨ad.block, ad.off + (at_ + 8 + 1), none⟩ = some (.int .u8 ((0 : Nat) : Int)) := hcell
            go_wp2_with fail
            all_goals (go_ret3; exact ⟨by simp [numEnd], rfl⟩)
          · go_wp2_with fail
            all_goals (go_ret3; exact ⟨by simp [numEnd], rfl⟩)
      · have hn := HNM.out
        rw [if_neg hbad] at hn
        have hmod : X % 128 < 128 := Nat.mod_lt _ (by omega)
        have hpow : 128 ^ i = 2 ^ (7 * i) := by rw [show (128 : Nat) = 2 ^ 7 from rfl, ← Nat.pow_mul]
        have hsh : X % 128 * 128 ^ i < 18446744073709551616 := by
          by_cases h9 : i = 9
          · have hX1 : X ≤ 1 := by omega
            have : X % 128 * 128 ^ i ≤ 1 * 128 ^ i := Nat.mul_le_mul_right _ (by omega)
            have e9 : 128 ^ 9 = 9223372036854775808 := by decide
            rw [h9, e9] at this
            rw [h9, e9]
            omega
          · have h8 : 128 ^ i ≤ 128 ^ 8 := Nat.pow_le_pow_right (by omega) (by omega)
            have e8 : 128 ^ 8 = 72057594037927936 := by decide
            rw [e8] at h8
            have : X % 128 * 128 ^ i ≤ 127 * 72057594037927936 := Nat.mul_le_mul (by omega) h8
            omega
        have ho1 := or_shl acc X i hi HACC.out hsh
        have hacc2 : acc + X % 128 * 128 ^ i < 128 ^ (i + 1) := by
          have : X % 128 * 128 ^ i ≤ 127 * 128 ^ i := Nat.mul_le_mul_right _ (by omega)
          have := HACC.out
          rw [Nat.pow_succ]; omega
        obtain ⟨acc', hacc'⟩ : ∃ y, y = acc + X % 128 * 128 ^ i := ⟨_, rfl⟩
        rw [← hacc'] at hn ho1 hacc2
        have HA := Lib.hid hacc2; have HO1 := Lib.hid ho1
        have hbad1 : ¬ (i = 9 ∧ 1 < X) := fun h => hbad (.inl h)
        have hbad2 : ¬ (0 < i ∧ X = 0) := fun h => hbad (.inr h)
        clear hX HNM HACC HV hacc' hacc2 hpow hsh hbad ho1
        by_cases hx : X < 128
        · rw [if_pos hx, HR.out] at hn
          simp only [Prod.mk.injEq] at hn
          obtain ⟨rfl, rfl, rfl⟩ := hn
          by_cases h9 : i = 9
          · subst h9
            have ho2 := HO1.out
            simp only [wr9 X hx] at ho2
            have hX1 : X ≤ 1 := by omega
            have hc9 : w.cell? ⟨ad.block, ad.off + (at_ + 8 + 1), none⟩ = some (.int .u8 (X : Int)) := hcell
            have HO2 := Lib.hid ho2
            clear ho2 HO1 HA hcell
            go_wp2_with fail
            have hw9 : IntKind.u64.wrap ((X : Int) * 9223372036854775808) = (X : Int) % 128 * 9223372036854775808 := by
              rw [IntKind.wrap_u64]; omega
            all_goals (go_ret3; refine ⟨?_, rfl⟩; simp [numEnd])
            all_goals (refine ⟨?_, by omega⟩; rw [← hw9]; exact HO2.out)
          · go_wp2_with fail
            all_goals (go_ret3; refine ⟨?_, rfl⟩; simp [numEnd])
            all_goals exact ⟨HO1.out, by omega⟩
        · rw [if_neg hx] at hn
          have h9 : ¬ i = 9 := fun h => hbad1 ⟨h, by omega⟩
          have HNN := Lib.hid hn; clear hn
          go_wp2_with fail
          all_goals go_round
          all_goals first | (case rel => exact ⟨_, _, _, _, _, _, _, ⟨i + 1, by omega, acc', rfl, rfl, HA.out, by omega, by rw [show at_ + (i + 1) = at_ + i + 1 by omega]; exact HNN.out⟩, rfl, rfl, rfl, by rw [HO1.out], rfl, rfl, by simp⟩) | (case measure => simp [intOf]; omega) | trace_state
end Go.Proofs.YtinngljphjdpoaaGreatDoor.Gn
