/- A number's bytes, and how many they are: plain. -/
import Derived.Test.YtinngljphjdpoaaDoorJPl
import Derived.Test.YtinngljphjdpoaaDoorProg
namespace Go.Proofs.YtinngljphjdpoaaDoor.Nz
set_option linter.unusedVariables false

/-- A number's bytes. -/
def num (n : Nat) : List UInt8 := if h : 128 ≤ n then UInt8.ofNat (n % 128 + 128) :: num (n / 128) else [UInt8.ofNat n]
termination_by n
decreasing_by omega
theorem num_step {n : Nat} (h : 128 ≤ n) : num n = UInt8.ofNat (n % 128 + 128) :: num (n / 128) := by
  rw [num, dif_pos h]
theorem num_end {n : Nat} (h : ¬ 128 ≤ n) : num n = [UInt8.ofNat n] := by rw [num, dif_neg h]
/-- How many they are. -/
def sz (n : Nat) : Nat := (num n).length
theorem sz_step {n : Nat} (h : 128 ≤ n) : sz n = sz (n / 128) + 1 := by simp [sz, num_step h]
theorem sz_end {n : Nat} (h : ¬ 128 ≤ n) : sz n = 1 := by simp [sz, num_end h]
theorem sz_pos (n : Nat) : 0 < sz n := by
  by_cases h : 128 ≤ n
  · rw [sz_step h]; omega
  · rw [sz_end h]; omega
theorem sz_le : ∀ (k n : Nat), n < 128 ^ (k + 1) → sz n ≤ k + 1
  | 0, n, h => by rw [sz_end (by omega)]; omega
  | k + 1, n, h => by
    by_cases hn : 128 ≤ n
    · rw [sz_step hn]
      have := sz_le k (n / 128) (by rw [Nat.div_lt_iff_lt_mul (by omega), ← Nat.pow_succ]; exact h)
      omega
    · rw [sz_end hn]; omega
theorem sz_u64 (n : Nat) (h : n < 18446744073709551616) : sz n ≤ 10 := sz_le 9 n (by omega)
end Go.Proofs.YtinngljphjdpoaaDoor.Nz
/- How many bytes a number has, and its bytes: the program's Size, the reference's Put and Size. -/
namespace Go.Proofs.YtinngljphjdpoaaDoor.Nm
open Go Go.RowKit Go.Proofs.YtinngljphjdpoaaDoor.Pa Go.Proofs.YtinngljphjdpoaaDoor.Pb Go.Proofs.YtinngljphjdpoaaDoor.Nz
set_option linter.unusedVariables false
set_option linter.unusedSimpArgs false

theorem u8 : U8 Tryd.prog 24 5 := ⟨Tryd.underlying24, by kernel_rfl⟩

set_option maxRecDepth 100000 in
theorem size (n : Nat) (hn : n < 18446744073709551616) (w : World) : Calls Tryd.prog 53 #[.int .u64 n] w fun e w' => e = .returned (.int .i64 (sz n : Nat)) ∧ w = w' := by
  go_enter Tryd.func53, Tryd.ntmps53
  go_wp2
  go_loop [0, 3] (fun s t => ∃ m k : Nat, m < 18446744073709551616 ∧ sz m ≤ 10 ∧ k ≤ 10 ∧ sz m + k = sz n + 1 ∧ s = .int .u64 m ∧ t = .int .i64 k) (fun s t => (intOf s).toNat)
  case atStart => exact ⟨n, 1, hn, sz_u64 n hn, by omega, rfl, rfl, rfl⟩
  case round =>
    obtain ⟨m, k, hm, hs, hk, he, rfl, rfl⟩ := hrel
    have HE := Lib.hid he; clear he
    have hq : IntKind.u64.wrap ((m : Int) / 128) = ((m / 128 : Nat) : Int) := by rw [wu64 (by omega) (by omega)]; omega
    have HM := Lib.hid hm; have HN := Lib.hid hn; clear hm hn
    by_cases h : 128 ≤ m
    · have hst := sz_step h
      have hS := Lib.hid hst; clear hst
      go_wp2
      go_round
      case rel => exact ⟨m / 128, k + 1, by have := HM.out; omega, by have := hS.out; omega, by have := hS.out; have := HE.out; have := sz_pos (m / 128); have := sz_u64 n HN.out; omega, by have := hS.out; have := HE.out; omega, rfl, by go_num⟩
      case measure => simp [intOf]; omega
    · have hst := sz_end h
      have hS := Lib.hid hst; clear hst
      go_wp2
      go_ret
      have h1 := hS.out; have h2 := HE.out
      exact ⟨ret_int (by omega), rfl⟩


end Go.Proofs.YtinngljphjdpoaaDoor.Nm
/- Fields as bytes: plain. No program in sight; no conditions. -/
namespace Go.Proofs.YtinngljphjdpoaaDoor.Ep
open Go.Proofs.YtinngljphjdpoaaDoor.Nz
set_option linter.unusedVariables false
set_option linter.unusedSimpArgs false
/-- A field: number, wire type, number within, bytes within. -/
structure Fd where
  no : Int
  ty : Int
  num : Nat
  data : List UInt8
/-- A number in so many bytes, the lowest first. -/
def low : Nat → Nat → List UInt8
  | _, 0 => []
  | n, k + 1 => UInt8.ofNat (n % 256) :: low (n / 256) k
theorem low_length : ∀ (n k : Nat), (low n k).length = k
  | _, 0 => rfl
  | n, k + 1 => by simp [low, low_length]
theorem low_snoc : ∀ (k n : Nat), low n (k + 1) = low n k ++ [UInt8.ofNat (n / 256 ^ k % 256)]
  | 0, n => by simp [low]
  | k + 1, n => by
    rw [low, low_snoc k (n / 256), low]
    simp only [List.cons_append]
    congr 4
    rw [Nat.div_div_eq_div_mul, Nat.pow_succ, Nat.mul_comm]
/-- A field's bytes. -/
def one (f : Fd) : List UInt8 :=
  num (8 * f.no.toNat + f.ty.toNat) ++ (if f.ty = 0 then num f.num else if f.ty = 1 then low f.num 8 else if f.ty = 5 then low f.num 4 else num f.data.length ++ f.data)
/-- What is wrong with a field behind one of a number. -/
def wrong (f : Fd) (last : Int) : Int :=
  if f.no < 1 ∨ 536870911 < f.no ∨ f.no ≤ last then 71
  else if f.ty = 2 then (if f.num ≠ 0 then 1 else 0)
  else if f.ty = 0 ∨ f.ty = 1 ∨ f.ty = 5 then (if f.data.length ≠ 0 ∨ (f.ty = 5 ∧ 4294967296 ≤ f.num) then 1 else 0)
  else 72
/-- The first that is wrong. -/
def errGo : Int → List Fd → Int
  | _, [] => 0
  | last, f :: r => if wrong f last ≠ 0 then wrong f last else errGo f.no r
theorem errGo_drop (last : Int) (l : List Fd) (i : Nat) (h : i < l.length) : errGo last (l.drop i) = if wrong l[i] last ≠ 0 then wrong l[i] last else errGo l[i].no (l.drop (i + 1)) := by
  rw [List.drop_eq_getElem_cons h]; rfl
def sumL : List Fd → Nat
  | [] => 0
  | f :: r => f.data.length + sumL r
theorem sumL_drop (l : List Fd) (i : Nat) (h : i < l.length) : sumL (l.drop i) = l[i].data.length + sumL (l.drop (i + 1)) := by
  rw [List.drop_eq_getElem_cons h]; rfl
def bytes : List Fd → List UInt8
  | [] => []
  | f :: r => one f ++ bytes r
theorem bytes_drop (l : List Fd) (i : Nat) (h : i < l.length) : bytes (l.drop i) = one l[i] ++ bytes (l.drop (i + 1)) := by
  rw [List.drop_eq_getElem_cons h]; rfl
/-- The error and the bytes. -/
def encE (l : List Fd) : Int := if 64 < l.length then 2 else if errGo 0 l ≠ 0 then errGo 0 l else if 4194304 < sumL l then 2 else if 4194304 < (bytes l).length then 2 else 0
def enc (l : List Fd) : List UInt8 := if encE l = 0 then bytes l else []
theorem enc_len (l : List Fd) : (enc l).length ≤ 4194304 := by
  unfold enc
  split
  · rename_i h
    unfold encE at h
    split at h
    · cases h
    · split at h
      · rename_i h1; exact absurd h h1
      · split at h
        · cases h
        · split at h
          · cases h
          · omega
  · simp
theorem one_len (f : Fd) (h : f.num < 18446744073709551616) (hd : f.data.length ≤ 5000000) (h1 : f.no ≤ 536870911) (h2 : f.ty ≤ 7) : (one f).length ≤ 5000020 := by
  unfold one
  have e1 := sz_u64 (8 * f.no.toNat + f.ty.toNat) (by omega)
  have e2 := sz_u64 f.num h
  have e3 := sz_u64 f.data.length (by omega)
  unfold sz at *
  split
  · simp; omega
  · split
    · simp [low_length]; omega
    · split
      · simp [low_length]; omega
      · simp; omega
theorem one_len2 (f : Fd) (h : f.num < 18446744073709551616) (hd : f.data.length ≤ 5000000) (h1 : f.no ≤ 536870911) (h2 : f.ty ≤ 7) : (one f).length ≤ f.data.length + 20 := by
  unfold one
  have e1 := sz_u64 (8 * f.no.toNat + f.ty.toNat) (by omega)
  have e2 := sz_u64 f.num h
  have e3 := sz_u64 f.data.length (by omega)
  unfold sz at *
  split
  · simp; omega
  · split
    · simp [low_length]; omega
    · split
      · simp [low_length]; omega
      · simp; omega
theorem wrong_ok {f : Fd} {last : Int} (h : wrong f last = 0) : 1 ≤ f.no ∧ f.no ≤ 536870911 ∧ (f.ty = 0 ∨ f.ty = 1 ∨ f.ty = 5 ∨ f.ty = 2) := by
  unfold wrong at h
  split at h
  · cases h
  · split at h
    · exact ⟨by omega, by omega, by omega⟩
    · split at h
      · exact ⟨by omega, by omega, by omega⟩
      · cases h
theorem errGo_ok : ∀ (l : List Fd) (last : Int), errGo last l = 0 → ∀ f ∈ l, 1 ≤ f.no ∧ f.no ≤ 536870911 ∧ (f.ty = 0 ∨ f.ty = 1 ∨ f.ty = 5 ∨ f.ty = 2)
  | [], _, _, f, hf => by cases hf
  | g :: r, last, h, f, hf => by
    simp only [errGo] at h
    split at h
    · rename_i h1; exact absurd h h1
    · rename_i h1
      rcases List.mem_cons.1 hf with rfl | hf
      · exact wrong_ok (last := last) (by omega)
      · exact errGo_ok r g.no h f hf
theorem bytes_len : ∀ (l : List Fd), (∀ f ∈ l, f.num < 18446744073709551616 ∧ f.data.length ≤ 5000000) → (∀ f ∈ l, 1 ≤ f.no ∧ f.no ≤ 536870911 ∧ (f.ty = 0 ∨ f.ty = 1 ∨ f.ty = 5 ∨ f.ty = 2)) → (bytes l).length ≤ sumL l + 20 * l.length
  | [], _, _ => by simp [bytes]
  | f :: r, h, k => by
    have h1 := bytes_len r (fun g hg => h g (by simp [hg])) (fun g hg => k g (by simp [hg]))
    have h2 := h f (by simp)
    have h3 := k f (by simp)
    have h4 := one_len2 f h2.1 h2.2 h3.2.1 (by omega)
    simp [bytes, sumL]
    omega
/-! ### Items -/
def jsum : List (List UInt8) → Nat
  | [] => 0
  | x :: r => x.length + sz x.length + jsum r
theorem jsum_drop (l : List (List UInt8)) (i : Nat) (h : i < l.length) : jsum (l.drop i) = l[i].length + sz l[i].length + jsum (l.drop (i + 1)) := by
  rw [List.drop_eq_getElem_cons h]; rfl
def jbytes : List (List UInt8) → List UInt8
  | [] => []
  | x :: r => num x.length ++ x ++ jbytes r
theorem jbytes_drop (l : List (List UInt8)) (i : Nat) (h : i < l.length) : jbytes (l.drop i) = num l[i].length ++ l[i] ++ jbytes (l.drop (i + 1)) := by
  rw [List.drop_eq_getElem_cons h]; rfl
theorem jbytes_len : ∀ (l : List (List UInt8)), (jbytes l).length = jsum l
  | [] => rfl
  | x :: r => by simp [jbytes, jsum, jbytes_len r, sz]; omega
def joinE (l : List (List UInt8)) : Int := if 4096 < l.length then 2 else if 4194304 < jsum l then 2 else 0
def join (l : List (List UInt8)) : List UInt8 := if joinE l = 0 then jbytes l else []
theorem join_len (l : List (List UInt8)) : (join l).length ≤ 4194304 := by
  unfold join
  split
  · rename_i h
    unfold joinE at h
    split at h
    · cases h
    · split at h
      · cases h
      · rw [jbytes_len]; omega
  · simp
end Go.Proofs.YtinngljphjdpoaaDoor.Ep
/- The program's add, fixed, of, wrong. -/
namespace Go.Proofs.YtinngljphjdpoaaDoor.Ea
open Go Go.RowKit Go.Proofs.YtinngljphjdpoaaDoor.Pa Go.Proofs.YtinngljphjdpoaaDoor.Pb Go.Proofs.YtinngljphjdpoaaDoor.Pf Go.Proofs.YtinngljphjdpoaaDoor.Nz Go.Proofs.YtinngljphjdpoaaDoor.Nm
set_option linter.unusedVariables false
set_option linter.unusedSimpArgs false
theorem vb (w : World) (o : Obj) : Below w.heap.size w (w.alloc o) := (Below.refl _ _).alloc (Nat.le_refl _) _
/-- What grew: the row v alone, which is v' now. -/
def Gr (w : World) (v : Value) (w' : World) (v' : Value) : Prop := w.grownBy w' v.ownBlock ∧ (v'.ownBlock = v.ownBlock ∨ ∃ b, v'.ownBlock = some b ∧ w.heap.size ≤ b)
theorem Gr.refl (w : World) (v : Value) : Gr w v w v := ⟨⟨rfl, rfl, rfl, Nat.le_refl _, fun _ _ _ => rfl⟩, .inl rfl⟩
theorem Gr.trans {w w' w'' : World} {v v' v'' : Value} (h : Gr w v w' v') (k : Gr w' v' w'' v'') : Gr w v w'' v'' := by
  obtain ⟨⟨a1, a2, a3, a4, a5⟩, a6⟩ := h
  obtain ⟨⟨b1, b2, b3, b4, b5⟩, b6⟩ := k
  refine ⟨⟨b1.trans a1, b2.trans a2, b3.trans a3, Nat.le_trans a4 b4, fun i hi hne => ?_⟩, ?_⟩
  · have hne' : v'.ownBlock ≠ some i := by
      rcases a6 with e | ⟨b, e, hb⟩
      · rw [e]; exact fun h => hne h.symm
      · rw [e]; intro h; cases h; omega
    exact (b5 i (by omega) (Ne.symm hne')).trans (a5 i hi hne)
  · rcases b6 with e | ⟨b, e, hb⟩
    · rw [e]; exact a6
    · exact .inr ⟨b, e, Nat.le_trans a4 hb⟩
theorem gr_below {w w' : World} {v : Value} (h : Below w.heap.size w w') : Gr w v w' v := ⟨grown_below h _, .inl rfl⟩
theorem gr_app {w w' : World} {v v' : Value} {c : Prop} {c' : Prop} (h : w.grownBy w' v.ownBlock) (k : v'.ownBlock = v.ownBlock ∧ c ∨ v'.ownBlock = some w.heap.size ∧ c') : Gr w v w' v' :=
  ⟨h, k.elim (fun h => .inl h.1) (fun h => .inr ⟨_, h.1, Nat.le_refl _⟩)⟩
theorem Gr.toBelow {base : Nat} {w w' : World} {v v' : Value} {l : List UInt8} (h : Gr w v w' v') (ho : Own w base 5 v l) (hb : base ≤ w.heap.size) : Below base w w' := below_grown (Below.refl _ _) ho (Nat.le_refl _) hb h.1
theorem Gr.hp {w w' : World} {v v' : Value} {g : Nat} {o : Obj} (h : Gr w v w' v') (hg : Pa.hp w g = some o) (hne : v.ownBlock ≠ some g) : Pa.hp w' g = some o := by
  have hlt : g < w.heap.size := (Array.getElem?_eq_some_iff.1 hg).1
  exact (h.1.block g hlt (Ne.symm hne)).trans hg
set_option maxRecDepth 100000 in
/-- add: in the row's own room. -/
theorem add {base : Nat} (v : Value) (l : List UInt8) (n : Nat) (hn : n < 18446744073709551616) (w : World) (hv : Own w base 5 v l) (hb : base ≤ w.heap.size) (hl : l.length ≤ 100000000) :
    Calls Tryd.prog 37 #[v, .int .u64 n] w fun e w' => ∃ v', e = .returned v' ∧ Own w' base 5 v' (l ++ num n) ∧ Gr w v w' v' := by
  have HV := Lib.hid hv; have HN := Lib.hid hn; clear hv hn
  go_enter Tryd.func37, Tryd.ntmps37
  go_wp2_with fail
  go_loopw [0, 1] (fun t s wr => ∃ (m : Nat) (pre : List UInt8), m < 18446744073709551616 ∧ pre ++ num m = num n ∧ s = .int .u64 m ∧ Own wr base 5 t (l ++ pre) ∧ Gr w v wr t) (fun t s _ => (intOf s).toNat)
  case atStart => exact ⟨n, [], HN.out, rfl, rfl, by simpa using HV.out, Gr.refl _ _⟩
  case round =>
    obtain ⟨m, pre, hm, hp, rfl, ho, hbw⟩ := hrel
    have hpl : pre.length ≤ 10 := by have := congrArg List.length hp; have h2 := sz_u64 n HN.out; simp only [List.length_append] at this; unfold sz at h2; omega
    have hq : IntKind.u64.wrap ((m : Int) / 128) = ((m / 128 : Nat) : Int) := by rw [wu64 (by omega) (by omega)]; omega
    have HP := Lib.hid hp; have HM := Lib.hid hm; have HO := Lib.hid ho; clear hp hm ho
    have hbs := hbw.1.size
    by_cases h : 128 ≤ m
    · have HY := Lib.hid (show ((m : Int) % 128 + 128) = ((UInt8.ofNat (m % 128 + 128)).toNat : Int) by rw [← of_nat8 (by omega)]; omega)
      go_wp2_with (at_builtin; refine wp_app (.tmp 9) (.tmp 14) Nm.u8 rfl rfl rfl rfl (HO.out.alloc _) (rd_box wr _ _ _ HY.out) (by simp; omega) (by simp; omega) ?_; intro v2 w2 ho2 hg2 hc2)
      have hb2 := Lib.hid ((hbw.trans (gr_below (vb _ _))).trans (gr_app hg2 hc2))
      clear hg2 hc2
      go_wp2
      go_roundw
      case rel => exact ⟨m / 128, pre ++ [UInt8.ofNat (m % 128 + 128)], by have := HM.out; omega, by rw [← HP.out, num_step h]; simp, rfl, by simpa using ho2, hb2.out⟩
      case measure => simp [intOf]; omega
    · have HY := Lib.hid (show (m : Int) = ((UInt8.ofNat m).toNat : Int) from of_nat8 (by omega))
      go_wp2_with (at_builtin; refine wp_app (.tmp 16) (.tmp 19) Nm.u8 rfl rfl rfl rfl (HO.out.alloc _) (rd_box wr _ _ _ HY.out) (by simp; omega) (by simp; omega) ?_; intro v2 w2 ho2 hg2 hc2)
      have hb2 := Lib.hid ((hbw.trans (gr_below (vb _ _))).trans (gr_app hg2 hc2))
      clear hg2 hc2
      go_wp2
      go_ret
      refine ⟨v2, rfl, ?_, hb2.out⟩
      rw [← HP.out, num_end h]
      simpa using ho2
set_option maxRecDepth 100000 in
/-- fixed: so many bytes, the lowest first. -/
theorem fixed {base : Nat} (v : Value) (l : List UInt8) (n k : Nat) (hn : n < 18446744073709551616) (hk : k ≤ 8) (w : World) (hv : Own w base 5 v l) (hb : base ≤ w.heap.size) (hl : l.length ≤ 100000000) :
    Calls Tryd.prog 84 #[v, .int .u64 n, .int .i64 (k : Int)] w fun e w' => ∃ v', e = .returned v' ∧ Own w' base 5 v' (l ++ Ep.low n k) ∧ Gr w v w' v' := by
  have HV := Lib.hid hv; have HN := Lib.hid hn; clear hv hn
  go_enter Tryd.func84, Tryd.ntmps84
  go_wp2_with fail
  go_loopw [0, 1, 8] (fun t s u wr => ∃ (i : Nat), i ≤ k ∧ u = .int .i64 i ∧ s = .int .u64 ((n / 256 ^ i : Nat) : Int) ∧ Own wr base 5 t (l ++ Ep.low n i) ∧ Gr w v wr t) (fun _ _ u _ => k - (intOf u).toNat)
  case atStart => exact ⟨0, by omega, rfl, by simp, by simpa [Ep.low] using HV.out, Gr.refl _ _⟩
  case round =>
    obtain ⟨i, hi, rfl, rfl, ho, hbw⟩ := hrel
    have hbs := hbw.1.size
    have hll := Ep.low_length n i
    have hsn := Ep.low_snoc i n
    have hnx : n / 256 ^ (i + 1) = n / 256 ^ i / 256 := by rw [Nat.div_div_eq_div_mul, Nat.pow_succ]
    have hlt : n / 256 ^ i < 18446744073709551616 := Nat.lt_of_le_of_lt (Nat.div_le_self _ _) HN.out
    generalize n / 256 ^ i = q at *
    have HO := Lib.hid ho; clear ho
    by_cases h : i < k
    · have HY := Lib.hid (show ((q : Int) % 256) = ((UInt8.ofNat (q % 256)).toNat : Int) by rw [← of_nat8 (by omega)]; omega)
      have hw8 : IntKind.u8.wrap (q : Int) = (q : Int) % 256 := by rw [IntKind.wrap_u8]
      have HNX := Lib.hid hnx; have HSN := Lib.hid hsn; clear hnx hsn
      go_wp2_with (at_builtin; refine wp_app (.tmp 10) (.tmp 13) Nm.u8 rfl rfl rfl rfl (HO.out.alloc _) (rd_box wr _ _ _ HY.out) (by simp; omega) (by simp; omega) ?_; intro v2 w2 ho2 hg2 hc2)
      have hb2 := Lib.hid ((hbw.trans (gr_below (vb _ _))).trans (gr_app hg2 hc2))
      clear hg2 hc2
      go_wp2
      go_roundw
      case rel => exact ⟨i + 1, by omega, by go_num, by rw [HNX.out]; rfl, by rw [HSN.out]; simpa using ho2, hb2⟩
      case measure => simp [intOf]; omega
    · obtain rfl : i = k := by omega
      go_wp2
      go_ret
      exact ⟨_, rfl, HO.out, hbw⟩
set_option maxRecDepth 100000 in
theorem of_ (no ty : Int) (num : Nat) (A : Option Addr) (dl c : Nat) (h1 : 0 ≤ no) (h2 : no ≤ 536870911) (h3 : 0 ≤ ty) (h4 : ty ≤ 7) (w : World) :
    Calls Tryd.prog 83 #[.agg #[.int .i64 no, .int .i64 ty, .int .u64 (num : Int), .slice A dl c]] w fun e w' => e = .returned (.int .u64 ((8 * no.toNat + ty.toNat : Nat) : Int)) ∧ Below w.heap.size w w' := by
  have BB := Lib.hid (vb w (.cells #[.int .i64 no, .int .i64 ty, .int .u64 (num : Int), .slice A dl c] 85))
  obtain ⟨a, rfl⟩ := Int.eq_ofNat_of_zero_le h1
  obtain ⟨b, rfl⟩ := Int.eq_ofNat_of_zero_le h3
  have hq : IntKind.u64.wrap (8 * (a : Int) + (b : Int)) = 8 * (a : Int) + (b : Int) := wu64 (by omega) (by omega)
  go_enter Tryd.func83, Tryd.ntmps83
  go_wp2_with fail
  go_ret
  exact ⟨by simp, BB.out⟩
set_option maxHeartbeats 1000000 in
set_option maxRecDepth 100000 in
theorem wrong (no ty last : Int) (num : Nat) (A : Option Addr) (dl c : Nat) (data : List UInt8) (hdl : dl = data.length) (hd : dl ≤ 100000000) (w : World) :
    Calls Tryd.prog 70 #[.agg #[.int .i64 no, .int .i64 ty, .int .u64 (num : Int), .slice A dl c], .int .i64 last] w fun e w' => e = .returned (.int .i64 (Ep.wrong ⟨no, ty, num, data⟩ last)) ∧ Below w.heap.size w w' := by
  have BB := Lib.hid (vb w (.cells #[.int .i64 no, .int .i64 ty, .int .u64 (num : Int), .slice A dl c] 85))
  obtain ⟨R, hR⟩ : ∃ R, R = Ep.wrong ⟨no, ty, num, data⟩ last := ⟨_, rfl⟩
  rw [← hR]
  unfold Ep.wrong at hR
  simp only [← hdl] at hR
  clear hdl
  by_cases c1 : no < 1
  · have hr : R = 71 := by rw [hR, if_pos (.inl c1)]
    subst hr; clear hR
    go_enter Tryd.func70, Tryd.ntmps70
    go_wp2_with fail
    go_ret
    exact ⟨rfl, BB.out⟩
  by_cases c2 : 536870911 < no
  · have hr : R = 71 := by rw [hR, if_pos (.inr (.inl c2))]
    subst hr; clear hR
    go_enter Tryd.func70, Tryd.ntmps70
    go_wp2_with fail
    go_ret
    exact ⟨rfl, BB.out⟩
  by_cases c3 : no ≤ last
  · have hr : R = 71 := by rw [hR, if_pos (.inr (.inr c3))]
    subst hr; clear hR
    go_enter Tryd.func70, Tryd.ntmps70
    go_wp2_with fail
    go_ret
    exact ⟨rfl, BB.out⟩
  rw [if_neg (by omega)] at hR
  by_cases t2 : ty = 2
  · subst t2
    rw [if_pos rfl] at hR
    by_cases n0 : num ≠ 0
    · have hr : R = 1 := by rw [hR, if_pos n0]
      have nz : ((num : Int) != 0) = true := by simp; omega
      subst hr; clear hR n0
      go_enter Tryd.func70, Tryd.ntmps70
      go_wp2_with fail
      go_ret
      exact ⟨rfl, BB.out⟩
    · have hr : R = 0 := by rw [hR, if_neg n0]
      have nz : ((num : Int) != 0) = false := by simp; omega
      subst hr; clear hR n0
      go_enter Tryd.func70, Tryd.ntmps70
      go_wp2_with fail
      go_ret
      exact ⟨rfl, BB.out⟩
  rw [if_neg t2] at hR
  have t2z : (ty == 2) = false := by simpa using t2
  by_cases d0 : dl ≠ 0
  · have dz : (0 : Int) < (dl : Int) := by omega
    by_cases t0 : ty = 0
    · subst t0
      have hr : R = 1 := by rw [hR, if_pos (by simp), if_pos (.inl d0)]
      subst hr; clear hR d0 t2 t2z
      go_enter Tryd.func70, Tryd.ntmps70
      go_wp2_with fail
      go_ret
      exact ⟨rfl, BB.out⟩
    by_cases t1 : ty = 1
    · subst t1
      have hr : R = 1 := by rw [hR, if_pos (by simp), if_pos (.inl d0)]
      subst hr; clear hR d0 t2 t2z t0
      go_enter Tryd.func70, Tryd.ntmps70
      go_wp2_with fail
      go_ret
      exact ⟨rfl, BB.out⟩
    by_cases t5 : ty = 5
    · subst t5
      have hr : R = 1 := by rw [hR, if_pos (by simp), if_pos (.inl d0)]
      subst hr; clear hR d0 t2 t2z t0 t1
      go_enter Tryd.func70, Tryd.ntmps70
      go_wp2_with fail
      go_ret
      exact ⟨rfl, BB.out⟩
    have hr : R = 72 := by rw [hR, if_neg (by simp [t0, t1, t5])]
    have t0z : (ty == 0) = false := by simpa using t0
    have t1z : (ty == 1) = false := by simpa using t1
    have t5z : (ty == 5) = false := by simpa using t5
    subst hr; clear hR d0 t2 t0 t1 t5
    go_enter Tryd.func70, Tryd.ntmps70
    go_wp2_with fail
    go_ret
    exact ⟨rfl, BB.out⟩
  · obtain rfl : dl = 0 := by omega
    by_cases t0 : ty = 0
    · subst t0
      have hr : R = 0 := by rw [hR, if_pos (by simp), if_neg (by simp)]
      subst hr; clear hR d0 t2 t2z
      go_enter Tryd.func70, Tryd.ntmps70
      go_wp2_with fail
      go_ret
      exact ⟨rfl, BB.out⟩
    by_cases t1 : ty = 1
    · subst t1
      have hr : R = 0 := by rw [hR, if_pos (by simp), if_neg (by simp)]
      subst hr; clear hR d0 t2 t2z t0
      go_enter Tryd.func70, Tryd.ntmps70
      go_wp2_with fail
      go_ret
      exact ⟨rfl, BB.out⟩
    by_cases t5 : ty = 5
    · subst t5
      by_cases n32 : 4294967296 ≤ num
      · have nz : (4294967296 : Int) ≤ (num : Int) := by omega
        have hr : R = 1 := by rw [hR, if_pos (by simp), if_pos (by simp [n32])]
        subst hr; clear hR d0 t2 t2z t0 t1 n32
        go_enter Tryd.func70, Tryd.ntmps70
        go_wp2_with fail
        go_ret
        exact ⟨rfl, BB.out⟩
      · have nz : ¬ (4294967296 : Int) ≤ (num : Int) := by omega
        have hr : R = 0 := by rw [hR, if_pos (by simp), if_neg (by simp [n32])]
        subst hr; clear hR d0 t2 t2z t0 t1 n32
        go_enter Tryd.func70, Tryd.ntmps70
        go_wp2_with fail
        go_ret
        exact ⟨rfl, BB.out⟩
    have hr : R = 72 := by rw [hR, if_neg (by simp [t0, t1, t5])]
    have t0z : (ty == 0) = false := by simpa using t0
    have t1z : (ty == 1) = false := by simpa using t1
    have t5z : (ty == 5) = false := by simpa using t5
    subst hr; clear hR d0 t2 t0 t1 t5
    go_enter Tryd.func70, Tryd.ntmps70
    go_wp2_with fail
    go_ret
    exact ⟨rfl, BB.out⟩
end Go.Proofs.YtinngljphjdpoaaDoor.Ea
