/- The padding: the program's and the reference's. -/
import Derived.Test.YtjlhicopinhiaaaDoorSb
import Derived.Test.YtjlhicopinhiaaaDoorSd
namespace Go.Proofs.YtjlhicopinhiaaaDoor.Se
open Go Go.RowKit Go.Proofs.YtjlhicopinhiaaaDoor.Pa Go.Proofs.YtjlhicopinhiaaaDoor.Pb Go.Proofs.YtjlhicopinhiaaaDoor.Pc Go.Proofs.YtjlhicopinhiaaaDoor.Pf Go.Proofs.YtjlhicopinhiaaaDoor.Sh Go.Proofs.YtjlhicopinhiaaaDoor.Sv Go.Proofs.YtjlhicopinhiaaaDoor.Sd
set_option linter.unusedVariables false
set_option linter.unusedSimpArgs false

theorem uu8 : U8 Tryd.prog 30 5 := ⟨Tryd.underlying30, by kernel_rfl⟩
theorem set_be (z : Nat) (m : List UInt8) (i : Nat) (hm : m.length = 8) (hi : i < 8) : (128 :: (List.replicate z 0 ++ (m.take i ++ List.replicate (8 - i) 0)) : List UInt8).set (1 + z + i) m[i] = 128 :: (List.replicate z 0 ++ (m.take (i + 1) ++ List.replicate (8 - (i + 1)) 0)) := by
  have e : 1 + z + i = (z + i) + 1 := by omega
  rw [e, List.set_cons_succ, List.set_append_right _ _ (by simp), List.length_replicate, Nat.add_sub_cancel_left, List.set_append_right _ _ (by simp; omega), List.length_take, Nat.min_eq_left (by omega), Nat.sub_self]
  obtain ⟨k, hk⟩ : ∃ k, 8 - i = k + 1 := ⟨7 - i, by omega⟩
  rw [hk, show 8 - (i + 1) = k by omega, List.replicate_succ, List.set_cons_zero, List.take_succ_eq_append_getElem (by omega), List.append_assoc]
  rfl
set_option maxRecDepth 100000 in
theorem ppad (n : Nat) (hn : n < 18446744073709551616) (w : World) : Calls Tryd.prog 25 #[.int .u64 (n : Int)] w fun e w' => ∃ v, e = .returned v ∧ Own w' w.heap.size 5 v (padN n) ∧ Below w.heap.size w w' := by
  have hz : (119 - (n : Int) % 64) % 64 = (zeros n : Int) := by unfold zeros; omega
  have hzl := zeros_lt n
  have hX : IntKind.u64.wrap (8 * (n : Int)) = ((8 * n % 18446744073709551616 : Nat) : Int) := by rw [IntKind.wrap_u64]; omega
  have hXl : 8 * n % 18446744073709551616 < 18446744073709551616 := Nat.mod_lt _ (by omega)
  have hpd : padN n = 128 :: (List.replicate (zeros n) 0 ++ be8 (8 * n % 18446744073709551616)) := rfl
  generalize 8 * n % 18446744073709551616 = X at hX hXl hpd
  have HPD := Lib.hid hpd; clear hpd
  have hmk : ∀ W, (Instr.makeSlice 30 (.int .i64 (1 + (zeros n : Int) + 8)) (.int .i64 (1 + (zeros n : Int) + 8))).run Tryd.prog W = .ok (.slice (some ⟨W.heap.size, 0, none⟩) (1 + zeros n + 8) (1 + zeros n + 8)) (W.alloc (.cells (cb (List.replicate (1 + zeros n + 8) 0)).toArray 5)) := fun W => by
    have h := run_mk uu8 (1 + zeros n + 8) (by omega) W
    rw [show ((1 + zeros n + 8 : Nat) : Int) = 1 + (zeros n : Int) + 8 by omega] at h
    exact h
  have h0 := Arr.new w 5 (List.replicate (1 + zeros n + 8) 0)
  have h1 : Arr (w.alloc (.cells ((cb (List.replicate (1 + zeros n + 8) 0)).set 0 (.int .u8 128)).toArray 5)) w.heap.size 5 ((List.replicate (1 + zeros n + 8) 0).set 0 128) := by
    have h := Arr.new w 5 ((List.replicate (1 + zeros n + 8) 0).set 0 128)
    have e : cb ((List.replicate (1 + zeros n + 8) 0).set 0 128) = (cb (List.replicate (1 + zeros n + 8) 0)).set 0 (.int .u8 128) := by simp only [cb, List.map_set]; rfl
    rw [e] at h
    exact h
  have c0 := h0.cellAt 0 (by simp)
  have f0 := h0.frozen 0
  have e1 : (List.replicate (1 + zeros n + 8) (0 : UInt8)).set 0 128 = 128 :: (List.replicate (zeros n) 0 ++ ((be8 (X)).take 0 ++ List.replicate (8 - 0) 0)) := by
    rw [show 1 + zeros n + 8 = (zeros n + 8) + 1 by omega, List.replicate_succ, List.set_cons_zero, ← List.replicate_append_replicate]
    rfl
  rw [e1] at h1
  clear e1 h0
  have H1 := Lib.hid h1; clear h1
  go_enter Tryd.func25, Tryd.ntmps25
  go_wp2_with fail
  go_loopw [17] (fun s wr => ∃ (i : Nat), i ≤ 8 ∧ s = .int .i64 i ∧ Arr wr w.heap.size 5 (128 :: (List.replicate (zeros n) 0 ++ ((be8 (X)).take i ++ List.replicate (8 - i) 0))) ∧ Below w.heap.size w wr) (fun s _ => 8 - (intOf s).toNat)
  case atStart => exact ⟨0, by omega, rfl, H1.out, (Below.refl _ _).alloc (Nat.le_refl _) _⟩
  case round =>
    obtain ⟨i, hi, rfl, ha, hb⟩ := hrel
    by_cases hi8 : i < 8
    · have hlen : (128 :: (List.replicate (zeros n) 0 ++ ((be8 (X)).take i ++ List.replicate (8 - i) 0)) : List UInt8).length = 1 + zeros n + 8 := by simp [be8_length]; omega
      obtain ⟨old, hcell⟩ : ∃ old : UInt8, wr.cell? ⟨w.heap.size, 1 + zeros n + i, none⟩ = some (.int .u8 (old.toNat : Int)) := ⟨_, ha.cellAt (1 + zeros n + i) (by omega)⟩
      have hfr := ha.frozen (1 + zeros n + i)
      have HN := Lib.hid (fun (y : Int) hy => by
        have h := ha.set (1 + zeros n + i) ((be8 (X))[i]'(by rw [be8_length]; exact hi8)) (y := y) hy
        rw [set_be _ _ _ (be8_length _) hi8] at h
        exact h)
      have HB := Lib.hid (hb.setCell (p := ⟨w.heap.size, 1 + zeros n + i, none⟩) (Nat.le_refl _))
      clear ha hb hlen
      obtain rfl | rfl | rfl | rfl | rfl | rfl | rfl | rfl : i = 0 ∨ i = 1 ∨ i = 2 ∨ i = 3 ∨ i = 4 ∨ i = 5 ∨ i = 6 ∨ i = 7 := by omega
      · simp only [Nat.add_zero] at hcell hfr
        go_wp2_with fail
        go_roundw
        case rel => exact ⟨1, by omega, rfl, HN.out _ (by simp [be8]; omega), HB.out _⟩
        case measure => simp [intOf]
      all_goals
        go_wp2_with fail
        go_roundw
        case rel => exact ⟨_, (by omega : _ + 1 ≤ 8), by go_num, HN.out _ (by simp [be8]), HB.out _⟩
        case measure => simp [intOf]
    · obtain rfl : i = 8 := by omega
      have ho := ha.own w.heap.size (1 + zeros n + 8) (Nat.le_refl _) (by simp [be8_length]; omega) (by simp [be8_length, maxLen]; omega)
      have e : (128 :: (List.replicate (zeros n) 0 ++ ((be8 (X)).take 8 ++ List.replicate (8 - 8) 0)) : List UInt8) = padN n := by rw [List.take_of_length_le (by rw [be8_length]; omega)]; simp [HPD.out]
      rw [e] at ho
      have el : 1 + zeros n + 8 = (padN n).length := by rw [padN_length]; omega
      rw [el, List.take_length] at ho
      rw [el]
      have HO := Lib.hid ho; clear ho ha e el
      go_wp2
      go_ret
      exact ⟨_, rfl, HO.out, hb⟩
/-- append, kept whole. -/
def appX (a : Array TypeId) (ty : TypeId) (args : Array Value) : Sem Value := Builtin.append_ a ty args
theorem app_x (a : Array TypeId) (ty : TypeId) (args : Array Value) : Builtin.append_ a ty args = appX a ty args := by rw [appX]
@[go_sem ↓] theorem app_y (a : Array TypeId) (ty : TypeId) (args : Array Value) : Builtin.append_ a ty args = appX a ty args := app_x a ty args
theorem run_appX {P : Program} {T E : TypeId} (hU : U8 P T E) (ty : TypeId) {w : World} {base : Nat} {v x : Value} {l m : List UInt8} (hv : Own w base E v l) (hx : Rd w x m) (hbase : base ≤ w.heap.size) (hl : l.length + m.length ≤ 140737488355328) :
    ∃ v' w', (appX #[T, T] ty #[v, x]).run P w = .ok v' w' ∧ Own w' base E v' (l ++ m) ∧ w.grownBy w' v.ownBlock ∧ (v'.ownBlock = v.ownBlock ∧ capOf v' = capOf v ∨ v'.ownBlock = some w.heap.size ∧ w.grownBy w' none) := run_app hU ty hv hx hbase hl
theorem len1 (z : List UInt8) (x : UInt8) : (x :: z).length = z.length + 1 := rfl
set_option maxRecDepth 100000 in
theorem rpad (n : Nat) (hn : n < 18446744073709551616) (w : World) : Calls Tryd.prog 27 #[.int .u64 (n : Int)] w fun e w' => ∃ v, e = .returned v ∧ Own w' w.heap.size 5 v (padN n) ∧ Below w.heap.size w w' := by
  have hzl := zeros_lt n
  have hz : (119 - n % 64) % 64 = zeros n := rfl
  have hX : IntKind.u64.wrap ((n : Int) * 8) = ((8 * n % 18446744073709551616 : Nat) : Int) := by rw [IntKind.wrap_u64]; omega
  have hXl : 8 * n % 18446744073709551616 < 18446744073709551616 := Nat.mod_lt _ (by omega)
  have hpd : padN n = 128 :: (List.replicate (zeros n) 0 ++ be8 (8 * n % 18446744073709551616)) := rfl
  generalize 8 * n % 18446744073709551616 = X at hX hXl hpd
  have HPD := Lib.hid hpd; clear hpd
  have H1 := Lib.hid ((Arr.new w 5 [128]).own w.heap.size 1 (Nat.le_refl _) (by simp) (by simp [maxLen]))
  go_enter Tryd.func27, Tryd.ntmps27
  go_wp2_with fail
  go_loopw [3] (fun s wr => ∃ (k : Nat) (A : Option Addr) (c : Nat), k ≤ zeros n ∧ s = .slice A (k + 1) c ∧ Own wr w.heap.size 5 s (128 :: List.replicate k 0) ∧ Below w.heap.size w wr) (fun s _ => 64 - (match s with | .slice _ n _ => n | _ => 0))
  case atStart => exact ⟨0, _, _, by omega, rfl, H1.out, (Below.refl _ _).alloc (Nat.le_refl _) _⟩
  case round =>
    obtain ⟨k, A, c, hk, rfl, ho, hb⟩ := hrel
    by_cases hlt : k < zeros n
    · have hc : ((n : Int) % 64 + ((k + 1 : Nat) : Int) + 8) % 64 ≠ 0 := by omega
      have HO1 := Lib.hid ho; clear ho
      obtain ⟨v', w', hr, o', hg, -⟩ := run_appX uu8 30 (HO1.out.alloc (.cells #[.int .u8 0] 5)) (rd_box wr 5 0 0 rfl) (by have := hb.size; simp; omega) (by simp; omega)
      obtain ⟨A', c', hv'⟩ := o'.slice
      obtain rfl : v' = .slice A' (k + 1 + 1) c' := by rw [hv']; simp
      have hb' := below_grown (hb.alloc hb.size _) (HO1.out.alloc _) (Nat.le_refl _) (by have := hb.size; simp; omega) hg
      have e : (128 :: List.replicate k 0 ++ [0] : List UInt8) = 128 :: List.replicate (k + 1) 0 := by rw [List.replicate_succ', List.cons_append]
      rw [e] at o'
      have HO := Lib.hid o'; clear o' hg e hv'
      go_wp2_with fail
      go_roundw
      case rel => exact ⟨k + 1, A', c', by omega, rfl, HO.out, hb'⟩
      case measure => simp; omega
    · obtain rfl : k = zeros n := by omega
      have hc : ((n : Int) % 64 + ((zeros n + 1 : Nat) : Int) + 8) % 64 = 0 := by omega
      have HO := Lib.hid ho; clear ho
      go_wp2_with fail
      go_loopw [3, 5] (fun s t wr => ∃ (j : Nat) (A : Option Addr) (c : Nat), j ≤ 8 ∧ t = .int .i64 (7 - (j : Int)) ∧ s = .slice A (zeros n + 1 + j) c ∧ Own wr w.heap.size 5 s (128 :: (List.replicate (zeros n) 0 ++ (be8 X).take j)) ∧ Below w.heap.size w wr) (fun _ t _ => Int.toNat ((1 : Int) + intOf t))
      case atStart => exact ⟨0, _, _, by omega, rfl, rfl, by simpa using HO.out, hb⟩
      case round =>
        obtain ⟨j, A, c, hj, rfl, rfl, ho, hb⟩ := hrel
        by_cases hj8 : j < 8
        · have HO1 := Lib.hid ho; clear ho
          have hap : ∀ y : Int, y = (((be8 X)[j]'(by rw [be8_length]; exact hj8)).toNat : Int) → ∃ A' c' w', (appX #[30, 30] 30 #[.slice A (zeros n + 1 + j) c, .slice (some ⟨wr.heap.size, 0, none⟩) 1 1]).run Tryd.prog (wr.alloc (.cells #[.int .u8 y] 5)) = .ok (.slice A' (zeros n + 1 + (j + 1)) c') w' ∧ Own w' w.heap.size 5 (.slice A' (zeros n + 1 + (j + 1)) c') (128 :: (List.replicate (zeros n) 0 ++ (be8 X).take (j + 1))) ∧ Below w.heap.size w w' := by
            intro y hy
            obtain ⟨v', w', hr, o', hg, -⟩ := run_appX uu8 30 (HO1.out.alloc (.cells #[.int .u8 y] 5)) (rd_box wr 5 y _ hy) (by have := hb.size; simp; omega) (by simp [be8_length]; omega)
            obtain ⟨A', c', hv'⟩ := o'.slice
            obtain rfl : v' = .slice A' (zeros n + 1 + (j + 1)) c' := by rw [hv']; simp [be8_length]; omega
            refine ⟨A', c', w', hr, ?_, below_grown (hb.alloc hb.size _) (HO1.out.alloc _) (Nat.le_refl _) (by have := hb.size; simp; omega) hg⟩
            have e : (128 :: (List.replicate (zeros n) 0 ++ (be8 X).take j) ++ [(be8 X)[j]'(by rw [be8_length]; exact hj8)] : List UInt8) = 128 :: (List.replicate (zeros n) 0 ++ (be8 X).take (j + 1)) := by
              rw [List.take_succ_eq_append_getElem (by rw [be8_length]; exact hj8)]; simp
            rw [e] at o'
            exact o'
          clear HO1 hc
          obtain rfl | rfl | rfl | rfl | rfl | rfl | rfl | rfl : j = 0 ∨ j = 1 ∨ j = 2 ∨ j = 3 ∨ j = 4 ∨ j = 5 ∨ j = 6 ∨ j = 7 := by omega
          · obtain ⟨A', c', w', hr, ho, hb'⟩ := hap ((X : Int) / 72057594037927936) (by simp [be8]; omega)
            have HO2 := Lib.hid ho; clear ho hap
            go_wp2_with fail
            go_roundw
            case rel => exact ⟨1, A', c', by omega, by go_num, rfl, HO2.out, hb'⟩
            case measure => simp [intOf]
          · obtain ⟨A', c', w', hr, ho, hb'⟩ := hap ((X : Int) / 281474976710656 % 256) (by simp [be8])
            have HO2 := Lib.hid ho; clear ho hap
            go_wp2_with fail
            go_roundw
            case rel => exact ⟨2, A', c', by omega, by go_num, rfl, HO2.out, hb'⟩
            case measure => simp [intOf]
          · obtain ⟨A', c', w', hr, ho, hb'⟩ := hap ((X : Int) / 1099511627776 % 256) (by simp [be8])
            have HO2 := Lib.hid ho; clear ho hap
            go_wp2_with fail
            go_roundw
            case rel => exact ⟨3, A', c', by omega, by go_num, rfl, HO2.out, hb'⟩
            case measure => simp [intOf]
          · obtain ⟨A', c', w', hr, ho, hb'⟩ := hap ((X : Int) / 4294967296 % 256) (by simp [be8])
            have HO2 := Lib.hid ho; clear ho hap
            go_wp2_with fail
            go_roundw
            case rel => exact ⟨4, A', c', by omega, by go_num, rfl, HO2.out, hb'⟩
            case measure => simp [intOf]
          · obtain ⟨A', c', w', hr, ho, hb'⟩ := hap ((X : Int) / 16777216 % 256) (by simp [be8])
            have HO2 := Lib.hid ho; clear ho hap
            go_wp2_with fail
            go_roundw
            case rel => exact ⟨5, A', c', by omega, by go_num, rfl, HO2.out, hb'⟩
            case measure => simp [intOf]
          · obtain ⟨A', c', w', hr, ho, hb'⟩ := hap ((X : Int) / 65536 % 256) (by simp [be8])
            have HO2 := Lib.hid ho; clear ho hap
            go_wp2_with fail
            go_roundw
            case rel => exact ⟨6, A', c', by omega, by go_num, rfl, HO2.out, hb'⟩
            case measure => simp [intOf]
          · obtain ⟨A', c', w', hr, ho, hb'⟩ := hap ((X : Int) / 256 % 256) (by simp [be8])
            have HO2 := Lib.hid ho; clear ho hap
            go_wp2_with fail
            go_roundw
            case rel => exact ⟨7, A', c', by omega, by go_num, rfl, HO2.out, hb'⟩
            case measure => simp [intOf]
          · obtain ⟨A', c', w', hr, ho, hb'⟩ := hap ((X : Int) % 256) (by simp [be8])
            have HO2 := Lib.hid ho; clear ho hap
            go_wp2_with fail
            go_roundw
            case rel => exact ⟨8, A', c', by omega, by go_num, rfl, HO2.out, hb'⟩
            case measure => simp [intOf]
        · obtain rfl : j = 8 := by omega
          rw [List.take_of_length_le (by rw [be8_length]; omega), ← HPD.out] at ho
          have HO2 := Lib.hid ho; clear ho
          go_wp2_with fail
          go_ret
          exact ⟨_, rfl, HO2.out, hb⟩
end Go.Proofs.YtjlhicopinhiaaaDoor.Se
