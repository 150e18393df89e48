/- How many bytes a number has, and its bytes: the program's Size, the reference's Put and Size. -/
import Derived.Test.YtpfckpaokoifhaaGreatDoorProg
import Derived.Test.YtpfckpaokoifhaaGreatDoorPb
import Derived.Test.YtpfckpaokoifhaaGreatDoorNz
namespace Go.Proofs.YtpfckpaokoifhaaGreatDoor.Nm
open Go Go.RowKit Go.Proofs.YtpfckpaokoifhaaGreatDoor.Pa Go.Proofs.YtpfckpaokoifhaaGreatDoor.Pb Go.Proofs.YtpfckpaokoifhaaGreatDoor.Nz
set_option linter.unusedVariables false
set_option linter.unusedSimpArgs false

theorem u8 : U8 Tryz.prog 24 5 := ⟨Tryz.underlying24, by kernel_rfl⟩

set_option maxRecDepth 100000 in
theorem size (n : Nat) (hn : n < 18446744073709551616) (w : World) : Calls Tryz.prog 60 #[.int .u64 n] w fun e w' => e = .returned (.int .i64 (sz n : Nat)) ∧ w = w' := by
  go_enter Tryz.func60, Tryz.ntmps60
  go_wp2
  go_loop [0, 3] (fun s t => ∃ m k : Nat, m < 18446744073709551616 ∧ sz m ≤ 10 ∧ k ≤ 10 ∧ sz m + k = sz n + 1 ∧ s = .int .u64 m ∧ t = .int .i64 k) (fun s t => (intOf s).toNat)
  case atStart => exact ⟨n, 1, hn, sz_u64 n hn, by omega, rfl, rfl, rfl⟩
  case round =>
    obtain ⟨m, k, hm, hs, hk, he, rfl, rfl⟩ := hrel
    have HE := Lib.hid he; clear he
    have hq : IntKind.u64.wrap ((m : Int) / 128) = ((m / 128 : Nat) : Int) := by rw [wu64 (by omega) (by omega)]; omega
    have HM := Lib.hid hm; have HN := Lib.hid hn; clear hm hn
    by_cases h : 128 ≤ m
    · have hst := sz_step h
      have hS := Lib.hid hst; clear hst
      go_wp2
      go_round
      case rel => exact ⟨m / 128, k + 1, by have := HM.out; omega, by have := hS.out; omega, by have := hS.out; have := HE.out; have := sz_pos (m / 128); have := sz_u64 n HN.out; omega, by have := hS.out; have := HE.out; omega, rfl, by go_num⟩
      case measure => simp [intOf]; omega
    · have hst := sz_end h
      have hS := Lib.hid hst; clear hst
      go_wp2
      go_ret
      have h1 := hS.out; have h2 := HE.out
      exact ⟨ret_int (by omega), rfl⟩


set_option maxRecDepth 100000 in
/-- The reference's Put: in new memory. -/
theorem put (v : Value) (l : List UInt8) (n : Nat) (hn : n < 18446744073709551616) (w : World) (hv : Rd w v l) (hl : l.length ≤ 140737488355000) :
    Calls Tryz.prog 54 #[v, .int .u64 n] w fun e w' => ∃ v', e = .returned v' ∧ Own w' w.heap.size 5 v' (l ++ num n) ∧ Below w.heap.size w w' := by
  have Hv := Lib.hid hv; have HN := Lib.hid hn; clear hv hn
  go_enter Tryz.func54, Tryz.ntmps54
  go_wp2_with (at_builtin; refine wp_app (.tmp 6) (.tmp 7) u8 rfl rfl rfl rfl (Own.empty w w.heap.size _ (Nat.le_refl _)) (Hv.out.below ((Below.refl _ _).alloc (Nat.le_refl _) _)) (by simp) (by simp; omega) ?_; intro v1 w1 ho1 hg1 _)
  have hb1 : Below w.heap.size w w1 := below_grown ((Below.refl _ _).alloc (Nat.le_refl _) _) (Own.empty w w.heap.size _ (Nat.le_refl _)) (Nat.le_refl _) (by simp) hg1
  go_loopw [1, 5] (fun s t wr => ∃ (m : Nat) (pre : List UInt8), m < 18446744073709551616 ∧ pre ++ num m = num n ∧ s = .int .u64 m ∧ Own wr w.heap.size 5 t (l ++ pre) ∧ Below w.heap.size w wr) (fun s t _ => (intOf s).toNat)
  case atStart => exact ⟨n, [], HN.out, rfl, rfl, by simpa using ho1, hb1⟩
  case round =>
    obtain ⟨m, pre, hm, hp, rfl, ho, hb⟩ := hrel
    have hpl : pre.length ≤ 10 := by have := congrArg List.length hp; have h2 := sz_u64 n HN.out; simp only [List.length_append] at this; unfold sz at h2; omega
    have hq : IntKind.u64.wrap ((m : Int) / 128) = ((m / 128 : Nat) : Int) := by rw [wu64 (by omega) (by omega)]; omega
    have HP := Lib.hid hp; have HM := Lib.hid hm; have HO := Lib.hid ho; clear hp hm ho
    have hbs := hb.size
    by_cases h : 128 ≤ m
    · have HY := Lib.hid (show ((m : Int) % 128 + 128) = ((UInt8.ofNat (m % 128 + 128)).toNat : Int) by rw [← of_nat8 (by omega)]; omega)
      go_wp2_with (at_builtin; refine wp_app (.tmp 11) (.tmp 16) u8 rfl rfl rfl rfl (HO.out.alloc _) (rd_box wr _ _ _ HY.out) (by simp; omega) (by simp; omega) ?_; intro v2 w2 ho2 hg2 _)
      have hb2 : Below w.heap.size w w2 := below_grown (hb.alloc hbs _) (HO.out.alloc _) (Nat.le_refl _) (by simp; omega) hg2
      go_wp2
      go_roundw
      case rel => exact ⟨m / 128, pre ++ [UInt8.ofNat (m % 128 + 128)], by have := HM.out; omega, by rw [← HP.out, num_step h]; simp, rfl, by simpa using ho2, hb2⟩
      case measure => simp [intOf]; omega
    · have HY := Lib.hid (show (m : Int) = ((UInt8.ofNat m).toNat : Int) from of_nat8 (by omega))
      go_wp2_with (at_builtin; refine wp_app (.tmp 20) (.tmp 23) u8 rfl rfl rfl rfl (HO.out.alloc _) (rd_box wr _ _ _ HY.out) (by simp; omega) (by simp; omega) ?_; intro v2 w2 ho2 hg2 _)
      have hb2 : Below w.heap.size w w2 := below_grown (hb.alloc hbs _) (HO.out.alloc _) (Nat.le_refl _) (by simp; omega) hg2
      go_wp2
      go_ret
      refine ⟨v2, rfl, ?_, hb2⟩
      rw [← HP.out, num_end h]
      simpa using ho2

theorem rsize (n : Nat) (hn : n < 18446744073709551616) (w : World) : Calls Tryz.prog 53 #[.int .u64 n] w fun e w' => e = .returned (.int .i64 (sz n : Nat)) ∧ Below w.heap.size w w' := by
  have HN := Lib.hid hn; clear hn
  go_enter Tryz.func53, Tryz.ntmps53
  go_wp2_with (go_at_call 54; refine (put _ [] n HN.out _ (Rd.nil _) (by simp)).mono ?_; rintro e w1 ⟨v1, rfl, ho1, hb1⟩; obtain ⟨A1, c1, rfl⟩ := ho1.slice)
  go_ret
  exact ⟨by simp [sz], hb1⟩
end Go.Proofs.YtpfckpaokoifhaaGreatDoor.Nm
