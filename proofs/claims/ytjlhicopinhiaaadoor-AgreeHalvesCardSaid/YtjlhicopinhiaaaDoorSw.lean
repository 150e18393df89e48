/- The functions on words: turn, s0, s1, S0, S1, turned. -/
import Derived.Test.YtjlhicopinhiaaaDoorProg
import Derived.Test.YtjlhicopinhiaaaDoorSh
import Derived.WalkLawsBesides
import Derived.Outline
namespace Go.Proofs.YtjlhicopinhiaaaDoor.Sw
open Go Go.RowKit Go.Proofs.YtjlhicopinhiaaaDoor.Pa Go.Proofs.YtjlhicopinhiaaaDoor.Sh
set_option linter.unusedVariables false
set_option linter.unusedSimpArgs false
theorem turn (x : UInt32) (n : Nat) (hn : 1 ≤ n) (hn2 : n < 32) (w : World) : Calls Tryd.prog 39 #[.int .u32 (uw x), .int .u64 (n : Int)] w fun e w' => e = .returned (.int .u32 (uw (rot x n))) ∧ w = w' := by
  have h0 := uw_0 x
  have h1 := uw_lt x
  have hr := uw_rot x n
  go_enter Tryd.func39, Tryd.ntmps39
  go_wp2
  go_ret
  exact ⟨rfl, rfl⟩
theorem s0 (x : UInt32) (w : World) : Calls Tryd.prog 36 #[.int .u32 (uw x)] w fun e w' => e = .returned (.int .u32 (uw (sg0 x))) ∧ w = w' := by
  have h0 := uw_0 x
  have h1 := uw_lt x
  go_enter Tryd.func36, Tryd.ntmps36
  go_wp2_with (go_at_call 9999)
  go_at_call 39
  refine (turn x 7 (by omega) (by omega) _).mono ?_
  rintro e w1 ⟨rfl, rfl⟩
  go_wp2_with (go_at_call 9999)
  go_at_call 39
  refine (turn x 18 (by omega) (by omega) _).mono ?_
  rintro e w1 ⟨rfl, rfl⟩
  go_wp2_with fail
  go_ret
  exact ⟨rfl, rfl⟩
theorem s1 (x : UInt32) (w : World) : Calls Tryd.prog 35 #[.int .u32 (uw x)] w fun e w' => e = .returned (.int .u32 (uw (sg1 x))) ∧ w = w' := by
  have h0 := uw_0 x
  have h1 := uw_lt x
  go_enter Tryd.func35, Tryd.ntmps35
  go_wp2_with (go_at_call 9999)
  go_at_call 39
  refine (turn x 17 (by omega) (by omega) _).mono ?_
  rintro e w1 ⟨rfl, rfl⟩
  go_wp2_with (go_at_call 9999)
  go_at_call 39
  refine (turn x 19 (by omega) (by omega) _).mono ?_
  rintro e w1 ⟨rfl, rfl⟩
  go_wp2_with fail
  go_ret
  exact ⟨rfl, rfl⟩
theorem S0 (x : UInt32) (w : World) : Calls Tryd.prog 38 #[.int .u32 (uw x)] w fun e w' => e = .returned (.int .u32 (uw (Sg0 x))) ∧ w = w' := by
  have h0 := uw_0 x
  have h1 := uw_lt x
  go_enter Tryd.func38, Tryd.ntmps38
  go_wp2_with (go_at_call 9999)
  go_at_call 39
  refine (turn x 2 (by omega) (by omega) _).mono ?_
  rintro e w1 ⟨rfl, rfl⟩
  go_wp2_with (go_at_call 9999)
  go_at_call 39
  refine (turn x 13 (by omega) (by omega) _).mono ?_
  rintro e w1 ⟨rfl, rfl⟩
  go_wp2_with (go_at_call 9999)
  go_at_call 39
  refine (turn x 22 (by omega) (by omega) _).mono ?_
  rintro e w1 ⟨rfl, rfl⟩
  go_wp2_with fail
  go_ret
  exact ⟨rfl, rfl⟩
theorem S1 (x : UInt32) (w : World) : Calls Tryd.prog 37 #[.int .u32 (uw x)] w fun e w' => e = .returned (.int .u32 (uw (Sg1 x))) ∧ w = w' := by
  have h0 := uw_0 x
  have h1 := uw_lt x
  go_enter Tryd.func37, Tryd.ntmps37
  go_wp2_with (go_at_call 9999)
  go_at_call 39
  refine (turn x 6 (by omega) (by omega) _).mono ?_
  rintro e w1 ⟨rfl, rfl⟩
  go_wp2_with (go_at_call 9999)
  go_at_call 39
  refine (turn x 11 (by omega) (by omega) _).mono ?_
  rintro e w1 ⟨rfl, rfl⟩
  go_wp2_with (go_at_call 9999)
  go_at_call 39
  refine (turn x 25 (by omega) (by omega) _).mono ?_
  rintro e w1 ⟨rfl, rfl⟩
  go_wp2_with fail
  go_ret
  exact ⟨rfl, rfl⟩
theorem rotl2 (x : UInt32) (w : World) : Calls Tryd.prog 33 #[.int .u32 (uw x), .int .i64 (-2)] w fun e w' => e = .returned (.int .u32 (uw (rot x 2))) ∧ w = w' := by
  have h0 := uw_0 x
  have h1 := uw_lt x
  have hk : bits BinOp.and IntKind.u64 (IntKind.u64.wrap (-2)) 31 = 30 := by kernel_rfl
  have hr : bits BinOp.or IntKind.u32 (uw x * 1073741824 % 4294967296) (uw x / 4) = uw (rot x 2) := by
    have h := uw_rot' x 2
    rw [show ((2 : Int) ^ (32 - 2)) = 1073741824 from rfl, show ((2 : Int) ^ 2) = 4 from rfl] at h
    exact h
  go_enter Tryd.func33, Tryd.ntmps33
  go_wp2
  go_ret
  exact ⟨rfl, rfl⟩
theorem turned2 (x : UInt32) (w : World) : Calls Tryd.prog 31 #[.int .u32 (uw x), .int .i64 2] w fun e w' => e = .returned (.int .u32 (uw (rot x 2))) ∧ w = w' := by
  go_enter Tryd.func31, Tryd.ntmps31
  go_wp2_with (go_at_call 9999)
  go_at_call 33
  refine (rotl2 x _).mono ?_
  rintro e w1 ⟨rfl, rfl⟩
  go_wp2_with fail
  go_ret
  exact ⟨rfl, rfl⟩
theorem rotl6 (x : UInt32) (w : World) : Calls Tryd.prog 33 #[.int .u32 (uw x), .int .i64 (-6)] w fun e w' => e = .returned (.int .u32 (uw (rot x 6))) ∧ w = w' := by
  have h0 := uw_0 x
  have h1 := uw_lt x
  have hk : bits BinOp.and IntKind.u64 (IntKind.u64.wrap (-6)) 31 = 26 := by kernel_rfl
  have hr : bits BinOp.or IntKind.u32 (uw x * 67108864 % 4294967296) (uw x / 64) = uw (rot x 6) := by
    have h := uw_rot' x 6
    rw [show ((2 : Int) ^ (32 - 6)) = 67108864 from rfl, show ((2 : Int) ^ 6) = 64 from rfl] at h
    exact h
  go_enter Tryd.func33, Tryd.ntmps33
  go_wp2
  go_ret
  exact ⟨rfl, rfl⟩
theorem turned6 (x : UInt32) (w : World) : Calls Tryd.prog 31 #[.int .u32 (uw x), .int .i64 6] w fun e w' => e = .returned (.int .u32 (uw (rot x 6))) ∧ w = w' := by
  go_enter Tryd.func31, Tryd.ntmps31
  go_wp2_with (go_at_call 9999)
  go_at_call 33
  refine (rotl6 x _).mono ?_
  rintro e w1 ⟨rfl, rfl⟩
  go_wp2_with fail
  go_ret
  exact ⟨rfl, rfl⟩
theorem rotl7 (x : UInt32) (w : World) : Calls Tryd.prog 33 #[.int .u32 (uw x), .int .i64 (-7)] w fun e w' => e = .returned (.int .u32 (uw (rot x 7))) ∧ w = w' := by
  have h0 := uw_0 x
  have h1 := uw_lt x
  have hk : bits BinOp.and IntKind.u64 (IntKind.u64.wrap (-7)) 31 = 25 := by kernel_rfl
  have hr : bits BinOp.or IntKind.u32 (uw x * 33554432 % 4294967296) (uw x / 128) = uw (rot x 7) := by
    have h := uw_rot' x 7
    rw [show ((2 : Int) ^ (32 - 7)) = 33554432 from rfl, show ((2 : Int) ^ 7) = 128 from rfl] at h
    exact h
  go_enter Tryd.func33, Tryd.ntmps33
  go_wp2
  go_ret
  exact ⟨rfl, rfl⟩
theorem turned7 (x : UInt32) (w : World) : Calls Tryd.prog 31 #[.int .u32 (uw x), .int .i64 7] w fun e w' => e = .returned (.int .u32 (uw (rot x 7))) ∧ w = w' := by
  go_enter Tryd.func31, Tryd.ntmps31
  go_wp2_with (go_at_call 9999)
  go_at_call 33
  refine (rotl7 x _).mono ?_
  rintro e w1 ⟨rfl, rfl⟩
  go_wp2_with fail
  go_ret
  exact ⟨rfl, rfl⟩
theorem rotl11 (x : UInt32) (w : World) : Calls Tryd.prog 33 #[.int .u32 (uw x), .int .i64 (-11)] w fun e w' => e = .returned (.int .u32 (uw (rot x 11))) ∧ w = w' := by
  have h0 := uw_0 x
  have h1 := uw_lt x
  have hk : bits BinOp.and IntKind.u64 (IntKind.u64.wrap (-11)) 31 = 21 := by kernel_rfl
  have hr : bits BinOp.or IntKind.u32 (uw x * 2097152 % 4294967296) (uw x / 2048) = uw (rot x 11) := by
    have h := uw_rot' x 11
    rw [show ((2 : Int) ^ (32 - 11)) = 2097152 from rfl, show ((2 : Int) ^ 11) = 2048 from rfl] at h
    exact h
  go_enter Tryd.func33, Tryd.ntmps33
  go_wp2
  go_ret
  exact ⟨rfl, rfl⟩
theorem turned11 (x : UInt32) (w : World) : Calls Tryd.prog 31 #[.int .u32 (uw x), .int .i64 11] w fun e w' => e = .returned (.int .u32 (uw (rot x 11))) ∧ w = w' := by
  go_enter Tryd.func31, Tryd.ntmps31
  go_wp2_with (go_at_call 9999)
  go_at_call 33
  refine (rotl11 x _).mono ?_
  rintro e w1 ⟨rfl, rfl⟩
  go_wp2_with fail
  go_ret
  exact ⟨rfl, rfl⟩
theorem rotl13 (x : UInt32) (w : World) : Calls Tryd.prog 33 #[.int .u32 (uw x), .int .i64 (-13)] w fun e w' => e = .returned (.int .u32 (uw (rot x 13))) ∧ w = w' := by
  have h0 := uw_0 x
  have h1 := uw_lt x
  have hk : bits BinOp.and IntKind.u64 (IntKind.u64.wrap (-13)) 31 = 19 := by kernel_rfl
  have hr : bits BinOp.or IntKind.u32 (uw x * 524288 % 4294967296) (uw x / 8192) = uw (rot x 13) := by
    have h := uw_rot' x 13
    rw [show ((2 : Int) ^ (32 - 13)) = 524288 from rfl, show ((2 : Int) ^ 13) = 8192 from rfl] at h
    exact h
  go_enter Tryd.func33, Tryd.ntmps33
  go_wp2
  go_ret
  exact ⟨rfl, rfl⟩
theorem turned13 (x : UInt32) (w : World) : Calls Tryd.prog 31 #[.int .u32 (uw x), .int .i64 13] w fun e w' => e = .returned (.int .u32 (uw (rot x 13))) ∧ w = w' := by
  go_enter Tryd.func31, Tryd.ntmps31
  go_wp2_with (go_at_call 9999)
  go_at_call 33
  refine (rotl13 x _).mono ?_
  rintro e w1 ⟨rfl, rfl⟩
  go_wp2_with fail
  go_ret
  exact ⟨rfl, rfl⟩
theorem rotl17 (x : UInt32) (w : World) : Calls Tryd.prog 33 #[.int .u32 (uw x), .int .i64 (-17)] w fun e w' => e = .returned (.int .u32 (uw (rot x 17))) ∧ w = w' := by
  have h0 := uw_0 x
  have h1 := uw_lt x
  have hk : bits BinOp.and IntKind.u64 (IntKind.u64.wrap (-17)) 31 = 15 := by kernel_rfl
  have hr : bits BinOp.or IntKind.u32 (uw x * 32768 % 4294967296) (uw x / 131072) = uw (rot x 17) := by
    have h := uw_rot' x 17
    rw [show ((2 : Int) ^ (32 - 17)) = 32768 from rfl, show ((2 : Int) ^ 17) = 131072 from rfl] at h
    exact h
  go_enter Tryd.func33, Tryd.ntmps33
  go_wp2
  go_ret
  exact ⟨rfl, rfl⟩
theorem turned17 (x : UInt32) (w : World) : Calls Tryd.prog 31 #[.int .u32 (uw x), .int .i64 17] w fun e w' => e = .returned (.int .u32 (uw (rot x 17))) ∧ w = w' := by
  go_enter Tryd.func31, Tryd.ntmps31
  go_wp2_with (go_at_call 9999)
  go_at_call 33
  refine (rotl17 x _).mono ?_
  rintro e w1 ⟨rfl, rfl⟩
  go_wp2_with fail
  go_ret
  exact ⟨rfl, rfl⟩
theorem rotl18 (x : UInt32) (w : World) : Calls Tryd.prog 33 #[.int .u32 (uw x), .int .i64 (-18)] w fun e w' => e = .returned (.int .u32 (uw (rot x 18))) ∧ w = w' := by
  have h0 := uw_0 x
  have h1 := uw_lt x
  have hk : bits BinOp.and IntKind.u64 (IntKind.u64.wrap (-18)) 31 = 14 := by kernel_rfl
  have hr : bits BinOp.or IntKind.u32 (uw x * 16384 % 4294967296) (uw x / 262144) = uw (rot x 18) := by
    have h := uw_rot' x 18
    rw [show ((2 : Int) ^ (32 - 18)) = 16384 from rfl, show ((2 : Int) ^ 18) = 262144 from rfl] at h
    exact h
  go_enter Tryd.func33, Tryd.ntmps33
  go_wp2
  go_ret
  exact ⟨rfl, rfl⟩
theorem turned18 (x : UInt32) (w : World) : Calls Tryd.prog 31 #[.int .u32 (uw x), .int .i64 18] w fun e w' => e = .returned (.int .u32 (uw (rot x 18))) ∧ w = w' := by
  go_enter Tryd.func31, Tryd.ntmps31
  go_wp2_with (go_at_call 9999)
  go_at_call 33
  refine (rotl18 x _).mono ?_
  rintro e w1 ⟨rfl, rfl⟩
  go_wp2_with fail
  go_ret
  exact ⟨rfl, rfl⟩
theorem rotl19 (x : UInt32) (w : World) : Calls Tryd.prog 33 #[.int .u32 (uw x), .int .i64 (-19)] w fun e w' => e = .returned (.int .u32 (uw (rot x 19))) ∧ w = w' := by
  have h0 := uw_0 x
  have h1 := uw_lt x
  have hk : bits BinOp.and IntKind.u64 (IntKind.u64.wrap (-19)) 31 = 13 := by kernel_rfl
  have hr : bits BinOp.or IntKind.u32 (uw x * 8192 % 4294967296) (uw x / 524288) = uw (rot x 19) := by
    have h := uw_rot' x 19
    rw [show ((2 : Int) ^ (32 - 19)) = 8192 from rfl, show ((2 : Int) ^ 19) = 524288 from rfl] at h
    exact h
  go_enter Tryd.func33, Tryd.ntmps33
  go_wp2
  go_ret
  exact ⟨rfl, rfl⟩
theorem turned19 (x : UInt32) (w : World) : Calls Tryd.prog 31 #[.int .u32 (uw x), .int .i64 19] w fun e w' => e = .returned (.int .u32 (uw (rot x 19))) ∧ w = w' := by
  go_enter Tryd.func31, Tryd.ntmps31
  go_wp2_with (go_at_call 9999)
  go_at_call 33
  refine (rotl19 x _).mono ?_
  rintro e w1 ⟨rfl, rfl⟩
  go_wp2_with fail
  go_ret
  exact ⟨rfl, rfl⟩
theorem rotl22 (x : UInt32) (w : World) : Calls Tryd.prog 33 #[.int .u32 (uw x), .int .i64 (-22)] w fun e w' => e = .returned (.int .u32 (uw (rot x 22))) ∧ w = w' := by
  have h0 := uw_0 x
  have h1 := uw_lt x
  have hk : bits BinOp.and IntKind.u64 (IntKind.u64.wrap (-22)) 31 = 10 := by kernel_rfl
  have hr : bits BinOp.or IntKind.u32 (uw x * 1024 % 4294967296) (uw x / 4194304) = uw (rot x 22) := by
    have h := uw_rot' x 22
    rw [show ((2 : Int) ^ (32 - 22)) = 1024 from rfl, show ((2 : Int) ^ 22) = 4194304 from rfl] at h
    exact h
  go_enter Tryd.func33, Tryd.ntmps33
  go_wp2
  go_ret
  exact ⟨rfl, rfl⟩
theorem turned22 (x : UInt32) (w : World) : Calls Tryd.prog 31 #[.int .u32 (uw x), .int .i64 22] w fun e w' => e = .returned (.int .u32 (uw (rot x 22))) ∧ w = w' := by
  go_enter Tryd.func31, Tryd.ntmps31
  go_wp2_with (go_at_call 9999)
  go_at_call 33
  refine (rotl22 x _).mono ?_
  rintro e w1 ⟨rfl, rfl⟩
  go_wp2_with fail
  go_ret
  exact ⟨rfl, rfl⟩
theorem rotl25 (x : UInt32) (w : World) : Calls Tryd.prog 33 #[.int .u32 (uw x), .int .i64 (-25)] w fun e w' => e = .returned (.int .u32 (uw (rot x 25))) ∧ w = w' := by
  have h0 := uw_0 x
  have h1 := uw_lt x
  have hk : bits BinOp.and IntKind.u64 (IntKind.u64.wrap (-25)) 31 = 7 := by kernel_rfl
  have hr : bits BinOp.or IntKind.u32 (uw x * 128 % 4294967296) (uw x / 33554432) = uw (rot x 25) := by
    have h := uw_rot' x 25
    rw [show ((2 : Int) ^ (32 - 25)) = 128 from rfl, show ((2 : Int) ^ 25) = 33554432 from rfl] at h
    exact h
  go_enter Tryd.func33, Tryd.ntmps33
  go_wp2
  go_ret
  exact ⟨rfl, rfl⟩
theorem turned25 (x : UInt32) (w : World) : Calls Tryd.prog 31 #[.int .u32 (uw x), .int .i64 25] w fun e w' => e = .returned (.int .u32 (uw (rot x 25))) ∧ w = w' := by
  go_enter Tryd.func31, Tryd.ntmps31
  go_wp2_with (go_at_call 9999)
  go_at_call 33
  refine (rotl25 x _).mono ?_
  rintro e w1 ⟨rfl, rfl⟩
  go_wp2_with fail
  go_ret
  exact ⟨rfl, rfl⟩
theorem turned (x : UInt32) (n : Int) (hn : n = 2 ∨ n = 6 ∨ n = 7 ∨ n = 11 ∨ n = 13 ∨ n = 17 ∨ n = 18 ∨ n = 19 ∨ n = 22 ∨ n = 25) (w : World) : Calls Tryd.prog 31 #[.int .u32 (uw x), .int .i64 n] w fun e w' => e = .returned (.int .u32 (uw (rot x n.toNat))) ∧ w = w' := by
  rcases hn with rfl | rfl | rfl | rfl | rfl | rfl | rfl | rfl | rfl | rfl
  · exact turned2 x w
  · exact turned6 x w
  · exact turned7 x w
  · exact turned11 x w
  · exact turned13 x w
  · exact turned17 x w
  · exact turned18 x w
  · exact turned19 x w
  · exact turned22 x w
  · exact turned25 x w
end Go.Proofs.YtjlhicopinhiaaaDoor.Sw
