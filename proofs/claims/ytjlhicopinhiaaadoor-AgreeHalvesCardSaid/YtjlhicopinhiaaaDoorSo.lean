/- The reference's constants. -/
import Derived.Test.YtjlhicopinhiaaaDoorSk
namespace Go.Proofs.YtjlhicopinhiaaaDoor.So
open Go Go.RowKit Go.Proofs.YtjlhicopinhiaaaDoor.Pa Go.Proofs.YtjlhicopinhiaaaDoor.Pb Go.Proofs.YtjlhicopinhiaaaDoor.Pc Go.Proofs.YtjlhicopinhiaaaDoor.Pf Go.Proofs.YtjlhicopinhiaaaDoor.Pq Go.Proofs.YtjlhicopinhiaaaDoor.Sh Go.Proofs.YtjlhicopinhiaaaDoor.Sv Go.Proofs.YtjlhicopinhiaaaDoor.Sw Go.Proofs.YtjlhicopinhiaaaDoor.Sk
set_option linter.unusedVariables false
set_option linter.unusedSimpArgs false
set_option maxRecDepth 20000
@[go_sem ↓] theorem ldxW64 (x : Value) : Instr.loadAt 56 x = loadX 56 x := rfl
@[go_sem] theorem ldW64 (w : World) (b o : Nat) : (loadX 56 (.pointer (some ⟨b, o, none⟩))).run Tryd.prog w = readR w b o 64 ((loadZ 56 (.pointer (some ⟨b, o, none⟩))).run Tryd.prog w) := load_agg w _ 64 _ Tryd.underlying56 rfl (by kernel_rfl) b o
@[go_sem ↓] theorem stxW64 (x v : Value) : Instr.storeAt 56 x v = storeX 56 x v := rfl
@[go_sem] theorem stW64 (w : World) (b o : Nat) (v : Array Value) : (storeX 56 (.pointer (some ⟨b, o, none⟩)) (.agg v)).run Tryd.prog w = writeR w b o 64 v ((storeZ 56 (.pointer (some ⟨b, o, none⟩)) (.agg v)).run Tryd.prog w) := store_agg w _ 64 (by kernel_rfl) b o v
@[go_sem ↓] theorem ldvW64 (x : Addr) : loadVar 56 x = loadX 56 (.pointer (some x)) := rfl
theorem riW64 (x : Vector UInt32 64) : (Tryd.prog.info? 56).map (·.size) = some (uv x).size := by rw [uv_size]; kernel_rfl
@[simp, go_sem] theorem uv_ex64 (k : Vector UInt32 64) : (uv k).extract 0 64 = uv k := ex_all _ _ (by simp)
@[simp, go_sem] theorem uv_put64 (a b : Vector UInt32 64) : putR (uv a) 0 (uv b) = uv b := Pa.put_all _ _ (by simp)
def Kv : Vector UInt32 64 := ⟨Ks.toArray, rfl⟩
theorem Kv_at (i : Nat) (h : i < 64) : Kv[i] = Kc i := by simp [Kv, Kc, List.getD, Ks, h]
@[go_sem ↓] theorem bdx8 (p : Array (Nat × Value)) : Instr.build 46 p = buildX 46 p := rfl
@[go_sem ↓] theorem bdx64 (p : Array (Nat × Value)) : Instr.build 56 p = buildX 56 p := rfl
@[go_sem] theorem bd8 (w : World) (a b c d e f g h : UInt32) : (buildX 46 #[(0, .int .u32 (uw a)), (1, .int .u32 (uw b)), (2, .int .u32 (uw c)), (3, .int .u32 (uw d)), (4, .int .u32 (uw e)), (5, .int .u32 (uw f)), (6, .int .u32 (uw g)), (7, .int .u32 (uw h))]).run Tryd.prog w = .ok (.agg (uv #v[a, b, c, d, e, f, g, h])) w := by kernel_rfl
@[go_sem] theorem bdK (w : World) : (buildX 56 #[(0, .int .u32 1116352408), (1, .int .u32 1899447441), (2, .int .u32 3049323471), (3, .int .u32 3921009573), (4, .int .u32 961987163), (5, .int .u32 1508970993), (6, .int .u32 2453635748), (7, .int .u32 2870763221), (8, .int .u32 3624381080), (9, .int .u32 310598401), (10, .int .u32 607225278), (11, .int .u32 1426881987), (12, .int .u32 1925078388), (13, .int .u32 2162078206), (14, .int .u32 2614888103), (15, .int .u32 3248222580), (16, .int .u32 3835390401), (17, .int .u32 4022224774), (18, .int .u32 264347078), (19, .int .u32 604807628), (20, .int .u32 770255983), (21, .int .u32 1249150122), (22, .int .u32 1555081692), (23, .int .u32 1996064986), (24, .int .u32 2554220882), (25, .int .u32 2821834349), (26, .int .u32 2952996808), (27, .int .u32 3210313671), (28, .int .u32 3336571891), (29, .int .u32 3584528711), (30, .int .u32 113926993), (31, .int .u32 338241895), (32, .int .u32 666307205), (33, .int .u32 773529912), (34, .int .u32 1294757372), (35, .int .u32 1396182291), (36, .int .u32 1695183700), (37, .int .u32 1986661051), (38, .int .u32 2177026350), (39, .int .u32 2456956037), (40, .int .u32 2730485921), (41, .int .u32 2820302411), (42, .int .u32 3259730800), (43, .int .u32 3345764771), (44, .int .u32 3516065817), (45, .int .u32 3600352804), (46, .int .u32 4094571909), (47, .int .u32 275423344), (48, .int .u32 430227734), (49, .int .u32 506948616), (50, .int .u32 659060556), (51, .int .u32 883997877), (52, .int .u32 958139571), (53, .int .u32 1322822218), (54, .int .u32 1537002063), (55, .int .u32 1747873779), (56, .int .u32 1955562222), (57, .int .u32 2024104815), (58, .int .u32 2227730452), (59, .int .u32 2361852424), (60, .int .u32 2428436474), (61, .int .u32 2756734187), (62, .int .u32 3204031479), (63, .int .u32 3329325298)]).run Tryd.prog w = .ok (.agg (uv Kv)) w := by kernel_rfl
set_option maxRecDepth 100000 in
set_option maxHeartbeats 1000000 in
theorem constants (w : World) : Calls Tryd.prog 34 #[] w fun e w' => e = .returned (.agg (uv Kv)) ∧ Below w.heap.size w w' := by
  go_enter Tryd.func34, Tryd.ntmps34
  go_wp2_with fail
  refine ret_row Tryd.results34 Tryd.underlying56 rfl (riW64 Kv) rfl (hp_alloc_at _ _ rfl) rfl ⟨rfl, ?_⟩
  exact (Below.refl _ _).alloc (Nat.le_refl _) _
end Go.Proofs.YtjlhicopinhiaaaDoor.So
