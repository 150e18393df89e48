/- The program's digits. -/
import Derived.Test.YtjlhicopinhiaaaDoorSy
import Derived.Test.YtjlhicopinhiaaaDoorDg
import Derived.Lib.SlBytesConst
import Derived.Laws.BitsAllLaws
namespace Go.Proofs.YtjlhicopinhiaaaDoor.Dp
open Go Go.RowKit Go.Proofs.YtjlhicopinhiaaaDoor.Pa Go.Proofs.YtjlhicopinhiaaaDoor.Pb Go.Proofs.YtjlhicopinhiaaaDoor.Pc Go.Proofs.YtjlhicopinhiaaaDoor.Pf Go.Proofs.YtjlhicopinhiaaaDoor.Pq Go.Proofs.YtjlhicopinhiaaaDoor.Pr Go.Proofs.YtjlhicopinhiaaaDoor.Sv Go.Proofs.YtjlhicopinhiaaaDoor.Sk Go.Proofs.YtjlhicopinhiaaaDoor.Sd Go.Proofs.YtjlhicopinhiaaaDoor.Se Go.Proofs.YtjlhicopinhiaaaDoor.Sf Go.Proofs.YtjlhicopinhiaaaDoor.Su Go.Proofs.YtjlhicopinhiaaaDoor.Sy Go.Proofs.YtjlhicopinhiaaaDoor.Dg
set_option linter.unusedVariables false
set_option linter.unusedSimpArgs false
theorem rd_label (w : World) : Rd (w.alloc (.cells #[.int .u8 112, .int .u8 97, .int .u8 119, .int .u8 108, .int .u8 32, .int .u8 115, .int .u8 97, .int .u8 102, .int .u8 101, .int .u8 116, .int .u8 121] 5 (11, 12))) (.slice (some ⟨w.heap.size, 0, none⟩) label.length label.length) label := by
  refine ⟨_, 11, rfl, by decide, by decide, fun _ => ⟨_, rfl, fun j u hu => ?_⟩⟩
  have hadd : (⟨w.heap.size, 0, none⟩ : Addr).add j = ⟨w.heap.size, j, none⟩ := by simp [Addr.add]; intro h; omega
  rw [hadd, World.cell?_alloc_mark]
  have : (#[.int .u8 112, .int .u8 97, .int .u8 119, .int .u8 108, .int .u8 32, .int .u8 115, .int .u8 97, .int .u8 102, .int .u8 101, .int .u8 116, .int .u8 121] : Array Value) = (cb label).toArray := rfl
  rw [this]
  simpa using hu
theorem By.rd {w : World} {g : Nat} {T : TypeId} {n : Nat} {k : Vector UInt8 n} (h : By w g T k) (hn : n ≤ maxLen) : Rd w (.slice (some ⟨g, 0, none⟩) n n) k.toList := by
  have ha : Arr w g T k.toList := by unfold Arr; rw [← bv_cb]; exact h
  have := ha.rd 0 n n (by simp) (Nat.le_refl _) hn
  rw [List.drop_zero, List.take_of_length_le (by simp)] at this
  exact this
theorem shl_or (a b : Nat) (ha : a < 72057594037927936) (hb : b < 256) : bits .or .u64 (IntKind.u64.wrap ((a : Int) * 256)) (IntKind.u64.wrap (b : Int)) = ((a * 256 + b : Nat) : Int) := by
  have e1 : IntKind.u64.wrap ((a : Int) * 256) = ((a * 256 : Nat) : Int) := by rw [IntKind.wrap_u64]; omega
  have e2 : IntKind.u64.wrap (b : Int) = (b : Int) := by rw [IntKind.wrap_u64]; omega
  rw [e1, e2, u64_or_nat _ _ (by omega) (by omega)]
  have := Nat.shiftLeft_add_eq_or_of_lt (i := 8) (b := b) (by omega) a
  rw [Nat.shiftLeft_eq] at this
  exact congrArg _ this.symm
theorem dig_byte (N Q : Nat) (hN : N < 1099511627776) (hQ : 0 < Q) : IntKind.u64.wrap (48 + (IntKind.u64.wrap ((N : Int) / (Q : Int))).tmod 10) % 256 = ((UInt8.ofNat (48 + N / Q % 10)).toNat : Int) := by
  have h1 : N / Q ≤ N := Nat.div_le_self _ _
  have e1 : (N : Int) / (Q : Int) = ((N / Q : Nat) : Int) := by simp
  rw [e1]
  generalize N / Q = M at *
  have e2 : IntKind.u64.wrap (M : Int) = (M : Int) := by rw [IntKind.wrap_u64]; omega
  rw [e2, Int.tmod_eq_emod_of_nonneg (by omega), ← of_nat8 (by omega), IntKind.wrap_u64]
  omega
theorem push1 {wr : World} {base n c : Nat} {A : Option Addr} {l : List UInt8} (ho : Own wr base 5 (.slice A n c) l) (hn : n = l.length) (hbase : base ≤ wr.heap.size) (hl : l.length + 1 ≤ 140737488355328) (y : Int) (b : UInt8) (hy : y = (b.toNat : Int)) :
    ∃ A' c' w', (appX #[30, 30] 30 #[.slice A n c, .slice (some ⟨wr.heap.size, 0, none⟩) 1 1]).run Tryd.prog (wr.alloc (.cells #[.int .u8 y] 5)) = .ok (.slice A' (n + 1) c') w' ∧ Own w' base 5 (.slice A' (n + 1) c') (l ++ [b]) ∧ Below base wr w' ∧ wr.heap.size < w'.heap.size ∧
      ∀ d, d < wr.heap.size → (Value.slice A n c).ownBlock ≠ some d → hp w' d = hp wr d ∧ (Value.slice A' (n + 1) c').ownBlock ≠ some d := by
  subst hn
  obtain ⟨v', w', hr, o', hg, hh⟩ := run_appX uu8 30 (ho.alloc (.cells #[.int .u8 y] 5)) (rd_box wr 5 y b hy) (by simp; omega) (by simp; omega)
  obtain ⟨A', c', hv'⟩ := o'.slice
  obtain rfl : v' = .slice A' (l.length + 1) c' := by rw [hv']; simp
  refine ⟨A', c', w', hr, o', below_grown ((Below.refl base wr).alloc hbase _) (ho.alloc _) (Nat.le_refl _) (by simp; omega) hg, ?_, ?_⟩
  · have := hg.size; simp at this; omega
  · intro d hd hne
    have h1 : hp w' d = hp (wr.alloc (.cells #[.int .u8 y] 5)) d := hg.block d (by simp; omega) (fun h => hne h.symm)
    refine ⟨h1.trans (hp_alloc_past _ _ hd), ?_⟩
    rcases hh with ⟨h, -⟩ | ⟨h, -⟩
    · rw [h]; exact hne
    · rw [h]; simp; omega
set_option maxHeartbeats 1000000 in
set_option maxRecDepth 100000 in
theorem pdigits (k : Vector UInt8 32) (r : Nat) (hr : 1 ≤ r) (hr2 : r ≤ 6000) (w : World) (hT : Tab w) :
    Calls Tryd.prog 14 #[.agg (bv k), .int .i64 (r : Int)] w fun e w' => e = .returned (.string ⟨(digits k r).toArray⟩) ∧ Below w.heap.size w w' := by
  have HT := Lib.hid hT; clear hT
  have hcv : ∀ w : World, (convert 30 30 (.slice (some ⟨w.heap.size, 0, none⟩) 11 11)).run Tryd.prog (w.alloc (.cells #[.int .u8 112, .int .u8 97, .int .u8 119, .int .u8 108, .int .u8 32, .int .u8 115, .int .u8 97, .int .u8 102, .int .u8 101, .int .u8 116, .int .u8 121] 5)) = .ok (.slice (some ⟨w.heap.size, 0, none⟩) 11 11) (w.alloc (.cells #[.int .u8 112, .int .u8 97, .int .u8 119, .int .u8 108, .int .u8 32, .int .u8 115, .int .u8 97, .int .u8 102, .int .u8 101, .int .u8 116, .int .u8 121] 5 (11, 12))) :=
    fun w => Lib.run_convert_bytes_const w _ _ _ 11 11 Tryd.underlying30 Tryd.underlying5
  have hcv := hcv (w.alloc (.cells (bv k) 23))
  simp at hcv
  have al : ∀ (w : World) (o : Obj), Below w.heap.size w (w.alloc o) := fun w o => (Below.refl _ _).alloc (Nat.le_refl _) _
  obtain ⟨wl, hwl⟩ : ∃ x, x = (w.alloc (.cells (bv k) 23)).alloc (.cells #[.int .u8 112, .int .u8 97, .int .u8 119, .int .u8 108, .int .u8 32, .int .u8 115, .int .u8 97, .int .u8 102, .int .u8 101, .int .u8 116, .int .u8 121] 5 (11, 12)) := ⟨_, rfl⟩
  have hk : By wl w.heap.size 23 k := by rw [hwl]; unfold By; simp [go_sem]
  have hlb : Rd wl (.slice (some ⟨w.heap.size + 1, 0, none⟩) label.length label.length) label := by
    have := rd_label (w.alloc (.cells (bv k) 23))
    rw [hwl]
    simpa using this
  obtain ⟨v1, w1, hap, r1, b1, -⟩ := run_full uu8 30 hlb (By.rd hk (by simp [maxLen])) (by simp [label])
  rw [app_x] at hap
  have R1 := Lib.hid r1; have B1 := Lib.hid b1; have HK := Lib.hid hk
  clear r1 b1 hk hlb
  go_enter Tryd.func14, Tryd.ntmps14
  rw [hwl] at hap
  rw [show label.length = 11 from rfl] at hap
  go_wp2_with (go_at_call 9999)
  go_at_call 9
  have b0 : Below w.heap.size w w1 := by
    have h2 := B1.out
    rw [hwl] at h2
    exact (((Below.refl _ _).alloc (Nat.le_refl _) _).alloc (by simp) _).trans (h2.mono (by simp; omega))
  have hk1 : By w1 w.heap.size 23 k := HK.out.below B1.out
  refine (hsum w1 (HT.out.below b0) R1.out (by simp [label])).mono ?_
  rintro _ w2 ⟨rfl, b2⟩
  have b02 := b0.trans (b2.mono b0.size)
  have hk2 := hk1.below b2
  have HK2 := Lib.hid hk2; have B02 := Lib.hid b02
  have hs2 : w.heap.size < w2.heap.size := hk2.lt
  clear hap hcv b0 hk1 b2 hk2 b02
  go_wp2_with (go_at_call 9999)
  have hz : By (w2.alloc (.cells (bv (sha (label ++ k.toList))) 23)) w2.heap.size 23 (turnsN k 0) := hp_alloc_at _ _ rfl
  have hk3 := HK2.out.alloc (.cells (bv (sha (label ++ k.toList))) 23)
  have b03 := B02.out.alloc B02.out.size (.cells (bv (sha (label ++ k.toList))) 23)
  have HZ := Lib.hid hz; have HK3 := Lib.hid hk3; have B03 := Lib.hid b03; clear hz hk3 b03
  generalize hg5 : w2.heap.size = g5 at *
  go_loopw [20] (fun s wr => ∃ i : Nat, i ≤ r - 1 ∧ s = .int .i64 i ∧ By wr w.heap.size 23 k ∧ By wr g5 23 (turnsN k i) ∧ Below w.heap.size w wr) (fun s _ => r - (intOf s).toNat)
  case atStart => exact ⟨0, by omega, rfl, HK3.out, HZ.out, B03.out⟩
  case round =>
    obtain ⟨i, hi, rfl, a1, a2, ab⟩ := hrel
    by_cases hlt : i < r - 1
    · have hlt' : (i : Int) < (r : Int) - 1 := by omega
      go_wp2_with fail
      refine wp_region_calm_tail (S := Like wr) 2 (by kernel_rfl) (by kernel_rfl) (Like.refl _) ?_
      intro hN
      simp only [List.take_succ_cons, List.take_zero, List.drop_succ_cons, List.drop_zero]
      repeat (go_big_quiet_step (fail))
      refine wpQuiet_nil ?_
      rintro ⟨W', nq, rfl⟩
      clear hN
      have d1 : By (wr.drewN nq) w.heap.size 23 k := (hp_drewN nq _).trans a1
      have d2 : By (wr.drewN nq) g5 23 (turnsN k i) := (hp_drewN nq _).trans a2
      have db : Below w.heap.size w (wr.drewN nq) := ⟨ab.os, ab.tape, ab.output, ab.size, ab.block⟩
      have e32 : (turnsN k i).toList.length = 32 := by simp
      have hrd : Rd (wr.drewN nq) (.slice (some ⟨g5, 0, none⟩) (turnsN k i).toList.length (turnsN k i).toList.length) (turnsN k i).toList := by rw [e32]; exact By.rd d2 (by simp [maxLen])
      obtain ⟨v3, w3, hap3, r3, b3, -⟩ := run_full uu8 30 hrd (By.rd d1 (by simp [maxLen])) (by simp)
      rw [app_x, e32] at hap3
      have D1 := Lib.hid (d1.below b3); have D2 := Lib.hid (d2.below b3); have DB := Lib.hid (db.trans (b3.mono db.size)); have R3 := Lib.hid r3
      clear d1 d2 db hrd r3 b3 a1 a2 ab e32
      go_wp2_with (go_at_call 9999)
      go_at_call 9
      refine (hsum w3 (HT.out.below DB.out) R3.out (by simp)).mono ?_
      rintro _ w4 ⟨rfl, b4⟩
      have d1 := D1.out.below b4
      have d2 : hp w4 g5 = some (.cells (bv (turnsN k i)) 23 (0, 0)) := D2.out.below b4
      have b04 := DB.out.trans (b4.mono DB.out.size)
      have E1 := Lib.hid d1; have E2 := Lib.hid d2; have B04 := Lib.hid b04
      clear d1 b4 b04 hap3
      go_wp2_with fail
      refine ⟨⟨i + 1, by omega, by go_num, ?_, ?_, ?_⟩, ?_⟩
      · exact (hp_setRow_other _ _ _ (by omega)).trans E1.out
      · exact hp_setRow_same _ _ _ _ _ E2.out
      · exact Below.setRow B04.out (by omega) _
      · simp [intOf]; omega
    · obtain rfl : i = r - 1 := by omega
      go_wp2_with fail
      have HA := Lib.hid a2; have HB := Lib.hid ab; clear a1 a2 ab
      generalize hH : turnsN k (r - 1) = H at *
      obtain ⟨wq, hwq⟩ : ∃ x, x = wr := ⟨_, rfl⟩
      subst hwq
      go_loopw [6, 27] (fun s t wr => ∃ (g : Nat) (A : Option Addr) (c : Nat), g ≤ 6 ∧ t = .int .i64 g ∧ s = .slice A (6 * g) c ∧ Own wr (g5 + 1) 5 s (groups H g) ∧ g5 < wr.heap.size ∧ By wr g5 23 H ∧ Below w.heap.size w wr) (fun _ t _ => 6 - (intOf t).toNat)
      case atStart => exact ⟨0, none, 0, by omega, rfl, rfl, Own.nil _ _ _, HA.out.lt, HA.out, HB.out⟩
      case round =>
        obtain ⟨g, A, c, hg, rfl, rfl, ao, hgs, ah, ab⟩ := hrel
        by_cases hg6 : g < 6
        · have hsl : (Instr.sliceAt 23 (.pointer (some ⟨g5, 0, none⟩)) (some (.int .i64 (5 * (g : Int)))) (some (.int .i64 (5 * (g : Int) + 5))) none).run Tryd.prog wr = .ok (.slice (some ⟨g5, 5 * g, none⟩) 5 (32 - 5 * g)) wr := by
            obtain rfl | rfl | rfl | rfl | rfl | rfl : g = 0 ∨ g = 1 ∨ g = 2 ∨ g = 3 ∨ g = 4 ∨ g = 5 := by omega
            all_goals kernel_rfl
          go_wp2_with fail
          go_loop [8, 37] (fun s t => ∃ j : Nat, j ≤ 5 ∧ t = .int .i64 j ∧ s = .int .u64 (five H g j : Nat)) (fun _ t => 5 - (intOf t).toNat)
          case atStart => exact ⟨0, by omega, rfl, rfl⟩
          case round =>
            obtain ⟨j, hj, rfl, rfl⟩ := hrel
            by_cases hj5 : j < 5
            · have cH := ah.cell (5 * g + j) (by omega)
              have hfl := five_lt H g j
              go_wp2_with fail
              have hb5 : five H g j < 72057594037927936 / 16 := by
                have : (256 : Nat) ^ j ≤ 256 ^ 4 := Nat.pow_le_pow_right (by decide) (by omega)
                have e : (256 : Nat) ^ 4 = 4294967296 := by decide
                omega
              have hgd : H.toList.getD (5 * g + j) 0 = H[5 * g + j]'(by omega) := by
                rw [List.getD_eq_getElem?_getD, List.getElem?_eq_getElem (by simp; omega)]; simp
              refine ⟨⟨j + 1, by omega, by go_num, ?_⟩, by simp [intOf]; omega⟩
              rw [shl_or _ _ (by omega) (UInt8.toNat_lt _), five, hgd]
            · obtain rfl : j = 5 := by omega
              have hsz := ab.size
              obtain ⟨A1, c1, w5, hr1, o1, bb1, hs1, hk1⟩ := push1 ao (groups_length H g).symm (by omega) (by rw [groups_length]; omega) 32 32 rfl
              have ah1 : By w5 g5 23 H := (hk1 g5 (by omega) (fun h => by have := ao.lt g5 h; omega)).1.trans ah
              have ab1 : Below w.heap.size w w5 := ab.trans (bb1.mono (by omega))
              have O1 := Lib.hid o1; have AH1 := Lib.hid ah1; have AB1 := Lib.hid ab1; have HS1 := Lib.hid hs1
              clear o1 hk1 bb1 ah1 ab1 ao hs1 ah ab
              have hN5 : five H g 5 < 1099511627776 := five_lt H g 5
              generalize hN : five H g 5 = N at *
              go_wp2_with fail
              have d0 : hp (w5.alloc (.cells #[.int .u64 10000, .int .u64 1000, .int .u64 100, .int .u64 10, .int .u64 1] 42)) w5.heap.size = some (.cells #[.int .u64 10000, .int .u64 1000, .int .u64 100, .int .u64 10, .int .u64 1] 42 (0, 0)) := hp_alloc_at _ _ rfl
              have ndd : (Value.slice A1 (6 * g + 1) c1).ownBlock ≠ some w5.heap.size := fun h => by have := (O1.out.lt _ h).2; omega
              have O2 := Lib.hid (O1.out.alloc (.cells #[.int .u64 10000, .int .u64 1000, .int .u64 100, .int .u64 10, .int .u64 1] 42))
              have AH2 := Lib.hid (AH1.out.alloc (.cells #[.int .u64 10000, .int .u64 1000, .int .u64 100, .int .u64 10, .int .u64 1] 42))
              have AB2 := Lib.hid (AB1.out.alloc (by have := HS1.out; omega) (.cells #[.int .u64 10000, .int .u64 1000, .int .u64 100, .int .u64 10, .int .u64 1] 42))
              have D0 := Lib.hid d0; have ND := Lib.hid ndd; have HS2 := Lib.hid (show wr.heap.size < w5.heap.size from HS1.out)
              clear d0 ndd O1 AH1 AB1 HS1 hr1
              generalize hd : w5.heap.size = d at *
              go_loopw [6, 52] (fun s t wr => ∃ (p : Nat) (A : Option Addr) (c : Nat), p ≤ 5 ∧ t = .int .i64 p ∧ s = .slice A (6 * g + 1 + p) c ∧ Own wr (g5 + 1) 5 s (groups H g ++ (group N).take (1 + p)) ∧ s.ownBlock ≠ some d ∧ hp wr d = some (.cells #[.int .u64 10000, .int .u64 1000, .int .u64 100, .int .u64 10, .int .u64 1] 42 (0, 0)) ∧ d < wr.heap.size ∧ g5 < wr.heap.size ∧ By wr g5 23 H ∧ Below w.heap.size w wr) (fun _ t _ => 5 - (intOf t).toNat)
              case atStart => exact ⟨0, A1, c1, by omega, rfl, rfl, O2.out, ND.out, D0.out, (Array.getElem?_eq_some_iff.1 D0.out).1, by have := HS2.out; simp; omega, AH2.out, AB2.out⟩
              case round =>
                obtain ⟨p, A2, c2, hp5, rfl, rfl, bo, bn, bd, bs, bg, bh, bb⟩ := hrel
                by_cases hlt : p < 5
                · have hcell : wr.cell? ⟨d, p, none⟩ = some (.int .u64 (pw p : Nat)) := by
                    rw [hp_cell bd]
                    obtain rfl | rfl | rfl | rfl | rfl : p = 0 ∨ p = 1 ∨ p = 2 ∨ p = 3 ∨ p = 4 := by omega
                    all_goals rfl
                  have hbb := bb.size
                  have hln : 6 * g + 1 + p = (groups H g ++ (group N).take (1 + p)).length := by
                    rw [List.length_append, groups_length, List.length_take, group_length]; omega
                  have hpp := pw_pos p
                  obtain ⟨A3, c3, w6, hr3, o3, bb3, hs3, hk3⟩ := push1 bo hln (by omega) (by rw [← hln]; omega) (IntKind.u64.wrap (48 + (IntKind.u64.wrap ((N : Int) / (pw p : Nat))).tmod 10) % 256) (UInt8.ofNat (48 + N / pw p % 10)) (dig_byte N (pw p) hN5 (pw_pos p))
                  have bh3 : By w6 g5 23 H := (hk3 g5 (by omega) (fun h => by have := bo.lt g5 h; omega)).1.trans bh
                  have ab3 : Below w.heap.size w w6 := bb.trans (bb3.mono (by omega))
                  obtain ⟨hkd, hnd⟩ := hk3 d bs bn
                  have hdd := hkd.trans bd
                  rw [List.append_assoc, group_take N p hlt] at o3
                  have BO := Lib.hid o3; have BH := Lib.hid bh3; have BB := Lib.hid ab3; have BN := Lib.hid hnd; have BD := Lib.hid hdd
                  clear o3 bh3 ab3 hnd hdd hkd hk3 bb3 bo bn bd bh bb hln
                  generalize hQ : pw p = Q at *
                  go_wp2_with fail
                  refine ⟨⟨p + 1, A3, c3, by omega, by go_num, by congr 1, BO.out, BN.out, BD.out, by omega, by omega, BH.out, BB.out⟩, by simp [intOf]; omega⟩
                · obtain rfl : p = 5 := by omega
                  have BO := Lib.hid bo; have BH := Lib.hid bh; have BB := Lib.hid bb; clear bo bh bb bn bd
                  go_wp2_with fail
                  refine ⟨⟨g + 1, A2, c2, by omega, by go_num, by congr 1, ?_, bg, BH.out, BB.out⟩, by simp [intOf]; omega⟩
                  have e : groups H (g + 1) = groups H g ++ (group N).take (1 + 5) := by rw [groups, hN, List.take_of_length_le (by rw [group_length]; decide)]
                  rw [e]; exact BO.out
        · obtain rfl : g = 6 := by omega
          have AB := Lib.hid ab
          have hcs := run_str uu8 Tryd.underlying5 Tryd.underlying9 ao.rd
          clear ah ab
          go_wp2_with fail
          go_ret
          refine ⟨?_, AB.out⟩
          rw [digits, hH]
          rfl
end Go.Proofs.YtjlhicopinhiaaaDoor.Dp
