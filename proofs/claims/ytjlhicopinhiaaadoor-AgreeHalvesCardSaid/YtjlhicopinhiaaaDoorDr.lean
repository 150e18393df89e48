/- The reference's digits. -/
import Derived.Test.YtjlhicopinhiaaaDoorDp
import Derived.BigRegion
import Derived.Deep.RegionWith
namespace Go.Proofs.YtjlhicopinhiaaaDoor.Dr
open Go Go.RowKit Go.Proofs.YtjlhicopinhiaaaDoor.Pa Go.Proofs.YtjlhicopinhiaaaDoor.Pb Go.Proofs.YtjlhicopinhiaaaDoor.Pc Go.Proofs.YtjlhicopinhiaaaDoor.Pf Go.Proofs.YtjlhicopinhiaaaDoor.Pq Go.Proofs.YtjlhicopinhiaaaDoor.Pr Go.Proofs.YtjlhicopinhiaaaDoor.Sv Go.Proofs.YtjlhicopinhiaaaDoor.Sk Go.Proofs.YtjlhicopinhiaaaDoor.Sd Go.Proofs.YtjlhicopinhiaaaDoor.Se Go.Proofs.YtjlhicopinhiaaaDoor.Sf Go.Proofs.YtjlhicopinhiaaaDoor.Su Go.Proofs.YtjlhicopinhiaaaDoor.Sy Go.Proofs.YtjlhicopinhiaaaDoor.Dg Go.Proofs.YtjlhicopinhiaaaDoor.Dp
set_option linter.unusedVariables false
set_option linter.unusedSimpArgs false
set_option maxHeartbeats 1000000 in
set_option maxRecDepth 100000 in
theorem rdigits (k : Vector UInt8 32) (r : Nat) (hr : 1 ≤ r) (hr2 : r ≤ 6000) (w : World) :
    Calls Tryd.prog 15 #[.agg (bv k), .int .i64 (r : Int)] w fun e w' => e = .returned (.string ⟨(digits k r).toArray⟩) ∧ Below w.heap.size w w' := by
  have hcv : ∀ w : World, (convert 30 30 (.slice (some ⟨w.heap.size, 0, none⟩) 11 11)).run Tryd.prog (w.alloc (.cells #[.int .u8 112, .int .u8 97, .int .u8 119, .int .u8 108, .int .u8 32, .int .u8 115, .int .u8 97, .int .u8 102, .int .u8 101, .int .u8 116, .int .u8 121] 5)) = .ok (.slice (some ⟨w.heap.size, 0, none⟩) 11 11) (w.alloc (.cells #[.int .u8 112, .int .u8 97, .int .u8 119, .int .u8 108, .int .u8 32, .int .u8 115, .int .u8 97, .int .u8 102, .int .u8 101, .int .u8 116, .int .u8 121] 5 (11, 12))) :=
    fun w => Lib.run_convert_bytes_const w _ _ _ 11 11 Tryd.underlying30 Tryd.underlying5
  have hcv := hcv (w.alloc (.cells (bv k) 23))
  simp at hcv
  have al : ∀ (w : World) (o : Obj), Below w.heap.size w (w.alloc o) := fun w o => (Below.refl _ _).alloc (Nat.le_refl _) _
  obtain ⟨wl, hwl⟩ : ∃ x, x = (w.alloc (.cells (bv k) 23)).alloc (.cells #[.int .u8 112, .int .u8 97, .int .u8 119, .int .u8 108, .int .u8 32, .int .u8 115, .int .u8 97, .int .u8 102, .int .u8 101, .int .u8 116, .int .u8 121] 5 (11, 12)) := ⟨_, rfl⟩
  have hk : By wl w.heap.size 23 k := by rw [hwl]; unfold By; simp [go_sem]
  have hlb : Rd wl (.slice (some ⟨w.heap.size + 1, 0, none⟩) label.length label.length) label := by
    have := rd_label (w.alloc (.cells (bv k) 23))
    rw [hwl]
    simpa using this
  obtain ⟨v1, w1, hap, r1, b1, -⟩ := run_full uu8 30 hlb (By.rd hk (by simp [maxLen])) (by simp [label])
  rw [app_x] at hap
  have R1 := Lib.hid r1; have B1 := Lib.hid b1; have HK := Lib.hid hk
  clear r1 b1 hk hlb
  go_enter Tryd.func15, Tryd.ntmps15
  rw [hwl] at hap
  rw [show label.length = 11 from rfl] at hap
  go_wp2_with (go_at_call 9999)
  go_at_call 21
  have b0 : Below w.heap.size w w1 := by
    have h2 := B1.out
    rw [hwl] at h2
    exact (((Below.refl _ _).alloc (Nat.le_refl _) _).alloc (by simp) _).trans (h2.mono (by simp; omega))
  have hk1 : By w1 w.heap.size 23 k := HK.out.below B1.out
  refine (rsum w1 R1.out (by simp [label])).mono ?_
  rintro _ w2 ⟨rfl, b2⟩
  have b02 := b0.trans (b2.mono b0.size)
  have hk2 := hk1.below b2
  have HK2 := Lib.hid hk2; have B02 := Lib.hid b02
  have hs2 : w.heap.size < w2.heap.size := hk2.lt
  clear hap hcv b0 hk1 b2 hk2 b02
  go_wp2_with (go_at_call 9999)
  have hz : By (w2.alloc (.cells (bv (sha (label ++ k.toList))) 23)) w2.heap.size 23 (turnsN k 0) := hp_alloc_at _ _ rfl
  have hk3 := HK2.out.alloc (.cells (bv (sha (label ++ k.toList))) 23)
  have b03 := B02.out.alloc B02.out.size (.cells (bv (sha (label ++ k.toList))) 23)
  have HZ := Lib.hid hz; have HK3 := Lib.hid hk3; have B03 := Lib.hid b03; clear hz hk3 b03
  generalize hg5 : w2.heap.size = g5 at *
  go_loopw [6] (fun s wr => ∃ i : Nat, i ≤ r - 1 ∧ s = .int .i64 ((i : Int) + 1) ∧ By wr w.heap.size 23 k ∧ By wr g5 23 (turnsN k i) ∧ Below w.heap.size w wr) (fun s _ => r - (intOf s).toNat)
  case atStart => exact ⟨0, by omega, rfl, HK3.out, HZ.out, B03.out⟩
  case round =>
    obtain ⟨i, hi, rfl, a1, a2, ab⟩ := hrel
    by_cases hlt : i < r - 1
    · have hlt' : (i : Int) + 1 < (r : Int) := by omega
      have hw0 := a1.lt
      have hw5 := a2.lt
      have q1 : By (wr.alloc (.cells #[] 5)).drew w.heap.size 23 k := (hp_drew _).trans (a1.alloc _)
      have q2 : By (wr.alloc (.cells #[] 5)).drew g5 23 (turnsN k i) := (hp_drew _).trans (a2.alloc _)
      have qb : Below w.heap.size w (wr.alloc (.cells #[] 5)).drew := have h := ab.alloc ab.size (.cells #[] 5); ⟨h.os, h.tape, h.output, h.size, h.block⟩
      have e32 : (turnsN k i).toList.length = 32 := by simp
      obtain ⟨A3, c3, w3, hap3, o3, s3, g3⟩ : ∃ A c w', (appX #[30, 30] 30 #[.slice (some ⟨wr.heap.size, 0, none⟩) 0 0, .slice (some ⟨g5, 0, none⟩) 32 32]).run Tryd.prog (wr.alloc (.cells #[] 5)).drew = .ok (.slice A 32 c) w' ∧ Own w' wr.heap.size 5 (.slice A 32 c) (turnsN k i).toList ∧ wr.heap.size ≤ w'.heap.size ∧ Below wr.heap.size (wr.alloc (.cells #[] 5)).drew w' := by
        have ow := (Own.empty wr wr.heap.size 5 (Nat.le_refl _)).drew
        obtain ⟨v', w', hr, o', hg, -⟩ := run_appX uu8 30 ow (By.rd q2 (by simp [maxLen])) (by simp [World.drew]) (by simp)
        obtain ⟨A', c', hv'⟩ := o'.slice
        obtain rfl : v' = .slice A' 32 c' := by rw [hv']; simp
        have hb := below_grown (Below.refl wr.heap.size _) ow (Nat.le_refl _) (by simp [World.drew]) hg
        refine ⟨A', c', w', hr, by simpa using o', ?_, hb⟩
        have := hb.size; simp [World.drew] at this; omega
      have t1 : By w3 w.heap.size 23 k := (g3.hp _ hw0).trans q1
      have t2 : By w3 g5 23 (turnsN k i) := (g3.hp _ hw5).trans q2
      have tb := qb.trans (g3.mono ab.size)
      obtain ⟨v4, w4, hap4, o4, g4, -⟩ := run_appX uu8 30 o3 (By.rd t1 (by simp [maxLen])) s3 (by simp)
      have g4' := below_grown (Below.refl wr.heap.size _) o3 (Nat.le_refl _) s3 g4
      have D1 := Lib.hid (show By w4 w.heap.size 23 k from (g4'.hp _ hw0).trans t1); have D2 := Lib.hid (show By w4 g5 23 (turnsN k i) from (g4'.hp _ hw5).trans t2); have DB := Lib.hid (tb.trans (g4'.mono ab.size)); have R3 := Lib.hid o4.rd
      clear q1 q2 qb e32 t1 t2 tb g4 g4' g3 o3 o4 s3 a1 a2 ab hw0 hw5
      go_wp2_with fail
      go_region_with (go_at_call 21; refine (rsum w4 R3.out (by simp)).mono ?_; rintro _ w5 ⟨rfl, b5⟩; have d2 : hp w5 g5 = some (.cells (bv (turnsN k i)) 23 (0, 0)) := D2.out.below b5)
      · have d1 := D1.out.below b5
        have b04 := DB.out.trans (b5.mono DB.out.size)
        have E1 := Lib.hid d1; have E2 := Lib.hid d2; have B04 := Lib.hid b04
        clear d1 b5 b04 hap3 hap4 d2
        go_wp2_with fail
        refine ⟨⟨i + 1, by omega, by go_num, ?_, ?_, ?_⟩, ?_⟩
        · exact (hp_setRow_other _ _ _ (by omega)).trans E1.out
        · exact hp_setRow_same _ _ _ _ _ E2.out
        · exact Below.setRow B04.out (by omega) _
        · simp [intOf]; omega
    · obtain rfl : i = r - 1 := by omega
      have hnl : ¬ ((r - 1 : Nat) : Int) + 1 < (r : Int) := by omega
      go_wp2_with fail
      have HA := Lib.hid a2; have HB := Lib.hid ab; clear a1 a2 ab
      generalize hH : turnsN k (r - 1) = H at *
      obtain ⟨wq, hwq⟩ : ∃ x, x = wr := ⟨_, rfl⟩
      subst hwq
      go_loopw [7, 8] (fun s t wr => ∃ g : Nat, g ≤ 6 ∧ t = .int .i64 (5 * (g : Int)) ∧ s = .string ⟨(groups H g).toArray⟩ ∧ By wr g5 23 H ∧ Below w.heap.size w wr) (fun _ t _ => 30 - (intOf t).toNat)
      case atStart => exact ⟨0, by omega, rfl, rfl, HA.out, HB.out⟩
      case round =>
        obtain ⟨g, hg, rfl, rfl, ah, ab⟩ := hrel
        by_cases hg6 : g < 6
        · have hl30 : 5 * (g : Int) < 30 := by omega
          go_wp2_with fail
          go_loop [9, 10] (fun s t => ∃ j : Nat, j ≤ 5 ∧ t = .int .i64 j ∧ s = .int .u64 (five H g j : Nat)) (fun _ t => 5 - (intOf t).toNat)
          case atStart => exact ⟨0, by omega, rfl, rfl⟩
          case round =>
            obtain ⟨j, hj, rfl, rfl⟩ := hrel
            by_cases hj5 : j < 5
            · have cH := ah.cell (5 * g + j) (by omega)
              have hfl := five_lt H g j
              have hb5 : five H g j < 72057594037927936 / 16 := by
                have : (256 : Nat) ^ j ≤ 256 ^ 4 := Nat.pow_le_pow_right (by decide) (by omega)
                have e : (256 : Nat) ^ 4 = 4294967296 := by decide
                omega
              have hgd : H.toList.getD (5 * g + j) 0 = H[5 * g + j]'(by omega) := by
                rw [List.getD_eq_getElem?_getD, List.getElem?_eq_getElem (by simp; omega)]; simp
              go_wp2_with fail
              refine ⟨⟨j + 1, by omega, by go_num, ?_⟩, by simp [intOf]; omega⟩
              rw [five, hgd]
              have := (H[5 * g + j]'(by omega)).toNat_lt
              congr 1
              simp only [IntKind.wrap_u64]
              omega
            · obtain rfl : j = 5 := by omega
              have AH := Lib.hid ah; have AB := Lib.hid ab; clear ah ab
              have hN5 : five H g 5 < 1099511627776 := five_lt H g 5
              have hGR : groups H g ++ group (five H g 5) = groups H (g + 1) := rfl
              rw [← last_five] at hGR
              have hGR := Lib.hid hGR
              generalize five H g 5 = N at *
              go_wp2_with fail
              have hM : N % 100000 < 100000 := Nat.mod_lt _ (by decide)
              have hMN : (N : Int).tmod 100000 = ((N % 100000 : Nat) : Int) := by rw [Int.tmod_eq_emod_of_nonneg (by omega)]; omega
              obtain ⟨M, hMd⟩ : ∃ M, M = N % 100000 := ⟨_, rfl⟩
              rw [← hMd] at hM
              have HGR := Lib.hid (show groups H g ++ 32 :: last M 5 = groups H (g + 1) by rw [hMd]; exact hGR.out)
              have hq0 : (N : Int) % 100000 = (M : Int) := by omega
              have HMN := Lib.hid (hMN.trans (by omega : ((N % 100000 : Nat) : Int) = (M : Int)))
              clear hMN hGR hMd
              go_loopw [9, 11, 12] (fun q s t wr => ∃ j : Nat, j ≤ 5 ∧ t = .int .i64 j ∧ q = .int .u64 (M / 10 ^ j : Nat) ∧ s = .string ⟨(last M j).toArray⟩ ∧ By wr g5 23 H ∧ Below w.heap.size w wr) (fun _ _ t _ => 5 - (intOf t).toNat)
              case atStart => exact ⟨0, by omega, rfl, by simp [hq0, HMN.out], rfl, AH.out, AB.out⟩
              case round =>
                obtain ⟨j, hj, rfl, rfl, rfl, bh, bb⟩ := hrel
                by_cases hj5 : j < 5
                · have hQ : M / 10 ^ j < 100000 := Nat.lt_of_le_of_lt (Nat.div_le_self _ _) hM
                  have hl : last M (j + 1) = UInt8.ofNat (48 + M / 10 ^ j % 10) :: last M j := rfl
                  have hd := div_ten M j
                  have HD := Lib.hid hd; have HL := Lib.hid hl; clear hd hl
                  generalize M / 10 ^ j = Q at *
                  have hcs := run_str uu8 Tryd.underlying5 Tryd.underlying9 (rd_box wr 5 (48 + (Q : Int) % 10) (UInt8.ofNat (48 + Q % 10)) (by rw [← of_nat8 (by omega)]; omega))
                  have BH := Lib.hid (bh.alloc (.cells #[.int .u8 (48 + (Q : Int) % 10)] 5)); have BB := Lib.hid (bb.alloc bb.size (.cells #[.int .u8 (48 + (Q : Int) % 10)] 5)); clear bh bb
                  have hc3 : ¬ 9223372036854775807 < (last M j).length + 1 := by rw [last_length]; omega
                  have hc4 : ¬ 9223372036854775807 < 1 + (last M j).length := by rw [last_length]; omega
                  go_wp2_with fail
                  refine ⟨⟨j + 1, by omega, by go_num, ?_, ?_, BH.out, BB.out⟩, by simp [intOf]; omega⟩
                  · rw [HD.out]; congr 1
                  · rw [HL.out]; congr 1
                    try exact ByteArray.ext (by simp)
                · obtain rfl : j = 5 := by omega
                  have BH := Lib.hid bh; have BB := Lib.hid bb; clear bh bb
                  have hc1 : ¬ 9223372036854775807 < (groups H g).length + 1 := by rw [groups_length]; omega
                  have hc2 : ¬ 9223372036854775807 < (groups H g).length + 1 + (last M 5).length := by rw [groups_length, last_length]; omega
                  go_wp2_with fail
                  refine ⟨⟨g + 1, by omega, by go_num, ?_, BH.out, BB.out⟩, by simp [intOf]; omega⟩
                  rw [← HGR.out]
                  congr 1
                  try exact ByteArray.ext (by simp)
        · obtain rfl : g = 6 := by omega
          go_wp2_with fail
          go_ret
          refine ⟨?_, ab⟩
          rw [digits, hH]
          rfl
end Go.Proofs.YtjlhicopinhiaaaDoor.Dr
