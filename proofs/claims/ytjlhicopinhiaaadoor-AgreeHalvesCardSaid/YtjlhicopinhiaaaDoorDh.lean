/- The law AgreeHalves, walked. -/
import Derived.Test.YtjlhicopinhiaaaDoorDi
import Derived.Test.YtjlhicopinhiaaaDoorDn
import Derived.Lib.SlBytesConst
namespace Go.Proofs.YtjlhicopinhiaaaDoor.Dh
open Go Go.RowKit Go.Proofs.YtjlhicopinhiaaaDoor.Pa Go.Proofs.YtjlhicopinhiaaaDoor.Pb Go.Proofs.YtjlhicopinhiaaaDoor.Pc Go.Proofs.YtjlhicopinhiaaaDoor.Pf Go.Proofs.YtjlhicopinhiaaaDoor.Pq Go.Proofs.YtjlhicopinhiaaaDoor.Pr Go.Proofs.YtjlhicopinhiaaaDoor.Sv Go.Proofs.YtjlhicopinhiaaaDoor.Sk Go.Proofs.YtjlhicopinhiaaaDoor.Sd Go.Proofs.YtjlhicopinhiaaaDoor.Se Go.Proofs.YtjlhicopinhiaaaDoor.Sf Go.Proofs.YtjlhicopinhiaaaDoor.St Go.Proofs.YtjlhicopinhiaaaDoor.Su Go.Proofs.YtjlhicopinhiaaaDoor.Sy Go.Proofs.YtjlhicopinhiaaaDoor.Dg Go.Proofs.YtjlhicopinhiaaaDoor.Dp Go.Proofs.YtjlhicopinhiaaaDoor.Dr Go.Proofs.YtjlhicopinhiaaaDoor.Ds Go.Proofs.YtjlhicopinhiaaaDoor.Dq Go.Proofs.YtjlhicopinhiaaaDoor.Dm Go.Proofs.YtjlhicopinhiaaaDoor.Dj Go.Proofs.YtjlhicopinhiaaaDoor.Di Go.Proofs.YtjlhicopinhiaaaDoor.Dn
set_option linter.unusedVariables false
set_option linter.unusedSimpArgs false
theorem dig_i (N P : Nat) (hP : 0 < P) : wrap64 (48 + ((N : Int) % 100000 / (P : Int)).tmod 10) % 256 = ((UInt8.ofNat (48 + N % 100000 / P % 10)).toNat : Int) := by
  have e1 : (N : Int) % 100000 / (P : Int) = ((N % 100000 / P : Nat) : Int) := by simp
  rw [e1]
  generalize N % 100000 / P = M
  rw [Int.tmod_eq_emod_of_nonneg (by omega), ← of_nat8 (by omega)]
  have e2 : (48 : Int) + (M : Int) % 10 = ((48 + M % 10 : Nat) : Int) := by omega
  rw [e2]
  have h : 48 + M % 10 < 256 := by omega
  generalize 48 + M % 10 = K at *
  have e3 : wrap64 (K : Int) = (K : Int) := by unfold wrap64; omega
  rw [e3]; omega
theorem psafe (a b : Vector UInt8 32) (n : Nat) (h1 : 1 ≤ n) (h2 : n ≤ 6000) (w : World) (hT : Tab w) :
    Calls Tryd.prog 6 #[.agg (bv a), .agg (bv b), .int .i64 (n : Int)] w fun e w' => e = .returned (.tuple #[.string ⟨(safe a b n).toArray⟩, .int .i64 0]) ∧ Below w.heap.size w w' := by
  have := psafety a b (n : Int) w hT
  rw [if_pos (by omega), if_pos (by omega)] at this
  exact this
set_option maxHeartbeats 2000000 in
set_option maxRecDepth 100000 in
theorem halves (a b c : Vector UInt8 32) (r : Int) {Q : Prop} (hQ : Q) (w : World) (hT : Tab w) :
    Calls Tryd.prog 5 #[.agg (bv a), .agg (bv b), .agg (bv c), .int .i64 r] w fun e w' => e = .returned (.bool true) ∧ Below w.heap.size w w' := by
  obtain ⟨w1, hw1⟩ : ∃ x, x = ((w.alloc (.cells (bv a) 23)).alloc (.cells (bv b) 23)).alloc (.cells (bv c) 23) := ⟨_, rfl⟩
  have b0 : Below w.heap.size w w1 := by rw [hw1]; exact (((Below.refl _ _).alloc (Nat.le_refl _) _).alloc (by simp) _).alloc (by simp; omega) _
  have ka : By w1 w.heap.size 23 a := by rw [hw1]; unfold By; simp [go_sem]
  have kb : By w1 (w.heap.size + 1) 23 b := by rw [hw1]; unfold By; simp [go_sem]
  have kc : By w1 (w.heap.size + 1 + 1) 23 c := by rw [hw1]; unfold By; exact hp_alloc_at _ _ (by simp)
  have KA := Lib.hid ka; have KB := Lib.hid kb; have KC := Lib.hid kc; have B0 := Lib.hid b0
  have HT := Lib.hid hT; clear hT b0
  go_enter Tryd.func5, Tryd.ntmps5
  by_cases hr : 1 ≤ r ∧ r ≤ 6000
  · obtain ⟨n, rfl⟩ : ∃ n : Nat, r = (n : Int) := ⟨r.toNat, by omega⟩
    have h1n : 1 ≤ n := by omega
    have h2n : n ≤ 6000 := by omega
    have hr1 : ¬ (n : Int) < 1 := by omega
    have hr2 : ¬ (6000 : Int) < n := by omega
    go_wp2_with (go_at_call 9999)
    rw [← hw1]
    go_at_call 6
    refine (psafe a b n h1n h2n w1 (HT.out.below B0.out)).mono ?_
    rintro _ w2 ⟨rfl, b2⟩
    have ka2 : hp w2 w.heap.size = some (.cells (bv a) 23 (0, 0)) := KA.out.below b2
    have kc2 : hp w2 (w.heap.size + 1 + 1) = some (.cells (bv c) 23 (0, 0)) := KC.out.below b2
    have KB2 := Lib.hid (show By w2 (w.heap.size + 1) 23 b from KB.out.below b2)
    have B2 := Lib.hid (B0.out.trans (b2.mono B0.out.size))
    clear b2 ka kb kc hw1 KA KB KC B0
    obtain ⟨S1, hS1⟩ : ∃ S : ByteArray, S = ⟨(safe a b n).toArray⟩ := ⟨_, rfl⟩
    rw [← hS1]
    have hz1 : S1.size = 71 := by rw [hS1]; show (safe a b n).toArray.size = 71; simpa using (grp_safe a b n).1
    have GP1 := Lib.hid (fun w : World => (show Calls Tryd.prog 8 #[.string S1] w fun e w' => e = .returned (.bool true) ∧ w' = w by rw [hS1]; exact pgrouped (grp_safe a b n) w))
    have hs1 : (if Op.bytesLess b.toList a.toList = true then S1.extract 36 71 else S1.extract 0 35) = ⟨((digits a n).drop 1).toArray⟩ := by
      rw [← side_half a b n, hS1]
      split
      · rw [cut_str, List.take_of_length_le (by simp [(grp_safe a b n).1])]
      · rw [cut_str]; simp
    have SD1 := Lib.hid (fun w : World => pside hz1 a b w)
    rw [hs1] at SD1
    clear hS1 hs1
    go_wp2_with (go_at_call 9999)
    go_at_call 6
    refine (psafe a c n h1n h2n w2 (HT.out.below B2.out)).mono ?_
    rintro _ w3 ⟨rfl, b3⟩
    have ka3 : hp w3 w.heap.size = some (.cells (bv a) 23 (0, 0)) := By.below (T := 23) (k := a) ka2 b3
    have KA := Lib.hid (show By w3 w.heap.size 23 a from ka3)
    have KB := Lib.hid (show By w3 (w.heap.size + 1) 23 b from KB2.out.below b3)
    have KC := Lib.hid (show By w3 (w.heap.size + 1 + 1) 23 c from By.below (T := 23) (k := c) kc2 b3)
    have B3 := Lib.hid (B2.out.trans (b3.mono B2.out.size))
    clear b3 ka2 kc2 KB2 B2
    obtain ⟨S2, hS2⟩ : ∃ S : ByteArray, S = ⟨(safe a c n).toArray⟩ := ⟨_, rfl⟩
    rw [← hS2]
    have hz2 : S2.size = 71 := by rw [hS2]; show (safe a c n).toArray.size = 71; simpa using (grp_safe a c n).1
    have GP2 := Lib.hid (fun w : World => (show Calls Tryd.prog 8 #[.string S2] w fun e w' => e = .returned (.bool true) ∧ w' = w by rw [hS2]; exact pgrouped (grp_safe a c n) w))
    have hs2 : (if Op.bytesLess c.toList a.toList = true then S2.extract 36 71 else S2.extract 0 35) = ⟨((digits a n).drop 1).toArray⟩ := by
      rw [← side_half a c n, hS2]
      split
      · rw [cut_str, List.take_of_length_le (by simp [(grp_safe a c n).1])]
      · rw [cut_str]; simp
    have SD2 := Lib.hid (fun w : World => pside hz2 a c w)
    rw [hs2] at SD2
    clear hS2 hs2
    go_wp2_with (go_at_call 9999)
    go_at_call 8
    refine (GP1.out _).mono ?_
    rintro _ wz ⟨rfl, hz⟩
    rw [hz]; clear hz wz
    go_wp2_with (go_at_call 9999)
    go_at_call 8
    refine (GP2.out _).mono ?_
    rintro _ wz ⟨rfl, hz⟩
    rw [hz]; clear hz wz
    clear GP1 GP2
    have hlb := rd_label w3
    have KAl := Lib.hid (KA.out.alloc (.cells #[.int .u8 112, .int .u8 97, .int .u8 119, .int .u8 108, .int .u8 32, .int .u8 115, .int .u8 97, .int .u8 102, .int .u8 101, .int .u8 116, .int .u8 121] 5 (11, 12)))
    obtain ⟨v4, w4, hap, r4, b4, -⟩ := run_full uu8 30 hlb (By.rd KAl.out (by simp [maxLen])) (by simp [label])
    rw [app_x] at hap
    rw [show label.length = 11 from rfl] at hap
    have hcv : (convert 30 30 (.slice (some ⟨w3.heap.size, 0, none⟩) 11 11)).run Tryd.prog (w3.alloc (.cells #[.int .u8 112, .int .u8 97, .int .u8 119, .int .u8 108, .int .u8 32, .int .u8 115, .int .u8 97, .int .u8 102, .int .u8 101, .int .u8 116, .int .u8 121] 5)) = .ok (.slice (some ⟨w3.heap.size, 0, none⟩) 11 11) (w3.alloc (.cells #[.int .u8 112, .int .u8 97, .int .u8 119, .int .u8 108, .int .u8 32, .int .u8 115, .int .u8 97, .int .u8 102, .int .u8 101, .int .u8 116, .int .u8 121] 5 (11, 12))) :=
      Lib.run_convert_bytes_const w3 _ _ _ 11 11 Tryd.underlying30 Tryd.underlying5
    have A4 := Lib.hid (show By w4 w.heap.size 23 a from KAl.out.below b4)
    have BB4 := Lib.hid (show By w4 (w.heap.size + 1) 23 b from (KB.out.alloc _).below b4)
    have C4 := Lib.hid (show By w4 (w.heap.size + 1 + 1) 23 c from (KC.out.alloc _).below b4)
    have B4 := Lib.hid ((B3.out.alloc B3.out.size _).trans (b4.mono (by simp; have := B3.out.size; omega)))
    have R4 := Lib.hid r4
    clear hlb r4 b4 KA KB KC B3 KAl
    go_wp2_with (go_at_call 9999)
    go_at_call 9
    refine (hsum w4 (HT.out.below B4.out) R4.out (by simp [label])).mono ?_
    rintro _ w5 ⟨rfl, b5⟩
    have A5 := Lib.hid ((A4.out.below b5).alloc (.cells (bv (sha (label ++ a.toList))) 23))
    have BB5 := Lib.hid ((BB4.out.below b5).alloc (.cells (bv (sha (label ++ a.toList))) 23))
    have C5 := Lib.hid ((C4.out.below b5).alloc (.cells (bv (sha (label ++ a.toList))) 23))
    have B5' := B4.out.trans (b5.mono B4.out.size)
    have B5 := Lib.hid (B5'.alloc B5'.size (.cells (bv (sha (label ++ a.toList))) 23))
    have hgc : w.heap.size + 1 + 1 < w5.heap.size := (C4.out.below b5).lt
    have hz : By (w5.alloc (.cells (bv (sha (label ++ a.toList))) 23)) w5.heap.size 23 (turnsN a 0) := hp_alloc_at _ _ rfl
    have HZ := Lib.hid hz
    clear hap hcv b5 A4 BB4 C4 B4 R4 B5' hz
    go_wp2_with (go_at_call 9999)
    generalize hg5 : w5.heap.size = g5 at *
    go_loopw [14] (fun s wr => ∃ i : Nat, i ≤ n - 1 ∧ s = .int .i64 ((i : Int) + 1) ∧ By wr w.heap.size 23 a ∧ By wr (w.heap.size + 1) 23 b ∧ By wr (w.heap.size + 1 + 1) 23 c ∧ By wr g5 23 (turnsN a i) ∧ Below w.heap.size w wr) (fun s _ => n - (intOf s).toNat)
    case atStart => exact ⟨0, by omega, rfl, A5.out, BB5.out, C5.out, HZ.out, B5.out⟩
    case round =>
      obtain ⟨i, hi, rfl, a1, a2, a3, a4, ab⟩ := hrel
      by_cases hlt : i < n - 1
      · have hlt' : (i : Int) + 1 < (n : Int) := by omega
        have A1 := Lib.hid a1; have A2 := Lib.hid a2; have A3 := Lib.hid a3; have A4 := Lib.hid a4; have AB := Lib.hid ab
        have k1 : hp wr w.heap.size = some (.cells (bv a) 23 (0, 0)) := a1
        have k4 : hp wr g5 = some (.cells (bv (turnsN a i)) 23 (0, 0)) := a4
        clear a1 a2 a3 a4 ab
        have hbs := run_bs wr (turnsN a i) a
        have hjt : hp (wr.alloc (.cells (bv (turnsN a i) ++ bv a) 23)) wr.heap.size = some (.cells (bv (turnsN a i) ++ bv a) 23 (0, 0)) := hp_alloc_at _ _ rfl
        have HJT := Lib.hid hjt; clear hjt
        go_wp2_with (go_at_call 9999)
        go_at_call 10
        refine (pjoined HJT.out).mono ?_
        rintro _ w6 ⟨v6, rfl, r6, b6⟩
        have hb6 : Below wr.heap.size wr w6 := ((Below.refl _ _).alloc (Nat.le_refl _) _).trans (b6.mono (by simp))
        have R6 := Lib.hid r6; have B6 := Lib.hid hb6; clear r6 b6 hb6 k1 k4 hbs HJT
        go_wp2_with (go_at_call 9999)
        go_at_call 9
        have b06 := AB.out.trans (B6.out.mono AB.out.size)
        refine (hsum w6 (HT.out.below b06) R6.out (by simp)).mono ?_
        rintro _ w7 ⟨rfl, b7⟩
        have b67 : Below wr.heap.size wr w7 := B6.out.trans (b7.mono B6.out.size)
        have d4 : hp w7 g5 = some (.cells (bv (turnsN a i)) 23 (0, 0)) := A4.out.below b67
        have D1 := Lib.hid (A1.out.below b67); have D2 := Lib.hid (A2.out.below b67); have D3 := Lib.hid (A3.out.below b67); have D4 := Lib.hid d4
        have DB := Lib.hid (AB.out.trans (b67.mono AB.out.size))
        clear A1 A2 A3 A4 AB R6 B6 b06 b7 b67
        go_wp2_with fail
        refine ⟨⟨i + 1, by omega, by go_num, ?_, ?_, ?_, ?_, ?_⟩, ?_⟩
        · exact (hp_setRow_other _ _ _ (by omega)).trans D1.out
        · exact (hp_setRow_other _ _ _ (by omega)).trans D2.out
        · exact (hp_setRow_other _ _ _ (by omega)).trans D3.out
        · exact hp_setRow_same _ _ _ _ _ D4.out
        · exact Below.setRow DB.out (by omega) _
        · simp [intOf]; omega
      · obtain rfl : i = n - 1 := by omega
        have hnl : ¬ ((n - 1 : Nat) : Int) + 1 < (n : Int) := by omega
        have hsx := halfs_six a n
        have HSX := Lib.hid hsx; clear hsx
        have A1 := Lib.hid a1; have A2 := Lib.hid a2; have A3 := Lib.hid a3; have A4 := Lib.hid a4; have AB := Lib.hid ab
        clear a1 a2 a3 a4 ab A5 BB5 C5 B5 HZ
        go_wp2_with fail
        generalize hH : turnsN a (n - 1) = H at *
        obtain ⟨wq, hwq⟩ : ∃ x, x = wr := ⟨_, rfl⟩
        subst hwq
        go_loopw [15, 16] (fun s t wr => ∃ g : Nat, g ≤ 6 ∧ t = .int .i64 (5 * (g : Int)) ∧ s = .string ⟨(halfs H g).toArray⟩ ∧ By wr w.heap.size 23 a ∧ By wr (w.heap.size + 1) 23 b ∧ By wr (w.heap.size + 1 + 1) 23 c ∧ By wr g5 23 H ∧ Below w.heap.size w wr) (fun _ t _ => 30 - (intOf t).toNat)
        case atStart => exact ⟨0, by omega, rfl, rfl, A1.out, A2.out, A3.out, A4.out, AB.out⟩
        case round =>
          obtain ⟨g, hg, rfl, rfl, b1, b2, b3, ah, ab⟩ := hrel
          clear A1 A2 A3 A4 AB
          have A1 := Lib.hid b1; have A2 := Lib.hid b2; have A3 := Lib.hid b3; have AB := Lib.hid ab
          clear b1 b2 b3 ab
          by_cases hg6 : g < 6
          · have hl30 : 5 * (g : Int) < 30 := by omega
            go_wp2_with fail
            go_loop [17, 18] (fun s t => ∃ j : Nat, j ≤ 5 ∧ t = .int .i64 j ∧ s = .int .i64 (five H g j : Nat)) (fun _ t => 5 - (intOf t).toNat)
            case atStart => exact ⟨0, by omega, rfl, rfl⟩
            case round =>
              obtain ⟨j, hj, rfl, rfl⟩ := hrel
              by_cases hj5 : j < 5
              · have cH := ah.cell (5 * g + j) (by omega)
                have hfl := five_lt H g j
                have hb5 : five H g j < 4294967296 := by
                  have : (256 : Nat) ^ j ≤ 256 ^ 4 := Nat.pow_le_pow_right (by decide) (by omega)
                  have e : (256 : Nat) ^ 4 = 4294967296 := by decide
                  omega
                have hgd : H.toList.getD (5 * g + j) 0 = H[5 * g + j]'(by omega) := by
                  rw [List.getD_eq_getElem?_getD, List.getElem?_eq_getElem (by simp; omega)]; simp
                have hbt := (H[5 * g + j]'(by omega)).toNat_lt
                go_wp2_with fail
                refine ⟨⟨j + 1, by omega, by go_num, ?_⟩, by simp [intOf]; omega⟩
                rw [five, hgd]
                congr 1
              · obtain rfl : j = 5 := by omega
                have AH := Lib.hid ah; clear ah
                have hN5 : five H g 5 < 1099511627776 := five_lt H g 5
                have hHS := halfs_succ H g
                have HHS := Lib.hid hHS; clear hHS
                generalize five H g 5 = N at *
                have hGT := digit_next N
                have HGT := Lib.hid hGT; clear hGT
                go_wp2_with fail
                go_loopw [15, 19] (fun s t wr => ∃ j : Nat, j ≤ 5 ∧ t = .int .i64 (pq j : Nat) ∧ s = .string ⟨(halfs H g ++ ((group N).drop 1).take j).toArray⟩ ∧ By wr w.heap.size 23 a ∧ By wr (w.heap.size + 1) 23 b ∧ By wr (w.heap.size + 1 + 1) 23 c ∧ By wr g5 23 H ∧ Below w.heap.size w wr) (fun _ t _ => (intOf t).toNat)
                case atStart => exact ⟨0, by omega, rfl, by simp, A1.out, A2.out, A3.out, AH.out, AB.out⟩
                case round =>
                  obtain ⟨j, hj, rfl, rfl, b1, b2, b3, bh, bb⟩ := hrel
                  clear A1 A2 A3 AB AH
                  have A1 := Lib.hid b1; have A2 := Lib.hid b2; have A3 := Lib.hid b3; have AH := Lib.hid bh; have AB := Lib.hid bb
                  clear b1 b2 b3 bh bb
                  by_cases hj5 : j < 5
                  · have hp0 := pq_pos j hj5
                    have hp1 := pq_le j
                    have hp2 := pq_next j hj5
                    have hgt := HGT.out j hj5
                    have HG2 := Lib.hid hgt; have HP2 := Lib.hid hp2; clear hgt hp2
                    have hlen : (halfs H g ++ ((group N).drop 1).take j).length ≤ 100 := by rw [List.length_append, halfs_length, List.length_take]; simp [group_length]; omega
                    generalize hLL : halfs H g ++ ((group N).drop 1).take j = LL at *
                    have hc3 : ¬ 9223372036854775807 < LL.length + 1 := by omega
                    have HLL := Lib.hid hLL; clear hLL
                    generalize hPQ : pq j = P at *
                    have HPQ := Lib.hid hPQ; clear hPQ
                    have hpp : (0 : Int) < (P : Int) := by omega
                    have hcs := run_str uu8 Tryd.underlying5 Tryd.underlying9 (rd_box wr 5 (wrap64 (48 + ((N : Int) % 100000 / (P : Int)).tmod 10) % 256) (UInt8.ofNat (48 + N % 100000 / P % 10)) (dig_i N P (by omega)))
                    have al : ∀ (w : World) (o : Obj), Below w.heap.size w (w.alloc o) := fun w o => (Below.refl _ _).alloc (Nat.le_refl _) _
                    go_wp2_with fail
                    refine ⟨⟨j + 1, by omega, ?_, ?_, A1.out.alloc _, A2.out.alloc _, A3.out.alloc _, AH.out.alloc _, AB.out.alloc AB.out.size _⟩, ?_⟩
                    · rw [← HP2.out]; congr 1
                    · rw [← HG2.out, ← List.append_assoc, HLL.out]
                      first
                        | (rw [cat_two]; done)
                        | (congr 1; exact ByteArray.ext (by simp))
                        | (congr 1)
                    · simp [intOf]; omega
                  · obtain rfl : j = 5 := by omega
                    have e6 : halfs H g ++ ((group N).drop 1).take 5 ++ [32] = halfs H (g + 1) := by rw [HHS.out, List.take_of_length_le (l := (group N).drop 1) (by simp [group_length])]
                    have hlen : (halfs H g ++ ((group N).drop 1).take 5).length ≤ 100 := by rw [List.length_append, halfs_length, List.length_take]; simp [group_length]; omega
                    have E6 := Lib.hid e6; clear e6
                    have hpq5 : pq 5 = 0 := rfl
                    generalize halfs H g ++ ((group N).drop 1).take 5 = LL at *
                    have hc3 : ¬ 9223372036854775807 < LL.length + 1 := by omega
                    go_wp2_with fail
                    refine ⟨⟨g + 1, by omega, by go_num, ?_, A1.out, A2.out, A3.out, AH.out, AB.out⟩, by simp [intOf]; omega⟩
                    rw [← E6.out]
                    congr 1
          · obtain rfl : g = 6 := by omega
            have hl36 := halfs_length H 6
            obtain ⟨SH, hSH⟩ : ∃ S : ByteArray, S = ⟨(halfs H 6).toArray⟩ := ⟨_, rfl⟩
            have hzh : SH.size = 36 := by rw [hSH]; show (halfs H 6).toArray.size = 36; simpa using hl36
            have hcut : SH.extract 0 35 = ⟨((digits a n).drop 1).toArray⟩ := by rw [hSH, cut_str, ← HSX.out]; simp
            rw [← hSH]
            clear hSH hl36
            generalize hD : ((digits a n).drop 1).toArray = D at *
            have k1 : hp wr w.heap.size = some (.cells (bv a) 23 (0, 0)) := A1.out
            have k2 : hp wr (w.heap.size + 1) = some (.cells (bv b) 23 (0, 0)) := A2.out
            have hD' := Lib.hid hD; clear hD
            go_wp2_with (go_at_call 9999)
            go_at_call 11
            refine (SD1.out wr).mono ?_
            rintro _ w8 ⟨rfl, b8⟩
            have k3 : hp w8 w.heap.size = some (.cells (bv a) 23 (0, 0)) := A1.out.below b8
            have k4 : hp w8 (w.heap.size + 1 + 1) = some (.cells (bv c) 23 (0, 0)) := A3.out.below b8
            have B8 := Lib.hid (AB.out.trans (b8.mono AB.out.size))
            clear k1 k2 b8 A1 A2 A3 AB
            go_wp2_with (go_at_call 9999)
            go_at_call 11
            refine (SD2.out w8).mono ?_
            rintro _ w9 ⟨rfl, b9⟩
            have B9 := Lib.hid (B8.out.trans (b9.mono B8.out.size))
            clear k3 k4 b9 B8
            go_wp2_with fail
            go_ret
            exact ⟨rfl, B9.out⟩
  · have go : ∀ w2 : World, Tab w2 → Calls Tryd.prog 4 #[.agg (bv a), .agg (bv b), .int .i64 r] w2 fun e w' => e = .returned (.bool true) ∧ Below w2.heap.size w2 w' := fun w2 h => number a b r hQ w2 h
    have GO := Lib.hid go; clear go
    rcases Int.lt_or_le r 1 with h1 | h1
    · go_wp2_with (go_at_call 9999)
      rw [← hw1]
      go_at_call 4
      refine (GO.out w1 (HT.out.below B0.out)).mono ?_
      rintro _ w2 ⟨rfl, b2⟩
      have B2 := Lib.hid (B0.out.trans (b2.mono B0.out.size))
      clear b2 ka kb kc hw1
      go_wp2_with fail
      go_ret
      exact ⟨rfl, B2.out⟩
    · have h2 : 6000 < r := by omega
      have h1' : ¬ r < 1 := by omega
      go_wp2_with (go_at_call 9999)
      rw [← hw1]
      go_at_call 4
      refine (GO.out w1 (HT.out.below B0.out)).mono ?_
      rintro _ w2 ⟨rfl, b2⟩
      have B2 := Lib.hid (B0.out.trans (b2.mono B0.out.size))
      clear b2 ka kb kc hw1
      go_wp2_with fail
      go_ret
      exact ⟨rfl, B2.out⟩
end Go.Proofs.YtjlhicopinhiaaaDoor.Dh
