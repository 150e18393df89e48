/- utf8.word of bytes. -/
import Derived.Test.YtpfckpaokoifhaaGreatDoorVh
import Derived.Lib.Endian
import Derived.Lib.EndianBits
import Derived.Lib.ValidAsc
namespace Go.Proofs.YtpfckpaokoifhaaGreatDoor.Uw
open Go Go.RowKit Go.Proofs.YtpfckpaokoifhaaGreatDoor.Pa Go.Proofs.YtpfckpaokoifhaaGreatDoor.Pb Go.Proofs.YtpfckpaokoifhaaGreatDoor.Pf Go.Proofs.YtpfckpaokoifhaaGreatDoor.Pq Go.Proofs.YtpfckpaokoifhaaGreatDoor.Vh
set_option linter.unusedVariables false
set_option linter.unusedSimpArgs false
theorem below_drewN (w : World) (n : Nat) : Below w.heap.size w (w.drewN n) := ⟨rfl, rfl, rfl, Nat.le_refl _, fun _ _ => rfl⟩
theorem Like.below {w W : World} (h : Like w W) : Below w.heap.size w W := by obtain ⟨n, rfl⟩ := h; exact below_drewN w n
/-- A byte behind an address. -/
theorem rd_byte {w : World} {ad : Addr} {n c : Nat} {l : List UInt8} (h : Rd w (.slice (some ad) n c) l) (j : Nat) (hj : j < l.length) (h0 : 0 < j) (x : Nat) (hx : l[j].toNat = x) : w.cell? ⟨ad.block, ad.off + j, none⟩ = some (.int .u8 (x : Int)) := by
  obtain ⟨ad', e, hc⟩ := h.at_ j hj
  cases e
  rw [← hx, ← hc]
  unfold Addr.add
  rw [if_neg (by omega)]
theorem rd_byte0 {w : World} {ad : Addr} {n c : Nat} {l : List UInt8} (h : Rd w (.slice (some ad) n c) l) (hj : 0 < l.length) (x : Nat) (hx : l[0].toNat = x) : w.cell? ad = some (.int .u8 (x : Int)) := by
  obtain ⟨ad', e, hc⟩ := h.at_ 0 hj
  cases e
  rw [← hx, ← hc]
  rfl
set_option maxHeartbeats 4000000 in
set_option maxRecDepth 100000 in
theorem word8 (v : Value) (l : List UInt8) (w : World) (h : Rd w v l) (h8 : 8 ≤ l.length) :
    Calls Tryz.prog 101 #[v] w fun e w' => e = .returned (.int .u64 (Lib.leNat (l.take 8))) ∧ ∃ q, w' = w.drewN q := by
  obtain ⟨A, c, rfl, h1, h2, -⟩ := id h
  obtain ⟨ad, rfl, -⟩ := h.at_ 0 (by omega)
  obtain ⟨x0, hx0⟩ : ∃ x, l[0].toNat = x := ⟨_, rfl⟩
  obtain ⟨x1, hx1⟩ : ∃ x, l[1].toNat = x := ⟨_, rfl⟩
  obtain ⟨x2, hx2⟩ : ∃ x, l[2].toNat = x := ⟨_, rfl⟩
  obtain ⟨x3, hx3⟩ : ∃ x, l[3].toNat = x := ⟨_, rfl⟩
  obtain ⟨x4, hx4⟩ : ∃ x, l[4].toNat = x := ⟨_, rfl⟩
  obtain ⟨x5, hx5⟩ : ∃ x, l[5].toNat = x := ⟨_, rfl⟩
  obtain ⟨x6, hx6⟩ : ∃ x, l[6].toNat = x := ⟨_, rfl⟩
  obtain ⟨x7, hx7⟩ : ∃ x, l[7].toNat = x := ⟨_, rfl⟩
  have hr : ∀ u : Held (Like w), Rd u.w (.slice (some ad) l.length c) l := fun u => h.below (Like.below u.h)
  have g0 := fun u => rd_byte0 (hr u) (by omega) x0 hx0
  have g1 := fun u => rd_byte (hr u) 1 (by omega) (by omega) x1 hx1
  have g2 := fun u => rd_byte (hr u) 2 (by omega) (by omega) x2 hx2
  have g3 := fun u => rd_byte (hr u) 3 (by omega) (by omega) x3 hx3
  have g4 := fun u => rd_byte (hr u) 4 (by omega) (by omega) x4 hx4
  have g5 := fun u => rd_byte (hr u) 5 (by omega) (by omega) x5 hx5
  have g6 := fun u => rd_byte (hr u) 6 (by omega) (by omega) x6 hx6
  have g7 := fun u => rd_byte (hr u) 7 (by omega) (by omega) x7 hx7
  have b0 : x0 < 256 := hx0 ▸ l[0].toNat_lt
  have b1 : x1 < 256 := hx1 ▸ l[1].toNat_lt
  have b2 : x2 < 256 := hx2 ▸ l[2].toNat_lt
  have b3 : x3 < 256 := hx3 ▸ l[3].toNat_lt
  have b4 : x4 < 256 := hx4 ▸ l[4].toNat_lt
  have b5 : x5 < 256 := hx5 ▸ l[5].toNat_lt
  have b6 : x6 < 256 := hx6 ▸ l[6].toNat_lt
  have b7 : x7 < 256 := hx7 ▸ l[7].toNat_lt
  have hv : ((Lib.leNat (l.take 8) : Nat) : Int) = (x0 : Int) + (x1 : Int) * 256 + (x2 : Int) * 65536 + (x3 : Int) * 16777216 + (x4 : Int) * 4294967296 + (x5 : Int) * 1099511627776 + (x6 : Int) * 281474976710656 + (x7 : Int) * 72057594037927936 := by
    clear g0 g1 g2 g3 g4 g5 g6 g7 hr b0 b1 b2 b3 b4 b5 b6 b7 h
    obtain ⟨a0, a1, a2, a3, a4, a5, a6, a7, r, hl⟩ : ∃ a0 a1 a2 a3 a4 a5 a6 a7 r, l = a0 :: a1 :: a2 :: a3 :: a4 :: a5 :: a6 :: a7 :: r := by
      match l, h8 with
      | a0 :: a1 :: a2 :: a3 :: a4 :: a5 :: a6 :: a7 :: r, _ => exact ⟨_, _, _, _, _, _, _, _, _, rfl⟩
    subst hl
    simp at hx0 hx1 hx2 hx3 hx4 hx5 hx6 hx7
    simp only [List.take_succ_cons, List.take_zero, Lib.leNat, hx0, hx1, hx2, hx3, hx4, hx5, hx6, hx7]
    push_cast
    omega
  obtain ⟨A, hA⟩ : ∃ A, A = Lib.leNat (l.take 8) := ⟨_, rfl⟩
  rw [← hA] at hv ⊢
  have q0 : (0 : Int) < (l.length : Int) := by omega
  have q1 : (1 : Int) < (l.length : Int) := by omega
  have q2 : (2 : Int) < (l.length : Int) := by omega
  have q3 : (3 : Int) < (l.length : Int) := by omega
  have q4 : (4 : Int) < (l.length : Int) := by omega
  have q5 : (5 : Int) < (l.length : Int) := by omega
  have q6 : (6 : Int) < (l.length : Int) := by omega
  have q7 : (7 : Int) < (l.length : Int) := by omega
  have HV := Lib.hid hv
  clear hr hx0 hx1 hx2 hx3 hx4 hx5 hx6 hx7 hA h hv h1 h2
  generalize l.length = n at *
  clear h8
  go_enter Tryz.func101, Tryz.ntmps101
  go_wp2_with fail
  refine wp_region_calm (S := Like w) (by kernel_rfl) (by kernel_rfl) (Like.refl _) ?_
  intro hN
  repeat (go_big_quiet_step (fail))
  refine wpQuiet_nil ?_
  intro u
  obtain ⟨m, hm⟩ := u.h
  rw [hm]
  clear g0 g1 g2 g3 g4 g5 g6 g7 hN
  go_wp2_with fail
  go_ret
  refine ⟨?_, _, rfl⟩
  simp (disch := omega) only [u64_wrap_id, u64_or8, u64_or16, u64_or24, u64_or32, u64_or40, u64_or48, u64_or56]
  rw [HV.out]; rfl
end Go.Proofs.YtpfckpaokoifhaaGreatDoor.Uw
