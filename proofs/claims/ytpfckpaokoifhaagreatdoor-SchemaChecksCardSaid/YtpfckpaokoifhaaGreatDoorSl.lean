/- slotsLeft, bigSlots. -/
import Derived.Test.YtpfckpaokoifhaaGreatDoorProg
import Derived.Test.YtpfckpaokoifhaaGreatDoorRs
import Derived.Outline
namespace Go.Proofs.YtpfckpaokoifhaaGreatDoor.Sl
open Go Go.RowKit Go.Proofs.YtpfckpaokoifhaaGreatDoor.Pa Go.Proofs.YtpfckpaokoifhaaGreatDoor.Pb Go.Proofs.YtpfckpaokoifhaaGreatDoor.Sc Go.Proofs.YtpfckpaokoifhaaGreatDoor.Rs
set_option linter.unusedVariables false
set_option linter.unusedSimpArgs false

set_option maxRecDepth 100000 in
theorem slotsLeft : ∀ (n : Nat) (v : Value) (l : List Slot) (left : Int) (w : World), RdS w n v l → -1 ≤ left → left ≤ 10000 →
    Calls Tryz.prog 15 #[v, .int .i64 left] w fun e w' => e = .returned (.int .i64 (sl n l left)) ∧ w = w'
  | 0, v, l, left, w, h, _, _ => h.elim
  | n + 1, v, l, left, w, h, h1, h2 => by
    obtain ⟨A, c, rfl, hlc, hcm⟩ := h.slice
    unfold maxLen at hcm
    have ih := slotsLeft n
    have IH := Lib.hid ih; clear ih
    have H := Lib.hid h; clear h
    go_enter Tryz.func15, Tryz.ntmps15
    go_wp2_with fail
    go_loop [1, 5] (fun s t => ∃ (i : Nat) (x : Int), i ≤ l.length ∧ -1 ≤ x ∧ x ≤ 10000 ∧ s = .int .i64 x ∧ t = .int .i64 i ∧ slGo (sl n) (l.drop i) x = sl (n + 1) l left) (fun _ t => l.length - (intOf t).toNat)
    case atStart => exact ⟨0, left, by omega, h1, h2, rfl, rfl, rfl⟩
    case round =>
      obtain ⟨i, x, hi, hx1, hx2, rfl, rfl, he⟩ := hrel
      have HE := Lib.hid he; clear he
      by_cases hil : i < l.length
      · obtain ⟨ad, rfl, hwf, sv, hsl, hrd⟩ := H.out.at_ i hil
        obtain ⟨p, hp⟩ : ∃ p, ad.add (i * 5) = p := ⟨_, rfl⟩
        rw [hp] at hsl
        have hsub := hsl.sub
        by_cases hx0 : 0 ≤ x
        · have hst := slGo_drop (sl n) l i x hil hx0
          have hle := sl_le n l[i].sub (x - 1)
          have hge := sl_ge n l[i].sub (x - 1) (by omega)
          have HST := Lib.hid hst; have HR := Lib.hid hrd; have HS := Lib.hid hsl; have HW := Lib.hid hwf; clear hst hrd hsl hwf
          go_wp2_with (go_at_call 15; refine (IH.out _ _ _ _ HR.out (by omega) (by omega)).mono ?_; rintro e w' ⟨rfl, rfl⟩)
          go_round
          case rel => exact ⟨i + 1, _, by omega, hge, by omega, rfl, by go_num, by rw [← HE.out, HST.out]⟩
          case measure => simp [intOf]; omega
        · clear hrd hsl hwf
          have hfin : sl (n + 1) l left = x := by rw [← HE.out, slGo_neg _ _ _ (by omega)]
          have HF := Lib.hid hfin; clear hfin
          go_wp2_with fail
          go_ret
          exact ⟨ret_int HF.out.symm, rfl⟩
      · obtain rfl : i = l.length := by omega
        have hfin : sl (n + 1) l left = x := by rw [← HE.out, List.drop_length]; rfl
        have HF := Lib.hid hfin; clear hfin
        go_wp2_with fail
        go_ret
        exact ⟨ret_int HF.out.symm, rfl⟩
theorem big {n : Nat} {v : Value} {l : List Slot} (w : World) (h : RdS w n v l) :
    Calls Tryz.prog 5 #[v] w fun e w' => e = .returned (.bool (decide (sl n l 10000 < 0))) ∧ w = w' := by
  obtain ⟨A, c, rfl, -⟩ := h.slice
  have H := Lib.hid h; clear h
  go_enter Tryz.func5, Tryz.ntmps5
  go_wp2_with (go_at_call 15; refine (slotsLeft n _ _ 10000 _ H.out (by omega) (by omega)).mono ?_; rintro e w' ⟨rfl, rfl⟩)
  go_ret
  exact ⟨rfl, rfl⟩
end Go.Proofs.YtpfckpaokoifhaaGreatDoor.Sl
