/- The law SchemaValids' walk. -/
import Derived.Test.YtlkhmblcbknapaaVs
import Derived.Test.YtlkhmblcbknapaaLs
namespace Go.Proofs.Ytlkhmblcbknapaa.Vw
open Go Go.RowKit Go.Proofs.Ytlkhmblcbknapaa.Pa Go.Proofs.Ytlkhmblcbknapaa.Pb Go.Proofs.Ytlkhmblcbknapaa.Pf Go.Proofs.Ytlkhmblcbknapaa.Sc Go.Proofs.Ytlkhmblcbknapaa.Rs Go.Proofs.Ytlkhmblcbknapaa.Sl Go.Proofs.Ytlkhmblcbknapaa.Hs Go.Proofs.Ytlkhmblcbknapaa.Ht Go.Proofs.Ytlkhmblcbknapaa.Vd Go.Proofs.Ytlkhmblcbknapaa.Vl Go.Proofs.Ytlkhmblcbknapaa.Vs Go.Proofs.Ytlkhmblcbknapaa.Ls
set_option linter.unusedVariables false
set_option linter.unusedSimpArgs false

theorem walk {n : Nat} {v : Value} {l : List Slot} (W : World) (h : RdS W n v l) :
    Calls Try.prog 3 #[v] W fun e w' => e = .returned (.bool true) ∧ Below W.heap.size W w' := by
  obtain ⟨A, c, rfl, -⟩ := h.slice
  by_cases hbig : sl n l 10000 < 0
  · have hv : valid n l = 80 := by unfold valid; rw [if_pos (big_none 6 n l hbig)]
    have HV := Lib.hid hv; have H := Lib.hid h; clear hv h
    have hd : decide (sl n l 10000 < 0) = true := decide_eq_true hbig
    clear hbig
    go_enter Try.func3, Try.ntmps3
    go_wp2_with (go_at_call 9999)
    go_at_call 4
    refine (big W H.out).mono ?_
    rw [hd]
    rintro e w1 ⟨rfl, rfl⟩
    go_wp2_with (go_at_call 9999)
    go_at_call 5
    refine (pvalid W H.out).mono ?_
    rw [HV.out]
    rintro e w1 ⟨rfl, hb1⟩
    go_wp2_with fail
    go_ret
    exact ⟨rfl, hb1⟩
  · have hf : Few n l := few_of n l 10000 (by omega) (by omega)
    have hd : decide (sl n l 10000 < 0) = false := decide_eq_false hbig
    have hlen : l.length + 3 ≤ maxLen := by
      obtain ⟨m, rfl⟩ := h.pos
      have := hf.1
      simp [maxLen]; omega
    have H := Lib.hid h; have HF := Lib.hid hf; have HL := Lib.hid hlen; clear h hf hbig hlen
    go_enter Try.func3, Try.ntmps3
    go_wp2_with (go_at_call 9999)
    go_at_call 4
    refine (big W H.out).mono ?_
    rw [hd]
    rintro e w1 ⟨rfl, rfl⟩
    go_wp2_with (go_at_call 9999)
    go_at_call 6
    refine (handSlots n _ l W W H.out HF.out (Below.refl _ _)).mono ?_
    rintro e w1 ⟨v', rfl, hd1, hb1⟩
    obtain ⟨b, rfl, -⟩ := hd1.slice
    have HD1 := Lib.hid hd1; clear hd1
    go_wp2_with (go_at_call 9999)
    go_at_call 5
    refine (pvalid w1 (HD1.out.rd n _ _ HL.out HF.out)).mono ?_
    rintro e w2 ⟨rfl, hb2⟩
    have hc2 := hb1.trans (hb2.mono hb1.size)
    go_wp2_with (go_at_call 9999)
    go_at_call 7
    refine (rvalid w2 (H.out.below hc2)).mono ?_
    rintro e w3 ⟨rfl, hb3⟩
    have hc3 := hc2.trans (hb3.mono hc2.size)
    generalize valid n l = r
    go_wp2_with (go_at_call 9999)
    go_at_call 8
    refine (leftSlots n _ _ _ l W w3 H.out ((HD1.out.below hb2).below hb3) HF.out hc3).mono ?_
    rintro e w4 ⟨rfl, hb4⟩
    go_wp2_with fail
    go_ret
    exact ⟨rfl, hc3.trans (hb4.mono hc3.size)⟩
end Go.Proofs.Ytlkhmblcbknapaa.Vw
