/- The codecs of a header, and both PackHeaders. -/
import Derived.Test.YtinngljphjdpoaaGreatDoorJTe
import Derived.Test.YtinngljphjdpoaaGreatDoorJFt
import Derived.Test.YtinngljphjdpoaaGreatDoorJEo
import Derived.BigRegion
import Derived.Deep.RegionHeld3
import Derived.Deep.DeepCutAuto
namespace Go.Proofs.YtinngljphjdpoaaGreatDoor.Hc
open Go Go.RowKit Go.Proofs.YtinngljphjdpoaaGreatDoor.Pa Go.Proofs.YtinngljphjdpoaaGreatDoor.Pb Go.Proofs.YtinngljphjdpoaaGreatDoor.Pf Go.Proofs.YtinngljphjdpoaaGreatDoor.Sc Go.Proofs.YtinngljphjdpoaaGreatDoor.Rs Go.Proofs.YtinngljphjdpoaaGreatDoor.Sl Go.Proofs.YtinngljphjdpoaaGreatDoor.Hs Go.Proofs.YtinngljphjdpoaaGreatDoor.Vu Go.Proofs.YtinngljphjdpoaaGreatDoor.Vo Go.Proofs.YtinngljphjdpoaaGreatDoor.Ca Go.Proofs.YtinngljphjdpoaaGreatDoor.Cb Go.Proofs.YtinngljphjdpoaaGreatDoor.Ce Go.Proofs.YtinngljphjdpoaaGreatDoor.Cm Go.Proofs.YtinngljphjdpoaaGreatDoor.Md Go.Proofs.YtinngljphjdpoaaGreatDoor.Ea Go.Proofs.YtinngljphjdpoaaGreatDoor.Es Go.Proofs.YtinngljphjdpoaaGreatDoor.Ey Go.Proofs.YtinngljphjdpoaaGreatDoor.Ez Go.Proofs.YtinngljphjdpoaaGreatDoor.Ty Go.Proofs.YtinngljphjdpoaaGreatDoor.Ft
set_option linter.unusedVariables false
set_option linter.unusedSimpArgs false
/-- A header's slots. -/
def hs : List Slot := [.mk 1 5 32 32 [], .mk 2 2 0 4294967295 [], .mk 3 2 0 4294967295 []]
set_option maxRecDepth 100000 in
theorem hs_valid : valid 2 hs = 0 := by kernel_rfl
theorem hs_ok : okL 6 hs := (spans_eq hs_valid).2.2.1
theorem hs_few : Few 2 hs := by
  refine ⟨by decide, fun t ht => ?_⟩
  simp [hs] at ht
  rcases ht with rfl | rfl | rfl <;> exact ⟨by simp [Slot.sub], fun u hu => by simp [Slot.sub] at hu⟩
theorem hs_wf : ∀ t ∈ hs, WfS t ∧ t.sub = [] := by
  intro t ht
  simp [hs] at ht
  rcases ht with rfl | rfl | rfl <;> exact ⟨⟨by decide, by decide, by decide, by decide, by decide, by decide⟩, rfl⟩
theorem bytesOf (a b c : Nat) (w : World) : Calls Tryz.prog 82 #[.int .i64 (a : Int), .int .u64 (b : Int), .int .u64 (c : Int)] w fun e w' => e = .returned (.agg #[.int .i64 (a : Int), .int .i64 5, .int .u64 (b : Int), .int .u64 (c : Int), .slice none 0 0]) ∧ Below w.heap.size w w' := by
  go_enter Tryz.func82, Tryz.ntmps82
  go_wp2_with fail
  exact ret_row Tryz.results82 Tryz.underlying117 rfl (by kernel_rfl) rfl (hp_alloc_at _ _ rfl) rfl ⟨rfl, vb _ _⟩
set_option maxHeartbeats 1000000 in
set_option maxRecDepth 100000 in
theorem headersP (w : World) : Calls Tryz.prog 54 #[] w fun e w' => ∃ c, e = .returned (.pointer (some ⟨c, 0, none⟩)) ∧ Cd w' (Bt w w') 2 c hs ∧ Below w.heap.size w w' := by
  have BO := Lib.hid (bytesOf 1 32 32 w)
  go_enter Tryz.func54, Tryz.ntmps54
  go_wp2_with (go_at_call 9999)
  go_at_call 82
  refine BO.out.mono ?_
  rintro _ w1 ⟨rfl, b1⟩
  obtain ⟨w2, hw2⟩ : ∃ y, y = w1.alloc (.cells (c5 hs).toArray 117) := ⟨_, rfl⟩
  have hb2 : Below w.heap.size w w2 := by rw [hw2]; exact b1.trans ((vb _ _).mono b1.size)
  have hg2 : hp w2 w1.heap.size = some (.cells (c5 hs).toArray 117 (0, 0)) := by rw [hw2]; exact hp_alloc_at _ _ rfl
  have PC := Lib.hid (pCompile w2 (rds_flat hs hg2 hs_wf (by decide)))
  have HB2 := Lib.hid hb2
  clear b1 hb2 hg2
  go_wp2_with (go_at_call 9999)
  rw [show w1.alloc (.cells #[.int .i64 1, .int .i64 5, .int .u64 32, .int .u64 32, .slice none 0 0, .int .i64 2, .int .i64 2, .int .u64 0, .int .u64 4294967295, .slice none 0 0, .int .i64 3, .int .i64 2, .int .u64 0, .int .u64 4294967295, .slice none 0 0] 117) = w2 from hw2.symm]
  clear hw2
  go_at_call 33
  refine PC.out.mono ?_
  rintro _ w3 ⟨he, b3⟩
  rcases he with ⟨h0, -⟩ | ⟨-, c, rfl, hcd⟩
  · exact absurd hs_valid h0
  · have HCD := Lib.hid hcd; have B3 := Lib.hid b3
    clear hcd b3
    unfold ptr
    go_wp2_with fail
    go_ret
    exact ⟨c, rfl, Cd.keep (Bt.sub HB2.out.size (Nat.le_refl _)) (fun _ _ _ => rfl) _ _ _ HCD.out, HB2.out.trans (B3.out.mono HB2.out.size)⟩
set_option maxHeartbeats 1000000 in
set_option maxRecDepth 100000 in
theorem headerR (w : World) : Calls Tryz.prog 55 #[] w fun e w' => ∃ c, e = .returned (.pointer (some ⟨c, 0, none⟩)) ∧ Rc w' (Bt w w') 2 c hs ∧ Below w.heap.size w w' := by
  obtain ⟨w2, hw2⟩ : ∃ y, y = w.alloc (.cells (c5 hs).toArray 117) := ⟨_, rfl⟩
  have hb2 : Below w.heap.size w w2 := by rw [hw2]; exact vb _ _
  have hg2 : hp w2 w.heap.size = some (.cells (c5 hs).toArray 117 (0, 0)) := by rw [hw2]; exact hp_alloc_at _ _ rfl
  have PC := Lib.hid (rCompile w2 (rds_flat hs hg2 hs_wf (by decide)) hs_few)
  have HB2 := Lib.hid hb2
  clear hb2 hg2
  go_enter Tryz.func55, Tryz.ntmps55
  go_wp2_with (go_at_call 9999)
  rw [show w.alloc (.cells #[.int .i64 1, .int .i64 5, .int .u64 32, .int .u64 32, .slice none 0 0, .int .i64 2, .int .i64 2, .int .u64 0, .int .u64 4294967295, .slice none 0 0, .int .i64 3, .int .i64 2, .int .u64 0, .int .u64 4294967295, .slice none 0 0] 117) = w2 from hw2.symm]
  clear hw2
  go_at_call 46
  refine PC.out.mono ?_
  rintro _ w3 ⟨he, b3⟩
  rcases he with ⟨h0, -⟩ | ⟨-, c, rfl, hcd⟩
  · exact absurd hs_valid h0
  · have HCD := Lib.hid hcd; have B3 := Lib.hid b3
    clear hcd b3
    unfold ptr
    go_wp2_with fail
    go_ret
    exact ⟨c, rfl, Rc.keep (Bt.sub HB2.out.size (Nat.le_refl _)) (fun _ _ _ => rfl) HCD.out, HB2.out.trans (B3.out.mono HB2.out.size)⟩
theorem bA {w1 w6 : World} (b6 : Below w1.drew.heap.size w1.drew w6) : Below w1.heap.size w1 w6 := (Below.refl _ _).drew.trans b6
theorem bB {w1 w6 : World} {o : Obj} (b6 : Below (w1.alloc o).drew.heap.size (w1.alloc o).drew w6) : Below w1.heap.size w1 w6 ∧ hp w6 w1.heap.size = some o := by
  have h1 : Below w1.heap.size w1 (w1.alloc o).drew := (vb w1 o).drew
  refine ⟨h1.trans (b6.mono h1.size), ?_⟩
  exact Hx.below_hp (w := (w1.alloc o).drew) ((hp_drew _).trans (hp_alloc_at _ _ rfl)) b6
/-- A header as a value. -/
def hvl (k : Vector UInt8 32) (p n : Nat) (g : Nat) : List (Nat × Value × List UInt8) := [(0, .slice (some ⟨g, 0, none⟩) 32 32, k.toList), (p, .slice none 0 0, []), (n, .slice none 0 0, [])]
def hva (k : Vector UInt8 32) (p n : Nat) : Va := .mk 0 [] [.mk 0 k.toList [], .mk p [] [], .mk n [] []]
theorem hva_of (k : Vector UInt8 32) (p n g : Nat) : vaOf (hvl k p n g) = hva k p n := rfl
theorem hva_few (k : Vector UInt8 32) (p n : Nat) : FewV 3 (hva k p n) := by
  rw [← hva_of k p n 0]
  refine few_flat _ (fun x hx => ?_) (by simp [hvl])
  simp [hvl] at hx
  rcases hx with rfl | rfl | rfl <;> simp
/-- What a header is packed to. -/
def hpk (k : Vector UInt8 32) (p n : Nat) : List UInt8 := RR (Vu.chk Vh.pF Lib.validD 2 hs (hva k p n) 1) (encW 2 hs (hva k p n))
theorem hva_rd {w : World} {g g2 : Nat} {T T2 : TypeId} {fr fr2 : Nat × Nat} (k : Vector UInt8 32) (p n : Nat) (hp32 : p < 4294967296) (hn32 : n < 4294967296) (hg : hp w g = some (.cells (Header.c ⟨k, p, n⟩) T fr)) (hg2 : hp w g2 = some (.cells (c3 (hvl k p n g)).toArray T2 fr2)) :
    RdV w 2 (.int .u64 0) (.slice none 0 0) (.slice (some ⟨g2, 0, none⟩) 3 3) (hva k p n) := by
  have hr : Rd w (.slice (some ⟨g, 0, none⟩) 32 32) k.toList := rd_head k hg 0 32 (fun i hi => by
    rw [Nat.zero_add, Header.c, Array.getElem?_append_left (by simpa using hi)]) (by omega) (by simp [maxLen])
  have := rdp_flat (hvl k p n g) hg2 (fun x hx => by
    simp [hvl] at hx
    rcases hx with rfl | rfl | rfl
    · exact ⟨by simp, hr⟩
    · exact ⟨by simp only; omega, Rd.nil _⟩
    · exact ⟨by simp only; omega, Rd.nil _⟩) (by simp [hvl])
  exact this
set_option maxHeartbeats 2000000 in
set_option maxRecDepth 100000 in
theorem packP (k : Vector UInt8 32) (p n : Nat) (hp32 : p < 4294967296) (hn32 : n < 4294967296) (w : World) (hT : Vh.TabU w) :
    Calls Tryz.prog 21 #[.agg (Header.c ⟨k, p, n⟩)] w fun e w' => ∃ A c, e = .returned (.slice A (hpk k p n).length c) ∧ Own w' w.heap.size 5 (.slice A (hpk k p n).length c) (hpk k p n) ∧ Below w.heap.size w w' := by
  obtain ⟨w1, hw1⟩ : ∃ y, y = w.alloc (.cells (Header.c ⟨k, p, n⟩) 57) := ⟨_, rfl⟩
  have hb1 : Below w.heap.size w w1 := by rw [hw1]; exact vb _ _
  have hg1 : hp w1 w.heap.size = some (.cells (Header.c ⟨k, p, n⟩) 57 (0, 0)) := by rw [hw1]; exact hp_alloc_at _ _ rfl
  have h32 : w1.cell? ⟨w.heap.size, 32, none⟩ = some (.int .u32 (p : Int)) := by rw [hp_cell hg1]; simp
  have h33 : w1.cell? ⟨w.heap.size, 33, none⟩ = some (.int .u32 (n : Int)) := by rw [hp_cell hg1]; simp
  have hs1 : w1.heap.size = w.heap.size + 1 := by rw [hw1]; simp
  have hwp : IntKind.u64.wrap (p : Int) = (p : Int) := by rw [IntKind.wrap_u64]; omega
  have hwn : IntKind.u64.wrap (n : Int) = (n : Int) := by rw [IntKind.wrap_u64]; omega
  have hlt1 : w.heap.size < w1.heap.size := by omega
  have e32 : ∀ Y, Below w1.heap.size w1 Y → Y.cell? ⟨w.heap.size, 32, none⟩ = some (.int .u32 (p : Int)) ∧ Y.cell? ⟨w.heap.size, 33, none⟩ = some (.int .u32 (n : Int)) := by
    intro Y hY
    have q1 := Pb.cell_kept hY (a := ⟨w.heap.size, 32, none⟩) hlt1 h32
    have q2 := Pb.cell_kept hY (a := ⟨w.heap.size, 33, none⟩) hlt1 h33
    exact ⟨q1, q2⟩
  have PE : ∀ (c6 r : Nat) (S : Pl) (Y : World), Cd Y S 2 c6 hs → Below w1.heap.size w1 Y → hp Y r = some (.cells (c3 (hvl k p n w.heap.size)).toArray 32 (0, 0)) →
      Calls Tryz.prog 26 #[.pointer (some ⟨c6, 0, none⟩), .agg #[.int .u64 0, .slice none 0 0, .slice (some ⟨r, 0, none⟩) 3 3]] Y fun e w' =>
        ∃ A c v, e = .returned (.tuple #[.slice A (hpk k p n).length c, v]) ∧ Own w' w.heap.size 5 (.slice A (hpk k p n).length c) (hpk k p n) ∧ Below w.heap.size w w' ∧ w'.cell? ⟨w.heap.size, 32, none⟩ = some (.int .u32 (p : Int)) ∧ w'.cell? ⟨w.heap.size, 33, none⟩ = some (.int .u32 (n : Int)) := by
    intro c6 r S Y hcd bY hr
    have hg7 := Hx.below_hp hg1 bY
    refine (pEnc S c6 2 6 2 hs _ _ _ _ _ hcd hs_ok (hva_rd k p n hp32 hn32 hg7 hr) (hva_few k p n) ((hT.below hb1).below bY) (by omega)).mono ?_
    intro e w' he
    obtain ⟨A, c, v, h1, h2, -, h4⟩ := pOne he
    have hsY := bY.size
    have e8 := e32 w' (bY.trans (h4.mono bY.size))
    exact ⟨A, c, v, h1, h2.mono (by omega), (hb1.trans (bY.mono hb1.size)).trans (h4.mono (by omega)), e8.1, e8.2⟩
  have PE1 : ∀ (c6 : Nat) (S : Pl) (w6 : World), Cd w6 S 2 c6 hs → Below w1.heap.size w1 w6 →
      Calls Tryz.prog 26 #[.pointer (some ⟨c6, 0, none⟩), .agg #[.int .u64 0, .slice none 0 0, .slice (some ⟨w6.heap.size, 0, none⟩) 3 3]] (w6.alloc (.cells #[.int .u64 0, .slice (some ⟨w.heap.size, 0, none⟩) 32 32, .slice none 0 0, .int .u64 (p : Int), .slice none 0 0, .slice none 0 0, .int .u64 (n : Int), .slice none 0 0, .slice none 0 0] 32)) fun e w' =>
        ∃ A c v, e = .returned (.tuple #[.slice A (hpk k p n).length c, v]) ∧ Own w' w.heap.size 5 (.slice A (hpk k p n).length c) (hpk k p n) ∧ Below w.heap.size w w' ∧ w'.cell? ⟨w.heap.size, 32, none⟩ = some (.int .u32 (p : Int)) ∧ w'.cell? ⟨w.heap.size, 33, none⟩ = some (.int .u32 (n : Int)) := by
    intro c6 S w6 hcd b6
    have b7 := vb w6 (.cells (c3 (hvl k p n w.heap.size)).toArray 32)
    have hr7 : hp (w6.alloc (.cells (c3 (hvl k p n w.heap.size)).toArray 32)) w6.heap.size = some (.cells (c3 (hvl k p n w.heap.size)).toArray 32 (0, 0)) := hp_alloc_at _ _ rfl
    exact PE c6 w6.heap.size S _ (hcd.below b7) (b6.trans (b7.mono b6.size)) hr7
  have PE2 : ∀ (c6 : Nat) (S : Pl) (w6 : World), Cd w6 S 2 c6 hs → Below w1.heap.size w1 w6 → hp w6 w1.heap.size = some (.cells #[.int .u64 0, .slice (some ⟨w.heap.size, 0, none⟩) 32 32, .slice none 0 0, .int .u64 (p : Int), .slice none 0 0, .slice none 0 0, .int .u64 (n : Int), .slice none 0 0, .slice none 0 0] 32) →
      Calls Tryz.prog 26 #[.pointer (some ⟨c6, 0, none⟩), .agg #[.int .u64 0, .slice none 0 0, .slice (some ⟨w1.heap.size, 0, none⟩) 3 3]] w6 fun e w' =>
        ∃ A c v, e = .returned (.tuple #[.slice A (hpk k p n).length c, v]) ∧ Own w' w.heap.size 5 (.slice A (hpk k p n).length c) (hpk k p n) ∧ Below w.heap.size w w' ∧ w'.cell? ⟨w.heap.size, 32, none⟩ = some (.int .u32 (p : Int)) ∧ w'.cell? ⟨w.heap.size, 33, none⟩ = some (.int .u32 (n : Int)) := fun c6 S w6 hcd b6 hr => PE c6 w1.heap.size S w6 hcd b6 hr
  have PE2H := Lib.hid PE2; have PE1H := Lib.hid PE1
  clear hs1 PE PE1 PE2 hT hg1 hb1
  go_enter Tryz.func21, Tryz.ntmps21
  go_upto_region 1 with fail
  rw [← hw1]
  clear hw1
  go_region_held3 (fun w' => w'.cell? ⟨w.heap.size, 32, none⟩ = some (.int .u32 (p : Int)) ∧ w'.cell? ⟨w.heap.size, 33, none⟩ = some (.int .u32 (n : Int))) (go_keep) (first | (go_at_call 54; refine (headersP _).mono ?_; rintro _ w6 ⟨c6, rfl, hcd, b6⟩; have HCD := Lib.hid hcd; clear hcd; (first | (with_reducible have hbb := bB (w1 := w1) b6; have HB6 := Lib.hid hbb.1; have HRW := Lib.hid hbb.2; clear hbb) | (with_reducible have hbb := bA (w1 := w1) b6; have HB6 := Lib.hid hbb; clear hbb)); have k0 := (e32 w6 HB6.out).1; have k1 := (e32 w6 HB6.out).2; clear b6) | (go_at_call 26; (first | (have hrw := HRW.out; refine (PE2H.out _ _ _ HCD.out HB6.out hrw).mono ?_; clear hrw) | (refine (PE1H.out _ _ _ HCD.out HB6.out).mono ?_)); rintro _ w7 ⟨A7, c7, v7, rfl, ho7, b7, k2, k3⟩; have HO7 := Lib.hid ho7; have HB7 := Lib.hid b7; clear ho7 b7))
  all_goals
    go_wp2_with fail
    go_ret
    exact ⟨A7, c7, rfl, HO7.out, HB7.out⟩
end Go.Proofs.YtinngljphjdpoaaGreatDoor.Hc
/- The reference's PackHeader. -/
namespace Go.Proofs.YtinngljphjdpoaaGreatDoor.Hr
open Go Go.RowKit Go.Proofs.YtinngljphjdpoaaGreatDoor.Pa Go.Proofs.YtinngljphjdpoaaGreatDoor.Pb Go.Proofs.YtinngljphjdpoaaGreatDoor.Pf Go.Proofs.YtinngljphjdpoaaGreatDoor.Sc Go.Proofs.YtinngljphjdpoaaGreatDoor.Rs Go.Proofs.YtinngljphjdpoaaGreatDoor.Sl Go.Proofs.YtinngljphjdpoaaGreatDoor.Hs Go.Proofs.YtinngljphjdpoaaGreatDoor.Vu Go.Proofs.YtinngljphjdpoaaGreatDoor.Vo Go.Proofs.YtinngljphjdpoaaGreatDoor.Ca Go.Proofs.YtinngljphjdpoaaGreatDoor.Cb Go.Proofs.YtinngljphjdpoaaGreatDoor.Ce Go.Proofs.YtinngljphjdpoaaGreatDoor.Cm Go.Proofs.YtinngljphjdpoaaGreatDoor.Md Go.Proofs.YtinngljphjdpoaaGreatDoor.Ea Go.Proofs.YtinngljphjdpoaaGreatDoor.Es Go.Proofs.YtinngljphjdpoaaGreatDoor.Ey Go.Proofs.YtinngljphjdpoaaGreatDoor.Ez Go.Proofs.YtinngljphjdpoaaGreatDoor.Ty Go.Proofs.YtinngljphjdpoaaGreatDoor.Ft Go.Proofs.YtinngljphjdpoaaGreatDoor.Hc
set_option linter.unusedVariables false
set_option linter.unusedSimpArgs false
theorem o1A {w : World} (o : Obj) : hp (w.alloc o) w.heap.size = some o := hp_alloc_at _ _ rfl
theorem o2A {w : World} (o o' : Obj) : hp ((w.alloc o).alloc o') w.heap.size = some o := Hx.below_hp (hp_alloc_at _ _ rfl) (vb _ _)
theorem o2B {w : World} (o o' : Obj) : hp ((w.alloc o).alloc o') (w.heap.size + 1) = some o' := hp_alloc_at _ _ (by simp)
theorem oK {w : World} {q : Nat} {x : Obj} (h : hp w q = some x) (o : Obj) : hp (w.alloc o) q = some x := Hx.below_hp h (vb _ _)
theorem bK1 {w1 w6 : World} (h : Below w1.heap.size w1 w6) (o : Obj) : Below w1.heap.size w1 (w6.alloc o) := h.trans ((vb _ _).mono h.size)
theorem bK2 {w1 w6 : World} (h : Below w1.heap.size w1 w6) (o o' : Obj) : Below w1.heap.size w1 ((w6.alloc o).alloc o') := bK1 (bK1 h o) o'
theorem rK1 {w : World} {S : Pl} {n g : Nat} {l : List Slot} (h : Rc w S n g l) (o : Obj) : Rc (w.alloc o) S n g l := Rc.keep (fun _ h => h) (fun q _ hq => (vb w o).block q hq) h
theorem rK2 {w : World} {S : Pl} {n g : Nat} {l : List Slot} (h : Rc w S n g l) (o o' : Obj) : Rc ((w.alloc o).alloc o') S n g l := rK1 (rK1 h o) o'
theorem ltH {w : World} {q : Nat} {o : Obj} (h : hp w q = some o) : q < w.heap.size := (Array.getElem?_eq_some_iff.1 h).1
theorem own3 {w : World} {base g : Nat} {v : Value} {l : List UInt8} (h : Own w base 5 v l) (hg : g < base) (a b c : Value) : Own (((w.setCell ⟨g, 0, none⟩ a).setCell ⟨g, 1, none⟩ b).setCell ⟨g, 2, none⟩ c) base 5 v l :=
  World.ownsRow.kept h (row := some g) ⟨rfl, rfl, rfl, by simp [World.setCell], fun b _ hne => by
    have hn : b ≠ g := fun e => hne (by rw [e])
    rw [heap_setCell_other _ _ _ _ hn, heap_setCell_other _ _ _ _ hn, heap_setCell_other _ _ _ _ hn]⟩ (.inr (fun e => by have := (h.lt _ e).1; omega))
theorem bC {w1 w6 : World} {o o' : Obj} (b6 : Below ((w1.alloc o).alloc o').drew.heap.size ((w1.alloc o).alloc o').drew w6) : Below w1.heap.size w1 w6 ∧ hp w6 w1.heap.size = some o ∧ hp w6 (w1.heap.size + 1) = some o' := by
  have h1 : Below w1.heap.size w1 ((w1.alloc o).alloc o').drew := (bK2 (Below.refl _ _) o o').drew
  refine ⟨h1.trans (b6.mono h1.size), ?_, ?_⟩
  · exact Hx.below_hp (w := ((w1.alloc o).alloc o').drew) ((hp_drew _).trans (o2A _ _)) b6
  · exact Hx.below_hp (w := ((w1.alloc o).alloc o').drew) ((hp_drew _).trans (o2B _ _)) b6
/-- What is wrong with a header. -/
def hfl (k : Vector UInt8 32) (p n : Nat) : Vu.Flt := Vu.chk Vh.pF Lib.validD 2 hs (hva k p n) 1
set_option maxHeartbeats 4000000 in
set_option maxRecDepth 100000 in
theorem packR (k : Vector UInt8 32) (p n : Nat) (hp32 : p < 4294967296) (hn32 : n < 4294967296) (w : World) :
    Calls Tryz.prog 22 #[.agg (Header.c ⟨k, p, n⟩)] w fun e w' => ∃ A c, e = .returned (.slice A (hpk k p n).length c) ∧ Own w' w.heap.size 5 (.slice A (hpk k p n).length c) (hpk k p n) ∧ Below w.heap.size w w' := by
  obtain ⟨w1, hw1⟩ : ∃ y, y = w.alloc (.cells (Header.c ⟨k, p, n⟩) 57) := ⟨_, rfl⟩
  have hb1 : Below w.heap.size w w1 := by rw [hw1]; exact vb _ _
  have hg1 : hp w1 w.heap.size = some (.cells (Header.c ⟨k, p, n⟩) 57 (0, 0)) := by rw [hw1]; exact hp_alloc_at _ _ rfl
  have h32 : w1.cell? ⟨w.heap.size, 32, none⟩ = some (.int .u32 (p : Int)) := by rw [hp_cell hg1]; simp
  have h33 : w1.cell? ⟨w.heap.size, 33, none⟩ = some (.int .u32 (n : Int)) := by rw [hp_cell hg1]; simp
  have hs1 : w1.heap.size = w.heap.size + 1 := by rw [hw1]; simp
  have hwp : IntKind.u64.wrap (p : Int) = (p : Int) := by rw [IntKind.wrap_u64]; omega
  have hwn : IntKind.u64.wrap (n : Int) = (n : Int) := by rw [IntKind.wrap_u64]; omega
  have hlt1 : w.heap.size < w1.heap.size := by omega
  have e32 : ∀ Y, Below w1.heap.size w1 Y → Y.cell? ⟨w.heap.size, 32, none⟩ = some (.int .u32 (p : Int)) ∧ Y.cell? ⟨w.heap.size, 33, none⟩ = some (.int .u32 (n : Int)) := by
    intro Y hY
    have q1 := Pb.cell_kept hY (a := ⟨w.heap.size, 32, none⟩) hlt1 h32
    have q2 := Pb.cell_kept hY (a := ⟨w.heap.size, 33, none⟩) hlt1 h33
    exact ⟨q1, q2⟩
  have PE : ∀ (c6 r : Nat) (S : Pl) (Y : World), Rc Y S 2 c6 hs → Below w1.heap.size w1 Y → hp Y r = some (.cells #[.int .u64 0, .slice (some ⟨w.heap.size, 0, none⟩) 32 32, .slice none 0 0, .int .u64 (p : Int), .slice none 0 0, .slice none 0 0, .int .u64 (n : Int), .slice none 0 0, .slice none 0 0] 32) →
      Calls Tryz.prog 27 #[.pointer (some ⟨c6, 0, none⟩), .agg #[.int .u64 0, .slice none 0 0, .slice (some ⟨r, 0, none⟩) 3 3]] Y fun e w' =>
        ∃ A c, e = .returned (.tuple #[.slice A (hpk k p n).length c, .agg #[.int .i64 (hfl k p n).1, .int .i64 (hfl k p n).2.1, .int .i64 (hfl k p n).2.2]]) ∧ (Own w' Y.heap.size 5 (.slice A (hpk k p n).length c) (hpk k p n) ∧ w.heap.size ≤ Y.heap.size) ∧ Below w.heap.size w w' ∧ w'.cell? ⟨w.heap.size, 32, none⟩ = some (.int .u32 (p : Int)) ∧ w'.cell? ⟨w.heap.size, 33, none⟩ = some (.int .u32 (n : Int)) ∧ (∀ q o, hp Y q = some o → hp w' q = some o ∧ q < Y.heap.size) := by
    intro c6 r S Y hcd bY hr
    have hg7 := Hx.below_hp hg1 bY
    refine (rEnc hcd hs_ok (by omega) (hva_rd k p n hp32 hn32 hg7 hr) (hva_few k p n)).mono ?_
    intro e w' he
    obtain ⟨A, c, h1, h2, h4⟩ := rOne he
    have hsY := bY.size
    have e8 := e32 w' (bY.trans (h4.mono bY.size))
    exact ⟨A, c, h1, ⟨h2, by omega⟩, (hb1.trans (bY.mono hb1.size)).trans (h4.mono (by omega)), e8.1, e8.2, fun q o hq => ⟨Hx.below_hp hq h4, ltH hq⟩⟩
  have PEH := Lib.hid PE
  have HLT := Lib.hid hlt1
  obtain ⟨m1, m2, m3, m4⟩ : (¬ w1.heap.size = w.heap.size) ∧ (¬ w.heap.size = w1.heap.size) ∧ (¬ w1.heap.size + 1 = w.heap.size) ∧ (¬ w.heap.size = w1.heap.size + 1) := by omega
  clear hs1 PE hg1 hb1 hlt1
  go_enter Tryz.func22, Tryz.ntmps22
  go_upto_region 1 with fail
  rw [← hw1]
  clear hw1
  go_region_held3 (fun w' => w'.cell? ⟨w.heap.size, 32, none⟩ = some (.int .u32 (p : Int)) ∧ w'.cell? ⟨w.heap.size, 33, none⟩ = some (.int .u32 (n : Int))) (go_keep) (first
    | (go_at_call 55; refine (headerR _).mono ?_; rintro _ w6 ⟨c6, rfl, hcd, b6⟩; have HCD := Lib.hid hcd; clear hcd; (first | (with_reducible have hbb := bC (w1 := w1) b6; have HB6 := Lib.hid hbb.1; have HO1 := Lib.hid hbb.2.1; have HO2 := Lib.hid hbb.2.2; clear hbb) | (with_reducible have hbb := bB (w1 := w1) b6; have HB6 := Lib.hid hbb.1; have HO1 := Lib.hid hbb.2; clear hbb) | (with_reducible have hbb := bA (w1 := w1) b6; have HB6 := Lib.hid hbb; clear hbb)); have k0 := (e32 w6 HB6.out).1; have k1 := (e32 w6 HB6.out).2; obtain ⟨n1, n2, n3, n4⟩ : (¬ w6.heap.size = w.heap.size) ∧ (¬ w.heap.size = w6.heap.size) ∧ (¬ w6.heap.size + 1 = w.heap.size) ∧ (¬ w.heap.size = w6.heap.size + 1) := (by have q1 := HB6.out.size; have q2 := HLT.out; omega); clear b6)
    | (go_at_call 27; refine (PEH.out _ _ _ _ (by with_reducible (first | exact HCD.out | exact rK1 HCD.out _ | exact rK2 HCD.out _ _)) (by with_reducible (first | exact HB6.out | exact bK1 HB6.out _ | exact bK2 HB6.out _ _)) (by with_reducible (first | exact HO1.out | exact HO2.out | exact o1A _ | exact o2A _ _ | exact o2B _ _ | exact oK HO1.out _ | exact oK HO2.out _))).mono ?_; rintro _ w7 ⟨A7, c7, rfl, ho7, b7, k2, k3, k4⟩; obtain ⟨n5, n6⟩ : (¬ w7.heap.size = w.heap.size) ∧ (¬ w.heap.size = w7.heap.size) := (by have q1 := World.block_lt_of_cell? w7 _ k2; dsimp only at q1; omega); (first | (with_reducible have hF7 := k4 _ (.cells #[.int .i64 0, .int .i64 0, .int .i64 0] 39) HO1.out; have HL7 := Lib.hid hF7.2; replace hF7 := hF7.1; have c8 := fun i => hp_cell hF7 i; have f8 := fun i => hp_frozen hF7 i; have HF7 := Lib.hid hF7; clear hF7) | (with_reducible have hF7 := k4 _ (.cells #[.int .i64 0, .int .i64 0, .int .i64 0] 39) HO2.out; have HL7 := Lib.hid hF7.2; replace hF7 := hF7.1; have c8 := fun i => hp_cell hF7 i; have f8 := fun i => hp_frozen hF7 i; have HF7 := Lib.hid hF7; clear hF7) | (with_reducible have hF7 := k4 _ (.cells #[.int .i64 0, .int .i64 0, .int .i64 0] 39) (o2B _ _); have HL7 := Lib.hid hF7.2; replace hF7 := hF7.1; have c8 := fun i => hp_cell hF7 i; have f8 := fun i => hp_frozen hF7 i; have HF7 := Lib.hid hF7; clear hF7) | (with_reducible have hF7 := k4 _ (.cells #[.int .i64 0, .int .i64 0, .int .i64 0] 39) (o2A _ _); have HL7 := Lib.hid hF7.2; replace hF7 := hF7.1; have c8 := fun i => hp_cell hF7 i; have f8 := fun i => hp_frozen hF7 i; have HF7 := Lib.hid hF7; clear hF7) | (with_reducible have hF7 := k4 _ (.cells #[.int .i64 0, .int .i64 0, .int .i64 0] 39) (o1A _); have HL7 := Lib.hid hF7.2; replace hF7 := hF7.1; have c8 := fun i => hp_cell hF7 i; have f8 := fun i => hp_frozen hF7 i; have HF7 := Lib.hid hF7; clear hF7) | (with_reducible have hF7 := k4 _ (.cells #[.int .i64 0, .int .i64 0, .int .i64 0] 39) (oK HO1.out _); have HL7 := Lib.hid hF7.2; replace hF7 := hF7.1; have c8 := fun i => hp_cell hF7 i; have f8 := fun i => hp_frozen hF7 i; have HF7 := Lib.hid hF7; clear hF7) | (with_reducible have hF7 := k4 _ (.cells #[.int .i64 0, .int .i64 0, .int .i64 0] 39) (oK HO2.out _); have HL7 := Lib.hid hF7.2; replace hF7 := hF7.1; have c8 := fun i => hp_cell hF7 i; have f8 := fun i => hp_frozen hF7 i; have HF7 := Lib.hid hF7; clear hF7) | skip); have HO7 := Lib.hid ho7; have HB7 := Lib.hid b7; clear ho7 b7 k4))
  all_goals
    go_wp2_with fail
    go_ret
    first
    | exact ⟨A7, c7, rfl, (HO7.out.1.mono HO7.out.2).alloc _, HB7.out.alloc (by have := HB7.out.size; omega) _⟩
    | exact ⟨A7, c7, rfl, (own3 HO7.out.1 HL7.out _ _ _).mono HO7.out.2, ((HB7.out.setCell (by have := HLT.out; have := HB6.out.size; dsimp only; omega) _).setCell (by have := HLT.out; have := HB6.out.size; dsimp only; omega) _).setCell (by have := HLT.out; have := HB6.out.size; dsimp only; omega) _⟩
end Go.Proofs.YtinngljphjdpoaaGreatDoor.Hr
