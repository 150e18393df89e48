/- Unpad, the program's and the reference's; the law EnvelopeUnpads' walk. -/
import Derived.Test.YthiibkcaodaekaaPad
import Derived.Laws.BitsAllLaws
namespace Go.Proofs.Ythiibkcaodaekaa.Unp
open Go Go.RowKit Go.Proofs.Ythiibkcaodaekaa.Pa Go.Proofs.Ythiibkcaodaekaa.Pb Go.Proofs.Ythiibkcaodaekaa.Pc Go.Proofs.Ythiibkcaodaekaa.Pf Go.Proofs.Ythiibkcaodaekaa.Ap Go.Proofs.Ythiibkcaodaekaa.Hd Go.Proofs.Ythiibkcaodaekaa.Bk Go.Proofs.Ythiibkcaodaekaa.Br Go.Proofs.Ythiibkcaodaekaa.Bl Go.Proofs.Ythiibkcaodaekaa.Pad
set_option linter.unusedVariables false
set_option linter.unusedSimpArgs false

/-- append, kept whole. -/
def appX (a : Array TypeId) (ty : TypeId) (args : Array Value) : Sem Value := Builtin.append_ a ty args
theorem app_x (a : Array TypeId) (ty : TypeId) (args : Array Value) : Builtin.append_ a ty args = appX a ty args := by rw [appX]
theorem run_appX {P : Program} {T E : TypeId} (hU : U8 P T E) (ty : TypeId) {w : World} {base : Nat} {v x : Value} {l m : List UInt8} (hv : Own w base E v l) (hx : Rd w x m) (hbase : base ≤ w.heap.size) (hl : l.length + m.length ≤ 140737488355328) :
    ∃ v' w', (appX #[T, T] ty #[v, x]).run P w = .ok v' w' ∧ Own w' base E v' (l ++ m) ∧ w.grownBy w' v.ownBlock ∧ (v'.ownBlock = v.ownBlock ∧ capOf v' = capOf v ∨ v'.ownBlock = some w.heap.size ∧ w.grownBy w' none) := run_app hU ty hv hx hbase hl
/-- The first k bytes' number, the least first. -/
def numk (l : List UInt8) : Nat → Nat
  | 0 => 0
  | k + 1 => numk l k + (l[k]?.getD 0).toNat * 256 ^ k
theorem numk_lt (l : List UInt8) (k : Nat) : numk l k < 256 ^ k := by
  induction k with
  | zero => simp [numk]
  | succ k ih =>
    have := (l[k]?.getD 0).toNat_lt
    simp only [numk, Nat.pow_succ]
    have h2 : (l[k]?.getD 0).toNat * 256 ^ k ≤ 255 * 256 ^ k := Nat.mul_le_mul_right _ (by omega)
    omega
/-- What a list is unpadded to. -/
def good (v : Int) (l : List UInt8) : Prop := 64 ≤ l.length ∧ (bucket v (numk l 4 : Int)).2 = 0 ∧ (bucket v (numk l 4 : Int)).1 = (l.length : Int) ∧ ∀ x ∈ l.drop (4 + numk l 4), x = 0
instance (v : Int) (l : List UInt8) : Decidable (good v l) := by unfold good; infer_instance
def unpad (v : Int) (l : List UInt8) : List UInt8 × Int :=
  if ¬ (v = 1 ∨ v = 2) then ([], 100) else if good v l then ((l.drop 4).take (numk l 4), 0) else ([], 101)

theorem up_ge (v n : Nat) : ∀ (k b : Nat), n - b = k → 0 < b → n ≤ up v n b := by
  intro k
  induction k using Nat.strongRecOn with
  | _ k ih =>
    intro b hk h0
    by_cases h : b < n
    · rw [← up_step h0 h]
      have := next_gt v b h0
      exact ih (n - next v b) (by omega) _ rfl (by omega)
    · rw [up_end h]; omega
theorem bucket_ge (v n : Int) (h : (bucket v n).2 = 0) : n + 4 ≤ (bucket v n).1 := by
  unfold bucket at h ⊢
  split at h <;> rename_i h1
  · simp at h
  · rw [if_neg h1]
    split at h <;> rename_i h2
    · simp at h
    · rw [if_neg h2]
      split at h <;> rename_i h3
      · simp at h
      · rw [if_neg h3]
        have := up_ge v.toNat (n.toNat + 4) _ 64 rfl (by omega)
        simp only
        omega

theorem run_mid {P : Program} {T E : TypeId} (hU : U8 P T E) (A : Option Addr) (n c lo hi : Nat) (h1 : lo ≤ hi) (h2 : hi ≤ n) (hc : n ≤ c) (W : World) :
    (Instr.slice T (.slice A n c) (some (.int .i64 (lo : Int))) (some (.int .i64 (hi : Int))) none).run P W = .ok (.slice (if c = lo then A else A.map (·.add lo)) (hi - lo) (c - lo)) W := by
  obtain ⟨i, hi', hzz⟩ := Option.map_eq_some_iff.1 hU.info
  simp only [Prod.mk.injEq] at hzz
  have hel : P.elem T = E := by simp [Program.elem, hU.sl]
  have hu : P.underlying T = some (.slice (P.elem T)) := by rw [hel]; exact hU.sl
  rw [run_slice_lh W T A n c hu .i64 .i64 lo hi (by omega) (by omega) (by omega), hel]
  simp [sizeOf, typeInfo, hi', hzz.2.1, sliced, Result.andThen]
theorem wp_mid {P : Program} {T E : TypeId} (hU : U8 P T E) {o : Oper} {a : Act} {K : Act → World → Prop} {Q : Exit → Act → World → Prop} {w : World} (s x y : Operand) (ho : o.op = .slice T s (some x) (some y) none)
    {A : Option Addr} {n c : Nat} {lo' hi' : Int} (hs : a.eval s = .slice A n c) (hx : a.eval x = .int .i64 lo') (hy : a.eval y = .int .i64 hi') (lo hi : Nat) (hlo : lo' = (lo : Int)) (hhi : hi' = (hi : Int)) (h1 : lo ≤ hi) (h2 : hi ≤ n) (hc : n ≤ c)
    {u : Value} (hu : .slice (if c = lo then A else A.map (·.add lo)) (hi - lo) (c - lo) = u) (h : K (a.put o.dst u) w) : o.wp P a w K Q := by
  subst hlo hhi hu
  have hel : P.elem T = E := by simp [Program.elem, hU.sl]
  have hr := (run_sliceAt_slice (w := w) T (.slice A n c) (some (.int .i64 (lo : Int))) (some (.int .i64 (hi : Int))) none (by rw [hel]; exact hU.sl)).trans (run_mid hU A n c lo hi h1 h2 hc w)
  unfold Oper.wp execOp
  simp only [ho, hs, hx, hy, Option.map_some, Option.map_none, hr, Sem.run_bind, Result.andThen_ok, Sem.run_pure]
  exact h
theorem wp_apO {P : Program} (s x : Operand) {T E : TypeId} (hU : U8 P T E) {o : Oper} {a : Act} {K : Act → World → Prop} {Q : Exit → Act → World → Prop} {w : World} (ho : o.op = .call { callee := .builtin .append, args := #[s, x], argTypes := #[T, T] })
    {base : Nat} {v xv : Value} {l m : List UInt8} (hs : a.eval s = v) (hx : a.eval x = xv) (hv : Own w base E v l) (hm : Rd w xv m) (hbase : base ≤ w.heap.size) (hl : l.length + m.length ≤ 140737488355328)
    (h : ∀ v' w', Own w' base E v' (l ++ m) → w.grownBy w' v.ownBlock → K (a.put o.dst v') w') : o.wp P a w K Q := by
  obtain ⟨v', w', hr, h2, h3, h4⟩ := run_app hU o.type hv hm hbase hl
  unfold Oper.wp execOp
  simp only [ho, resolve, invoke, builtin, Sem.run_bind, Sem.run_pure, Result.andThen_ok, List.map_toArray, List.map_cons, List.map_nil, hs, hx, hr]
  exact h _ _ h2 h3
theorem growsf {v : Int} {f : Value} (hf : grown v = f) (w : World) : Calls Try.prog 19 #[.int .i64 v] w fun e w' => e = .returned f ∧ Below w.heap.size w w' :=
  (grows v w).mono fun e w' ⟨h1, h2⟩ => ⟨by rw [h1, hf], h2⟩
theorem or_add (m x p c : Nat) (hc : c = 2 ^ p) (hm : m < c) (hx : x < 256) (hp : c ≤ 16777216) {y : Int} (hy : y = ((x * c : Nat) : Int)) : bits BinOp.or IntKind.i64 (m : Int) y = ((m + x * c : Nat) : Int) := by
  have hb : x * c ≤ 255 * 16777216 := Nat.mul_le_mul (by omega) hp
  have h63 : (2 : Nat) ^ 63 = 9223372036854775808 := by decide
  rw [hy, (bits_nat .i64 63 (by decide) (fun n h1 h2 => by rw [IntKind.wrap_i64]; omega) m (x * c) (by rw [h63]; omega) (by rw [h63]; omega)).2]
  congr 1
  have := Nat.shiftLeft_add_eq_or_of_lt (i := p) (b := m) (by rw [← hc]; exact hm) x
  rw [Nat.shiftLeft_eq, ← hc] at this
  rw [Nat.or_comm, ← this, Nat.add_comm]
theorem numk_ltc (l : List UInt8) (k c : Nat) (hc : c = 256 ^ k) : numk l k < c := by rw [hc]; exact numk_lt l k
theorem numk_succc (l : List UInt8) (k c : Nat) (hc : c = 256 ^ k) (h : k < l.length) : numk l (k + 1) = numk l k + l[k].toNat * c := by rw [hc]; simp [numk, h]
theorem numk_succ (l : List UInt8) (k : Nat) (h : k < l.length) : numk l (k + 1) = numk l k + l[k].toNat * 256 ^ k := by simp [numk, h]
theorem Rd_sub {w : World} {ad : Addr} {n c : Nat} {l : List UInt8} (h : Rd w (.slice (some ad) n c) l) (lo hi : Nat) (h1 : lo ≤ hi) (h2 : hi ≤ l.length) : Rd w (.slice (some (ad.add lo)) (hi - lo) (c - lo)) ((l.drop lo).take (hi - lo)) := by
  have hl : ((l.drop lo).take (hi - lo)).length = hi - lo := by simp; omega
  obtain ⟨h3, h4, h5⟩ := h.len
  refine ⟨_, _, by rw [hl], by omega, by omega, fun _ => ⟨_, rfl, fun j u hu => ?_⟩⟩
  have hj := (List.getElem?_eq_some_iff.1 hu).1
  simp at hj
  obtain ⟨ad', e, hc⟩ := h.at_ (lo + j) (by omega)
  cases e
  have hadd : (ad.add lo).add j = ad.add (lo + j) := by
    unfold Addr.add
    split <;> split <;> simp_all <;> omega
  rw [hadd, hc, ← hu]
  simp [cb, hj]

set_option maxHeartbeats 1000000 in
set_option maxRecDepth 100000 in
theorem unpad_any (ver : Int) {v : Value} {l : List UInt8} (w : World) (hv : Rd w v l) (hl : l.length ≤ 140737488351232) :
    Calls Try.prog 17 #[.int .i64 ver, v] w fun e w' => ∃ v', e = .returned (.tuple #[v', .int .i64 (unpad ver l).2]) ∧ Own w' w.heap.size 5 v' (unpad ver l).1 ∧ Below w.heap.size w w' := by
  obtain ⟨A, c, rfl, -⟩ := id hv
  have hq1 := eqf_nil
  have hq2 := eqf_func
  by_cases hver : ver = 1 ∨ ver = 2
  · obtain ⟨f, hf⟩ : ∃ f, grown ver = .func (.func f) #[] #[] := by
      unfold grown
      rcases hver with rfl | rfl
      · exact ⟨_, rfl⟩
      · exact ⟨_, rfl⟩
    have HV := Lib.hid hv; clear hv
    have HVER := Lib.hid hver; clear hver
    by_cases h64 : l.length < 64
    · have hu : unpad ver l = ([], 101) := by unfold unpad; rw [if_neg (by have := HVER.out; omega), if_neg (by unfold good; omega)]
      rw [hu]
      clear hu
      go_enter Try.func17, Try.ntmps17
      go_wp2_with (go_at_call 19; refine (growsf hf _).mono ?_; rintro e w1 ⟨rfl, hb1⟩)
      go_ret2
      exact ⟨_, rfl, Own.nil _ _ _, hb1⟩
    · go_enter Try.func17, Try.ntmps17
      go_wp2_with (go_at_call 19; refine (growsf hf _).mono ?_; rintro e w1 ⟨rfl, hb1⟩)
      have RV := Lib.hid (HV.out.below hb1)
      go_loop [6, 18] (fun s t => ∃ i : Nat, i ≤ 4 ∧ t = .int .i64 i ∧ s = .int .i64 (numk l i : Nat)) (fun _ t => 4 - (intOf t).toNat)
      case atStart => exact ⟨0, by omega, rfl, rfl⟩
      case round =>
        obtain ⟨i, hi, rfl, rfl⟩ := hrel
        by_cases hi4 : i < 4
        · obtain ⟨ad, rfl, hcell⟩ := RV.out.at_ i (by omega)
          have hx : (l[i]'(by omega)).toNat < 256 := (l[i]'(by omega)).toNat_lt
          obtain rfl | rfl | rfl | rfl : i = 0 ∨ i = 1 ∨ i = 2 ∨ i = 3 := by omega
          · rw [Go.Addr.add_zero'] at hcell
            go_wp2
            go_round
            case rel => exact ⟨1, by omega, rfl, by rw [or_add (numk l 0) l[0].toNat 0 1 (by decide) (numk_ltc l 0 1 (by decide)) hx (by omega) (by omega), numk_succc l 0 1 (by decide) (by omega)]⟩
            case measure => simp [intOf]
          · simp [Addr.add] at hcell
            go_wp2
            go_round
            case rel => exact ⟨2, by omega, rfl, by rw [or_add (numk l 1) l[1].toNat 8 256 (by decide) (numk_ltc l 1 256 (by decide)) hx (by omega) (by omega), numk_succc l 1 256 (by decide) (by omega)]⟩
            case measure => simp [intOf]
          · simp [Addr.add] at hcell
            go_wp2
            go_round
            case rel => exact ⟨3, by omega, rfl, by rw [or_add (numk l 2) l[2].toNat 16 65536 (by decide) (numk_ltc l 2 65536 (by decide)) hx (by omega) (by omega), numk_succc l 2 65536 (by decide) (by omega)]⟩
            case measure => simp [intOf]
          · simp [Addr.add] at hcell
            go_wp2
            go_round
            case rel => exact ⟨4, by omega, rfl, by rw [or_add (numk l 3) l[3].toNat 24 16777216 (by decide) (numk_ltc l 3 16777216 (by decide)) hx (by omega) (by omega), numk_succc l 3 16777216 (by decide) (by omega)]⟩
            case measure => simp [intOf]
        · obtain rfl : i = 4 := by omega
          have hN := numk_ltc l 4 4294967296 (by decide)
          have hNdef := Lib.hid (rfl : numk l 4 = numk l 4)
          generalize hNN : numk l 4 = N at hN hNdef
          have HNN := Lib.hid hNN; clear hNN
          obtain ⟨ad, rfl, -⟩ := RV.out.at_ 0 (by omega)
          by_cases hb2 : (bucket ver (N : Int)).2 = 0
          · by_cases hb1' : (bucket ver (N : Int)).1 = (l.length : Int)
            · have hge := bucket_ge ver N hb2
              have hcl := RV.out.len.2.1
              have hadd4 : ad.add 4 = ⟨ad.block, ad.off + 4, none⟩ := by simp [Addr.add]
              by_cases hc4 : c = 4 + N
              · have hl4 : l.length = 4 + N := by omega
                subst hc4
                go_wp2_with (go_at_call 13; refine (bucket_any _ _ _).mono ?_; rintro e w2 ⟨rfl, hb3⟩)
                have rd2 := Rd_sub (RV.out.below hb3) 4 (4 + N) (by omega) (by omega)
                simp only [Nat.add_sub_cancel_left, hadd4] at rd2
                go_loop [51] (fun s => s = .int .i64 0) (fun s => 0)
                case atStart => rfl
                case round =>
                  subst hrel
                  have hu : unpad ver l = ((l.drop 4).take N, 0) := by
                    unfold unpad
                    rw [if_neg (by have := HVER.out; omega), if_pos ?_, HNN.out]
                    refine ⟨by omega, by rw [HNN.out]; exact hb2, by rw [HNN.out]; exact hb1', ?_⟩
                    rw [HNN.out]
                    intro x hx
                    obtain ⟨j, hj, rfl⟩ := List.getElem_of_mem hx
                    simp only [List.length_drop] at hj
                    rw [List.getElem_drop]
                    omega
                  have HU := Lib.hid hu; clear hu
                  iterate 28 (first | go_values | go_skip | go_guarded | go_step | go_upon | go_in | go_back | (simp only [Int.not_lt, Int.not_le] at *; go_simp) | go_simp)
                  refine wp_mid u8 (.tmp 58) (.const (.int .i64 4)) (.tmp 60) rfl rfl rfl rfl 4 (4 + N) rfl (by omega) (by omega) (by omega) (by omega) (u := .slice (some ⟨ad.block, ad.off + 4, none⟩) N N) (by rw [if_neg (by omega), Nat.add_sub_cancel_left, Option.map_some, hadd4]) ?_
                  iterate 2 (first | go_values | go_skip | go_guarded | go_step | go_upon | go_in | go_back | (simp only [Int.not_lt, Int.not_le] at *; go_simp) | go_simp)
                  refine wp_apO (.const (.slice none 0 0)) (.tmp 61) u8 rfl rfl rfl (Own.nil w2 w2.heap.size 5) rd2 (Nat.le_refl _) (by simp; omega) ?_
                  intro v3 w3 ho3 hg3
                  go_wp2
                  go_ret2
                  rw [HU.out]
                  have c2 : Below w.heap.size w w2 := hb1.trans (hb3.mono hb1.size)
                  have o3 : Own w3 w.heap.size 5 v3 ((l.drop 4).take N) := by
                    have h := ho3.mono c2.size
                    rw [List.nil_append] at h
                    exact h
                  exact ⟨v3, rfl, o3, below_grown c2 (Own.nil w2 w2.heap.size 5) c2.size c2.size hg3⟩
              · go_wp2_with (go_at_call 13; refine (bucket_any _ _ _).mono ?_; rintro e w2 ⟨rfl, hb3⟩)
                have rd2 := Rd_sub (RV.out.below hb3) 4 (4 + N) (by omega) (by omega)
                rw [Nat.add_sub_cancel_left, hadd4] at rd2
                have rs := Rd_sub (RV.out.below hb3) (4 + N) l.length (by omega) (Nat.le_refl _)
                go_loop [51] (fun s => ∃ i : Nat, i ≤ l.length - (4 + N) ∧ s = .int .i64 i ∧ ∀ j (h : 4 + N + j < l.length), j < i → l[4 + N + j] = 0) (fun s => l.length - (intOf s).toNat)
                case atStart => exact ⟨0, by omega, rfl, fun j _ h => absurd h (by omega)⟩
                case round =>
                  obtain ⟨i, hi, rfl, hz⟩ := hrel
                  have HZ := Lib.hid hz; clear hz
                  by_cases hi4 : i < l.length - (4 + N)
                  · obtain ⟨ad', e, hcell⟩ := rs.at_ i (by simp; omega)
                    cases e
                    simp only [List.getElem_take, List.getElem_drop] at hcell
                    have hltN : 4 + N + i < l.length := by omega
                    by_cases hzero : l[4 + N + i] = 0
                    · have hcell0 : w2.cell? ((ad.add (4 + N)).add i) = some (.int .u8 0) := by rw [hcell, hzero]; rfl
                      clear hcell
                      have HZE := Lib.hid hzero; clear hzero
                      go_wp2
                      go_round
                      case rel =>
                        refine ⟨i + 1, by omega, by go_num, fun j h hj => ?_⟩
                        by_cases hji : j = i
                        · subst hji; exact HZE.out
                        · exact HZ.out j h (by omega)
                      case measure => simp [intOf]; omega
                    · have hnz : ((l[4 + N + i].toNat : Int) != 0) = true := by
                        have : l[4 + N + i].toNat ≠ 0 := fun h => hzero (UInt8.toNat_inj.1 h)
                        simpa using this
                      have hu : unpad ver l = ([], 101) := by
                        unfold unpad
                        rw [if_neg (by have := HVER.out; omega), if_neg ?_]
                        rintro ⟨_, g2, g3, g4⟩
                        rw [HNN.out] at g2 g3 g4
                        exact hzero (g4 _ (List.mem_of_getElem? (i := i) (by rw [List.getElem?_drop, List.getElem?_eq_getElem hltN])))
                      have HU := Lib.hid hu; clear hu
                      go_wp2
                      go_ret2
                      rw [HU.out]
                      exact ⟨_, rfl, Own.nil _ _ _, hb1.trans (hb3.mono hb1.size)⟩
                  · skip
                    have hu : unpad ver l = ((l.drop 4).take N, 0) := by
                      unfold unpad
                      rw [if_neg (by have := HVER.out; omega), if_pos ?_, HNN.out]
                      refine ⟨by omega, by rw [HNN.out]; exact hb2, by rw [HNN.out]; exact hb1', ?_⟩
                      rw [HNN.out]
                      intro x hx
                      obtain ⟨j, hj, rfl⟩ := List.getElem_of_mem hx
                      simp only [List.length_drop] at hj
                      rw [List.getElem_drop]
                      exact HZ.out j (by omega) (by omega)
                    have HU := Lib.hid hu; clear hu
                    iterate 28 (first | go_values | go_skip | go_guarded | go_step | go_upon | go_in | go_back | (simp only [Int.not_lt, Int.not_le] at *; go_simp) | go_simp)
                    refine wp_mid u8 (.tmp 58) (.const (.int .i64 4)) (.tmp 60) rfl rfl rfl rfl 4 (4 + N) rfl (by omega) (by omega) (by omega) (by omega) (u := .slice (some ⟨ad.block, ad.off + 4, none⟩) N (c - 4)) (by rw [if_neg (by omega), Nat.add_sub_cancel_left, Option.map_some, hadd4]) ?_
                    iterate 2 (first | go_values | go_skip | go_guarded | go_step | go_upon | go_in | go_back | (simp only [Int.not_lt, Int.not_le] at *; go_simp) | go_simp)
                    refine wp_apO (.const (.slice none 0 0)) (.tmp 61) u8 rfl rfl rfl (Own.nil w2 w2.heap.size 5) rd2 (Nat.le_refl _) (by simp; omega) ?_
                    intro v3 w3 ho3 hg3
                    go_wp2
                    go_ret2
                    rw [HU.out]
                    have c2 : Below w.heap.size w w2 := hb1.trans (hb3.mono hb1.size)
                    have o3 : Own w3 w.heap.size 5 v3 ((l.drop 4).take N) := by
                      have h := ho3.mono c2.size
                      rw [List.nil_append] at h
                      exact h
                    exact ⟨v3, rfl, o3, below_grown c2 (Own.nil w2 w2.heap.size 5) c2.size c2.size hg3⟩
            · have hn1 : ((bucket ver (N : Int)).1 != (l.length : Int)) = true := by simpa using hb1'
              have hu : unpad ver l = ([], 101) := by
                unfold unpad
                rw [if_neg (by have := HVER.out; omega), if_neg ?_]
                rintro ⟨_, g2, g3, g4⟩
                rw [HNN.out] at g2 g3 g4
                exact hb1' g3
              have HU := Lib.hid hu; clear hu
              go_wp2_with (go_at_call 13; refine (bucket_any _ _ _).mono ?_; rintro e w2 ⟨rfl, hb3⟩)
              go_ret2
              rw [HU.out]
              exact ⟨_, rfl, Own.nil _ _ _, hb1.trans (hb3.mono hb1.size)⟩
          · have hn1 : ((bucket ver (N : Int)).2 != 0) = true := by simpa using hb2
            have hu : unpad ver l = ([], 101) := by
              unfold unpad
              rw [if_neg (by have := HVER.out; omega), if_neg ?_]
              rintro ⟨_, g2, g3, g4⟩
              rw [HNN.out] at g2 g3 g4
              exact hb2 g2
            have HU := Lib.hid hu; clear hu
            go_wp2_with (go_at_call 13; refine (bucket_any _ _ _).mono ?_; rintro e w2 ⟨rfl, hb3⟩)
            go_ret2
            rw [HU.out]
            exact ⟨_, rfl, Own.nil _ _ _, hb1.trans (hb3.mono hb1.size)⟩
  · have hu : unpad ver l = ([], 100) := by unfold unpad; rw [if_pos hver]
    have hf : grown ver = .nilFunc := by unfold grown; rw [if_neg (by omega), if_neg (by omega)]
    rw [hu]
    clear hu
    go_enter Try.func17, Try.ntmps17
    go_wp2_with (go_at_call 19; refine (growsf hf _).mono ?_; rintro e w1 ⟨rfl, hb1⟩)
    go_ret2
    exact ⟨_, rfl, Own.nil _ _ _, hb1⟩
end Go.Proofs.Ythiibkcaodaekaa.Unp
