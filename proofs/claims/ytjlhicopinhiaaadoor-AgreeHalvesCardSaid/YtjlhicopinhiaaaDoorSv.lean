/- Rows of words in memory; the compression, plain. No program in sight; no conditions. -/
import Derived.Test.YtjlhicopinhiaaaDoorSh
import Derived.Test.YtjlhicopinhiaaaDoorPq
import Derived.Test.YtjlhicopinhiaaaDoorPf
namespace Go.Proofs.YtjlhicopinhiaaaDoor.Sv
open Go Go.RowKit Go.Proofs.YtjlhicopinhiaaaDoor.Pa Go.Proofs.YtjlhicopinhiaaaDoor.Pb Go.Proofs.YtjlhicopinhiaaaDoor.Pf Go.Proofs.YtjlhicopinhiaaaDoor.Pq Go.Proofs.YtjlhicopinhiaaaDoor.Sh
set_option linter.unusedVariables false
set_option linter.unusedSimpArgs false

/-- The words' cells. -/
def uv {n : Nat} (k : Vector UInt32 n) : Array Value := k.toArray.map fun x => Value.int .u32 (uw x)
@[simp, go_sem] theorem uv_size {n : Nat} (k : Vector UInt32 n) : (uv k).size = n := by simp [uv]
@[simp, go_sem] theorem uv_ones {n : Nat} (k : Vector UInt32 n) : ones (uv k) = true := by
  simp only [ones, Array.all_eq_true_iff_forall_mem, uv, Array.mem_map]
  rintro x ⟨b, _, rfl⟩
  rfl
theorem uv_at {n : Nat} (k : Vector UInt32 n) (i : Nat) (h : i < n) : (uv k)[i]? = some (.int .u32 (uw k[i])) := by simp [uv, h]
theorem uv_set {n : Nat} (k : Vector UInt32 n) (i : Nat) (h : i < n) (x : UInt32) : (uv k).setIfInBounds i (.int .u32 (uw x)) = uv (k.set i x) := by
  apply Array.ext_getElem?
  intro j
  simp only [uv, Array.getElem?_setIfInBounds, Array.getElem?_map, Vector.toArray_set, Array.getElem?_set, Array.size_map, Vector.size_toArray]
  by_cases hij : i = j
  · subst hij; simp [h]
  · simp [hij]
@[simp, go_sem] theorem uv_ex (k : Vector UInt32 8) : (uv k).extract 0 8 = uv k := ex_all _ _ (by simp)
@[simp, go_sem] theorem uv_put (a b : Vector UInt32 8) : putR (uv a) 0 (uv b) = uv b := Pa.put_all _ _ (by simp)
/-- Block g is just these words. -/
def Wd (w : World) (g : Nat) (T : TypeId) {n : Nat} (k : Vector UInt32 n) : Prop := hp w g = some (.cells (uv k) T (0, 0))
section
variable {w w' : World} {g : Nat} {T : TypeId} {n : Nat} {k : Vector UInt32 n}
theorem Wd.lt (h : Wd w g T k) : g < w.heap.size := by
  rcases Nat.lt_or_ge g w.heap.size with h1 | h1
  · exact h1
  · unfold Wd hp at h; rw [Array.getElem?_eq_none h1] at h; cases h
theorem Wd.cell (h : Wd w g T k) (i : Nat) (hi : i < n) : w.cell? ⟨g, i, none⟩ = some (.int .u32 (uw k[i])) := (hp_cell h i).trans (uv_at k i hi)
theorem Wd.frozen (h : Wd w g T k) (i : Nat) : w.frozen? ⟨g, i, none⟩ = false := hp_frozen h i
theorem Wd.set (h : Wd w g T k) (i : Nat) (hi : i < n) (x : UInt32) : Wd (w.setCell ⟨g, i, none⟩ (.int .u32 (uw x))) g T (k.set i x) := by
  unfold Wd hp at *
  rw [heap_setCell_same w g i _ T _ h, uv_set k i hi x]
theorem Wd.below (h : Wd w g T k) (hb : Below w.heap.size w w') : Wd w' g T k := (hb.hp g h.lt).trans h
theorem Wd.alloc (h : Wd w g T k) (o : Obj) : Wd (w.alloc o) g T k := (hp_alloc_past o g h.lt).trans h
theorem Wd.drewN (h : Wd w g T k) (m : Nat) : Wd (w.drewN m) g T k := (hp_drewN m g).trans h
theorem Wd.far (h : Wd w g T k) (a : Addr) (hne : g ≠ a.block) (v : Value) : Wd (w.setCell a v) g T k := (hp_setCell_other a g v hne).trans h
end
/-- A world after some draws. -/
def Like (w W : World) : Prop := ∃ n, W = w.drewN n
theorem Like.cell {w W : World} (h : Like w W) (a : Addr) : W.cell? a = w.cell? a := by obtain ⟨n, rfl⟩ := h; simp
theorem Like.same {w W W' : World} (h : Like w W) (e : W = W') : Like w W' := e ▸ h
theorem Like.refl (w : World) : Like w w.drew := ⟨1, rfl⟩

theorem like_facts {wr : World} : ∀ u : Held (Like wr), ∀ a, u.w.cell? a = wr.cell? a := fun u a => u.h.cell a
@[go_sem] theorem setRow_drewN (w : World) (n k : Nat) (c : Array Value) : (w.drewN n).setRow k c = (w.setRow k c).drewN n := rfl
/-- The words moved by one place. -/
def shift (s : Vector UInt32 8) : Vector UInt32 8 := #v[s[0], s[0], s[1], s[2], s[3], s[4], s[5], s[6]]
theorem run_shift {P : Program} {T E : TypeId} (hu : P.underlying T = some (.slice E)) (hs : (P.info? E).map (·.size) = some 1) (ty A : TypeId) {w : World} {g : Nat} {s : Vector UInt32 8} (h : Wd w g A s) :
    ∃ w', (Builtin.copy_ #[T, T] ty #[.slice (some ⟨g, 1, none⟩) 7 7, .slice (some ⟨g, 0, none⟩) 7 8]).run P w = .ok (goInt 7) w' ∧ Wd w' g A (shift s) ∧ Chg (fun k => k = g) w w' := by
  have hr := run_copy_row (P := P) w T T ty E g 1 7 7 ⟨g, 0, none⟩ 7 8 (uv s) A [.int .u32 (uw s[0]), .int .u32 (uw s[1]), .int .u32 (uw s[2]), .int .u32 (uw s[3]), .int .u32 (uw s[4]), .int .u32 (uw s[5]), .int .u32 (uw s[6])] hu hs h rfl
    (fun j v hv => by
      have hadd : (⟨g, 0, none⟩ : Addr).add j = ⟨g, j, none⟩ := by unfold Addr.add; split <;> simp_all
      rw [hadd, hp_cell h]
      rcases j with _ | _ | _ | _ | _ | _ | _ | j
      all_goals first
      | (simp at hv; rw [uv_at _ _ (by omega)]; simpa using hv)
      | (simp at hv)) (by simp) (by simp [Value.oneCell'])
  refine ⟨_, hr, ?_, Chg.row w g _⟩
  have : ((uv s).toList.take 1 ++ [Value.int .u32 (uw s[0]), .int .u32 (uw s[1]), .int .u32 (uw s[2]), .int .u32 (uw s[3]), .int .u32 (uw s[4]), .int .u32 (uw s[5]), .int .u32 (uw s[6])] ++ (uv s).toList.drop (1 + [Value.int .u32 (uw s[0]), .int .u32 (uw s[1]), .int .u32 (uw s[2]), .int .u32 (uw s[3]), .int .u32 (uw s[4]), .int .u32 (uw s[5]), .int .u32 (uw s[6])].length)).toArray = uv (shift s) := by
    obtain ⟨⟨l⟩, hl⟩ := s
    match l, hl with
    | [a, b, c, d, e, f, g', h'], _ => simp [uv, shift]
  rw [this]
  exact hp_setRow_same g _ _ A _ h
/-! ### The compression -/
def bf (b : Vector UInt8 64) (j : Nat) : UInt8 := if h : j < 64 then b[j] else 0
theorem bf_at (b : Vector UInt8 64) (j : Nat) (h : j < 64) : (bv b)[j]? = some (.int .u8 ((bf b j).toNat : Int)) := by rw [bv_at b j h]; simp [bf, h]
def wd4 (b0 b1 b2 b3 : UInt8) : UInt32 := UInt32.ofNat (b0.toNat * 16777216 ||| b1.toNat * 65536 ||| b2.toNat * 256 ||| b3.toNat)
def sched (b : Nat → UInt8) (t : Nat) : UInt32 :=
  if h : t < 16 then wd4 (b (4 * t)) (b (4 * t + 1)) (b (4 * t + 2)) (b (4 * t + 3))
  else sg1 (sched b (t - 2)) + sched b (t - 7) + sg0 (sched b (t - 15)) + sched b (t - 16)
termination_by t
theorem sched_lo (b : Nat → UInt8) (t : Nat) (h : t < 16) : sched b t = wd4 (b (4 * t)) (b (4 * t + 1)) (b (4 * t + 2)) (b (4 * t + 3)) := by
  rw [sched, dif_pos h]
theorem sched_hi (b : Nat → UInt8) (t : Nat) (h : ¬ t < 16) : sched b t = sg1 (sched b (t - 2)) + sched b (t - 7) + sg0 (sched b (t - 15)) + sched b (t - 16) := by
  rw [sched, dif_neg h]
theorem or4 (b0 b1 b2 b3 : UInt8) : bits BinOp.or IntKind.u32 (bits BinOp.or IntKind.u32 (bits BinOp.or IntKind.u32 ((b0.toNat : Int) * 16777216) ((b1.toNat : Int) * 65536)) ((b2.toNat : Int) * 256)) (b3.toNat : Int) = uw (wd4 b0 b1 b2 b3) := by
  have h0 := b0.toNat_lt
  have h1 := b1.toNat_lt
  have h2 := b2.toNat_lt
  have h3 := b3.toNat_lt
  have e0 : (b0.toNat : Int) * 16777216 = ((b0.toNat * 16777216 : Nat) : Int) := by omega
  have e1 : (b1.toNat : Int) * 65536 = ((b1.toNat * 65536 : Nat) : Int) := by omega
  have e2 : (b2.toNat : Int) * 256 = ((b2.toNat * 256 : Nat) : Int) := by omega
  rw [e0, e1, e2, u32_or_nat _ _ (by omega) (by omega), u32_or_nat _ _ (or_lt32 (by omega) (by omega)) (by omega), u32_or_nat _ _ (or_lt32 (or_lt32 (by omega) (by omega)) (by omega)) (by omega)]
  unfold uw wd4
  rw [UInt32.toNat_ofNat_of_lt' (or_lt32 (or_lt32 (or_lt32 (by omega) (by omega)) (by omega)) (by omega))]
/-- The turns' constants. -/
def Ks : List UInt32 := [1116352408, 1899447441, 3049323471, 3921009573, 961987163, 1508970993, 2453635748, 2870763221, 3624381080, 310598401, 607225278, 1426881987, 1925078388, 2162078206, 2614888103, 3248222580, 3835390401, 4022224774, 264347078, 604807628, 770255983, 1249150122, 1555081692, 1996064986, 2554220882, 2821834349, 2952996808, 3210313671, 3336571891, 3584528711, 113926993, 338241895, 666307205, 773529912, 1294757372, 1396182291, 1695183700, 1986661051, 2177026350, 2456956037, 2730485921, 2820302411, 3259730800, 3345764771, 3516065817, 3600352804, 4094571909, 275423344, 430227734, 506948616, 659060556, 883997877, 958139571, 1322822218, 1537002063, 1747873779, 1955562222, 2024104815, 2227730452, 2361852424, 2428436474, 2756734187, 3204031479, 3329325298]
def Kc (t : Nat) : UInt32 := Ks.getD t 0
/-- One turn. -/
def rnd (k x : UInt32) (s : Vector UInt32 8) : Vector UInt32 8 :=
  let t1 := s[7] + Sg1 s[4] + (s[4] &&& s[5] ^^^ inv s[4] &&& s[6]) + k + x
  let t2 := Sg0 s[0] + (s[0] &&& s[1] ^^^ s[0] &&& s[2] ^^^ s[1] &&& s[2])
  #v[t1 + t2, s[0], s[1], s[2], s[3] + t1, s[4], s[5], s[6]]
theorem fin_rnd (k x v0 v1 v2 v4 v5 v6 v7 : UInt32) (s : Vector UInt32 8) (h0 : s[0] = v0) (h1 : s[1] = v1) (h2 : s[2] = v2) (h4 : s[4] = v4) (h5 : s[5] = v5) (h6 : s[6] = v6) (h7 : s[7] = v7) :
    ((shift s).set 4 ((shift s)[4] + (v7 + (rot v4 6 ^^^ rot v4 11 ^^^ rot v4 25) + (v4 &&& v5 ^^^ inv v4 &&& v6) + k + x))).set 0
      (v7 + (rot v4 6 ^^^ rot v4 11 ^^^ rot v4 25) + (v4 &&& v5 ^^^ inv v4 &&& v6) + k + x + ((rot v0 2 ^^^ rot v0 13 ^^^ rot v0 22) + (v0 &&& v1 ^^^ v0 &&& v2 ^^^ v1 &&& v2))) = rnd k x s := by
  subst h0 h1 h2 h4 h5 h6 h7
  obtain ⟨⟨l⟩, hl⟩ := s
  match l, hl with
  | [a, b, c, d, e, f, g', h'], _ => simp [shift, rnd, Sg0, Sg1]
def rounds (K : Nat → UInt32) (b : Nat → UInt8) (h : Vector UInt32 8) : Nat → Vector UInt32 8
  | 0 => h
  | t + 1 => rnd (K t) (sched b t) (rounds K b h t)
/-- The first i words are added. -/
def added (v h : Vector UInt32 8) (i : Nat) : Vector UInt32 8 := Vector.ofFn fun j => if j.val < i then v[j] + h[j] else v[j]
theorem added_0 (v h : Vector UInt32 8) : added v h 0 = v := by apply Vector.ext; intro i hi; simp [added]
theorem added_at (v h : Vector UInt32 8) (i : Nat) (hi : i < 8) : (added v h i)[i] = v[i] := by simp [added]
theorem added_set (v h : Vector UInt32 8) (i : Nat) (hi : i < 8) : (added v h i).set i (v[i] + h[i]) = added v h (i + 1) := by
  apply Vector.ext
  intro j hj
  by_cases hij : i = j
  · subst hij; simp [added]
  · rw [Vector.getElem_set_ne _ _ hij]
    simp only [added, Vector.getElem_ofFn]
    by_cases h1 : j < i
    · rw [if_pos h1, if_pos (by omega)]
    · rw [if_neg h1, if_neg (by omega)]
def block (K : Nat → UInt32) (h : Vector UInt32 8) (b : Nat → UInt8) : Vector UInt32 8 := added (rounds K b h 64) h 8
end Go.Proofs.YtjlhicopinhiaaaDoor.Sv
