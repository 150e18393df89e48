/- Maps whose keys are whole numbers or strings: what an insert, a look-up, a delete does, the entries a list. No program in sight; no conditions. -/
import Derived.Test.YthiibkcaodaekaaPa
import Derived.RangeFuncRecord
namespace Go.Proofs.Ythiibkcaodaekaa.Pm
open Go Go.RowKit Go.Instr Go.Proofs.Ythiibkcaodaekaa.Pa

/-- A plain key's kind. -/
def plainKd : TypeDesc → Bool
  | .int _ | .string => true
  | _ => false
section
variable {P : Program} {w : World} {T K E : TypeId} {kd : TypeDesc}
theorem run_checkKey_plainKd (hK : P.underlying K = some kd) (hp : plainKd kd = true) (em : Bool) (n : Nat) (v : Value) : (checkKey em (n + 1) K v).run P w = .ok () w := by
  unfold checkKey
  simp only [Sem.run_bind, run_underlying hK, Result.andThen_ok]
  cases kd <;> simp [plainKd] at hp <;> cases v <;> rfl
theorem run_findKey_now (hK : P.underlying K = some kd) {key : Value} {l : List MapEntry} {res : Option (Nat × Value)} (hf : findNow kd key l 0 = some res) : (findKey K key l).run P w = .ok res w := by
  simp [findKey, Sem.run_bind, run_underlying hK, hf]
variable {r : Nat} {es : Array MapEntry} {clock : Nat}
theorem run_getObj_hp (hm : hp w r = some (.map es clock)) : (getObj r).run P w = .ok (.map es clock) w := by
  unfold hp at hm
  simp [getObj, Sem.run, hm]
theorem run_setObj_hp (hm : hp w r = some (.map es clock)) (o' : Obj) : (setObj r o').run P w = .ok () (w.putObj r o') := by
  unfold hp at hm
  simp [setObj, Sem.run, hm, World.putObj]
theorem run_insert_new (hT : P.underlying T = some (.map K E)) (hK : P.underlying K = some kd) (hk : plainKd kd = true) (hm : hp w r = some (.map es clock)) (key val : Value) (hf : findNow kd key es.toList 0 = some none) :
    (mapUpdate T (.map (some r)) key val).run P w = .ok () (w.putObj r (.map (es.push ⟨key, val, clock⟩) (clock + 1))) := by
  simp only [mapUpdate, Sem.run_bind, run_underlying hT, Result.andThen_ok, run_getObj_hp hm, run_checkKey_plainKd hK hk, run_findKey_now hK hf, run_setObj_hp hm]
theorem run_insert_over (hT : P.underlying T = some (.map K E)) (hK : P.underlying K = some kd) (hk : plainKd kd = true) (hm : hp w r = some (.map es clock)) (key val v0 : Value) (i : Nat) (e0 : MapEntry) (hf : findNow kd key es.toList 0 = some (some (i, v0)))
    (he : es[i]? = some e0) (hek : sameBits 10000 e0.key key = true) :
    (mapUpdate T (.map (some r)) key val).run P w = .ok () (w.putObj r (.map (es.modify i fun e => { e with key, val }) clock)) := by
  have hs : (keyThatStays e0.key key).run P w = .ok key w := by simp [keyThatStays, hek]
  simp only [mapUpdate, Sem.run_bind, run_underlying hT, Result.andThen_ok, run_getObj_hp hm, run_checkKey_plainKd hK hk, run_findKey_now hK hf, he, Option.map_some, Option.getD_some, hs, run_setObj_hp hm]
theorem run_lookup_found (hT : P.underlying T = some (.map K E)) (hK : P.underlying K = some kd) (hk : plainKd kd = true) (hm : hp w r = some (.map es clock)) (key v0 : Value) (i : Nat) (ok : Bool) (hf : findNow kd key es.toList 0 = some (some (i, v0))) :
    (lookup T (.map (some r)) key ok).run P w = .ok (if ok then .tuple #[v0, .bool true] else v0) w := by
  simp only [lookup, Sem.run_bind, run_underlying hT, Result.andThen_ok, run_getObj_hp hm, Sem.run_pure, run_checkKey_plainKd hK hk, run_findKey_now hK hf]
theorem run_lookup_none (hT : P.underlying T = some (.map K E)) (hK : P.underlying K = some kd) (hk : plainKd kd = true) (hm : hp w r = some (.map es clock)) (key z : Value) (ok : Bool) (hf : findNow kd key es.toList 0 = some none)
    (hz : (zeroValue E).run P w = .ok z w) : (lookup T (.map (some r)) key ok).run P w = .ok (if ok then .tuple #[z, .bool false] else z) w := by
  simp only [lookup, Sem.run_bind, run_underlying hT, Result.andThen_ok, run_getObj_hp hm, Sem.run_pure, run_checkKey_plainKd hK hk, run_findKey_now hK hf, hz]
end
@[go_sem] theorem putObj_alloc_at {w : World} (o o' : Obj) (n : Nat) (hn : n = w.heap.size) : (w.alloc o).putObj n o' = w.alloc o' := by
  subst hn
  unfold World.putObj World.alloc
  congr 1
  apply Array.ext_getElem?
  intro i
  simp only [Array.getElem?_setIfInBounds, Array.getElem?_push, Array.size_push]
  by_cases h : i = w.heap.size
  · subst h; simp
  · simp [h, Ne.symm h]
@[go_sem] theorem hp_putObj_same {w : World} (o : Obj) (n : Nat) (h : n < w.heap.size) : hp (w.putObj n o) n = some o := World.putObj_heap_same h
@[go_sem] theorem hp_putObj_other {w : World} (o : Obj) (n k : Nat) (h : k ≠ n) : hp (w.putObj n o) k = hp w k := World.putObj_heap_other h
end Go.Proofs.Ythiibkcaodaekaa.Pm
