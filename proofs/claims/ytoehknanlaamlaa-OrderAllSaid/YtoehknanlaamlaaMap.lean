/- A map whose keys are ints, as a list of keys and values, each key once: what a look-up, a store at a new key, a delete and len come to. -/
import Derived.Test.YtoehknanlaamlaaMem
import Derived.Maps.OwnSet
namespace Go.Ost
open Go.RowKit

/-- Block r is a map of these entries. -/
def MapI (w : World) (r : Nat) (es : List (Int × Value)) : Prop :=
  ∃ arr clock, w.heap[r]? = some (.map arr clock) ∧ arr.toList.map (fun e => (e.key, e.val)) = es.map fun p => (Value.int .i64 p.1, p.2)

theorem MapI.fr {w w' : World} {r : Nat} {es : List (Int × Value)} {S : Nat → Prop} (h : MapI w r es) (hf : Fr S w w') (hr : ¬ S r) : MapI w' r es := by
  obtain ⟨arr, clock, h1, h2⟩ := h
  exact ⟨arr, clock, (hf.block r (lt_of_block h1) hr).trans h1, h2⟩
theorem MapI.lt {w : World} {r : Nat} {es : List (Int × Value)} (h : MapI w r es) : r < w.heap.size := by
  obtain ⟨arr, clock, h1, _⟩ := h
  exact lt_of_block h1
theorem MapI.new (w : World) : MapI (w.alloc (.map #[] 0)) w.heap.size [] := ⟨#[], 0, heap_alloc_new w _, rfl⟩
theorem MapI.drewN {w : World} {r : Nat} {es : List (Int × Value)} (h : MapI w r es) (k : Nat) : MapI (w.drewN k) r es := h

/-- The first entry at this key. -/
def at? (k : Int) (es : List (Int × Value)) : Option Value := (es.find? (fun p => p.1 == k)).map (·.2)

theorem findNow_at (k : Int) : ∀ (l : List MapEntry) (es : List (Int × Value)) (i : Nat), l.map (fun e => (e.key, e.val)) = es.map (fun p => (Value.int .i64 p.1, p.2)) →
    Instr.findNow (.int .i64) (.int .i64 k) l i = some ((es.findIdx? (fun p => p.1 == k)).bind fun j => (at? k es).map fun v => (i + j, v))
  | [], es, i, h => by
    have : es = [] := by cases es <;> simp_all
    subst this
    simp [Instr.findNow]
  | e :: l, es, i, h => by
    match es, h with
    | (k', v) :: es, h =>
      simp only [List.map_cons, List.cons.injEq, Prod.mk.injEq] at h
      obtain ⟨⟨hk, hv⟩, hl⟩ := h
      have ih := findNow_at k l es (i + 1) hl
      unfold Instr.findNow
      rw [hk]
      by_cases e1 : k = k'
      · subst e1
        simp [Instr.sameNow, at?, hv, List.findIdx?_cons]
      · have e2 : (k' == k) = false := by simp; exact fun h => e1 h.symm
        have e3 : (k == k') = false := by simp; exact e1
        simp only [Instr.sameNow, if_true, e3, ih, List.findIdx?_cons, e2, at?, List.find?_cons]
        cases es.findIdx? (fun p => p.1 == k) with
        | none => simp
        | some j => simp [show i + 1 + j = i + (j + 1) by omega]

theorem at_some {k : Int} {es : List (Int × Value)} {v : Value} (h : at? k es = some v) : ∃ j, es.findIdx? (fun p => p.1 == k) = some j ∧ es.eraseP (fun p => p.1 == k) = es.eraseIdx j ∧ j < es.length := by
  unfold at? at h
  rw [Option.map_eq_some_iff] at h
  obtain ⟨p, hp, rfl⟩ := h
  have hm := List.mem_of_find?_eq_some hp
  have hk := List.find?_some hp
  cases hj : es.findIdx? (fun p => p.1 == k) with
  | none =>
    rw [List.findIdx?_eq_none_iff] at hj
    have := hj p hm
    simp_all
  | some j =>
    refine ⟨j, rfl, ?_, ?_⟩
    · rw [List.eraseP_eq_eraseIdx, hj]
    · exact (List.findIdx?_eq_some_iff_findIdx_eq.1 hj).1
theorem at_none {k : Int} {es : List (Int × Value)} (h : at? k es = none) : es.findIdx? (fun p => p.1 == k) = none := by
  unfold at? at h
  rw [Option.map_eq_none_iff, List.find?_eq_none] at h
  rw [List.findIdx?_eq_none_iff]
  intro p hp
  simpa using h p hp

theorem map_eraseIdx {α β : Type} (f : α → β) : ∀ (l : List α) (j : Nat), (l.eraseIdx j).map f = (l.map f).eraseIdx j
  | [], _ => by simp
  | _ :: _, 0 => by simp
  | _ :: l, j + 1 => by simp [map_eraseIdx f l j]

section
variable {P : Program} {w : World} {t k e r : TypeId} {es : List (Int × Value)}
theorem run_check (n : Nat) (b : Bool) (x : Int) (hk : P.underlying k = some (.int .i64)) : (Instr.checkKey b (n + 1) k (.int .i64 x)).run P w = .ok () w := by
  simp [Instr.checkKey, run_underlying hk, Sem.run_pure]

theorem run_find (x : Int) (hk : P.underlying k = some (.int .i64)) {l : List MapEntry} (hl : l.map (fun e => (e.key, e.val)) = es.map (fun p => (Value.int .i64 p.1, p.2))) :
    (Instr.findKey k (.int .i64 x) l).run P w = .ok ((es.findIdx? (fun p => p.1 == x)).bind fun j => (at? x es).map fun v => (j, v)) w := by
  have h := findNow_at x l es 0 hl
  simp only [Nat.zero_add] at h
  simp [Instr.findKey, run_underlying hk, h, Sem.run_pure]

theorem MapI.look (h : MapI w r es) (x : Int) (ht : P.underlying t = some (.map k e)) (hk : P.underlying k = some (.int .i64)) {v : Value} (hv : at? x es = some v) :
    (Instr.lookup t (.map (some r)) (.int .i64 x) true).run P w = .ok (.tuple #[v, .bool true]) w := by
  obtain ⟨arr, clock, h1, h2⟩ := h
  obtain ⟨j, hj, _, _⟩ := at_some hv
  simp [Instr.lookup, run_underlying ht, getObj, Sem.run, h1, run_check, hk, run_find x hk h2, hj, hv, Sem.run_pure]

theorem MapI.look_none (h : MapI w r es) (x : Int) (ht : P.underlying t = some (.map k e)) (hk : P.underlying k = some (.int .i64)) {z : Value} (hz : (zeroValue e).run P w = .ok z w) (hv : at? x es = none) :
    (Instr.lookup t (.map (some r)) (.int .i64 x) true).run P w = .ok (.tuple #[z, .bool false]) w := by
  obtain ⟨arr, clock, h1, h2⟩ := h
  simp [Instr.lookup, run_underlying ht, getObj, Sem.run, h1, run_check, hk, run_find x hk h2, at_none hv, hz]

/-- The world with another map in block r. -/
def World.setMap (w : World) (r : Nat) (o : Obj) : World := { w with heap := w.heap.setIfInBounds r o }
theorem setMap_fr (w : World) (r : Nat) (o : Obj) : Fr (· = r) w (World.setMap w r o) :=
  ⟨rfl, rfl, rfl, by simp [World.setMap], fun k _ hk => by simp only [World.setMap]; rw [Array.getElem?_setIfInBounds]; rw [if_neg (fun h => hk h.symm)]⟩

/-- A store at a key that is not there. -/
theorem MapI.put (h : MapI w r es) (x : Int) (v : Value) (ht : P.underlying t = some (.map k e)) (hk : P.underlying k = some (.int .i64)) (hv : at? x es = none) :
    ∃ w', (Instr.mapUpdate t (.map (some r)) (.int .i64 x) v).run P w = .ok () w' ∧ MapI w' r (es ++ [(x, v)]) ∧ Fr (· = r) w w' := by
  obtain ⟨arr, clock, h1, h2⟩ := h
  have hlt := lt_of_block h1
  refine ⟨World.setMap w r (.map (arr.push { key := .int .i64 x, val := v, born := clock }) (clock + 1)), ?_, ⟨arr.push { key := .int .i64 x, val := v, born := clock }, clock + 1, ?_, ?_⟩, setMap_fr _ _ _⟩
  · simp [Instr.mapUpdate, run_underlying ht, getObj, setObj, Sem.run, h1, run_check, hk, run_find x hk h2, at_none hv, World.setMap]
  · simp [World.setMap, hlt]
  · simp [h2]

/-- A key that is there is struck. -/
theorem MapI.del (h : MapI w r es) (x : Int) (ht : P.underlying t = some (.map k e)) (hk : P.underlying k = some (.int .i64)) {v : Value} (hv : at? x es = some v) :
    ∃ w', (∀ ty, (Builtin.delete_ #[t, k] ty #[.map (some r), .int .i64 x]).run P w = .ok (.tuple #[]) w') ∧ MapI w' r (es.eraseP (fun p => p.1 == x)) ∧ Fr (· = r) w w' := by
  obtain ⟨arr, clock, h1, h2⟩ := h
  have hlt := lt_of_block h1
  obtain ⟨j, hj, he, hjl⟩ := at_some hv
  refine ⟨World.setMap w r (.map (arr.eraseIdxIfInBounds j) clock), ?_, ⟨arr.eraseIdxIfInBounds j, clock, ?_, ?_⟩, setMap_fr _ _ _⟩
  · intro ty
    simp [Builtin.delete_, run_underlying ht, getObj, setObj, Sem.run, h1, run_check, hk, run_find x hk h2, hj, hv, World.setMap]
  · simp [World.setMap, hlt]
  · have hl : arr.size = es.length := by have := congrArg List.length h2; simpa using this
    rw [he]
    have e1 : (arr.eraseIdxIfInBounds j).toList = arr.toList.eraseIdx j := by simp
    rw [e1, map_eraseIdx, h2, ← map_eraseIdx]

theorem MapI.len (h : MapI w r es) (ht : P.underlying t = some (.map k e)) (ty : TypeId) :
    (Builtin.len_ #[t] ty #[.map (some r)]).run P w = .ok (.int .i64 es.length) w := by
  obtain ⟨arr, clock, h1, h2⟩ := h
  have hl : arr.size = es.length := by have := congrArg List.length h2; simpa using this
  simp [Builtin.len_, run_underlying ht, getObj, Sem.run, h1, Sem.run_pure, goInt, hl]
end
end Go.Ost
