/- The machine of chapter 17 in plain Lean: a window as a list of the open numbers, each done (with its bytes) or not; and what it means that a map holds the done ones. -/
import Derived.Test.YtoehknanlaamlaaMap
namespace Go.Ost
open Go.RowKit

abbrev Bs := List UInt8

/-- A window: its maximum, its least open number, the open numbers from that on. -/
structure OW where
  most : Nat
  least : Nat
  L : List (Option Bs)

/-- What goes: the done ones at the head; and what stays. -/
def rel : List (Option Bs) → List Bs
  | some b :: t => b :: rel t
  | _ => []
def rest : List (Option Bs) → List (Option Bs)
  | some _ :: t => rest t
  | l => l

theorem rel_rest : ∀ l : List (Option Bs), (rel l).map some ++ rest l = l
  | some b :: t => by simp [rel, rest, rel_rest t]
  | none :: t => rfl
  | [] => rfl
theorem rel_len (l : List (Option Bs)) : (rel l).length + (rest l).length = l.length := by
  have h := congrArg List.length (rel_rest l)
  simpa using h

def OW.opened (s : OW) : OW := { s with L := s.L ++ [none] }
def OW.put (s : OW) (i : Nat) (b : Bs) : List (Option Bs) := s.L.set i (some b)
def OW.released (s : OW) (i : Nat) (b : Bs) : OW := { s with least := s.least + (rel (s.put i b)).length, L := rest (s.put i b) }

/-- What Open answers, and what it leaves. -/
def OW.open_ (s : OW) : (Int × Int) × OW := if s.most ≤ s.L.length then ((0, 8), s) else ((s.least + s.L.length, 0), s.opened)
/-- What Done answers, and what it leaves. -/
def OW.done (s : OW) (n : Int) (b : Bs) : (List Bs × Int) × OW :=
  if n < s.least ∨ (s.least + s.L.length : Int) ≤ n then (([], 6), s)
  else match s.L[(n - s.least).toNat]? with
    | some none => ((rel (s.put (n - s.least).toNat b), 0), s.released (n - s.least).toNat b)
    | _ => (([], 7), s)
def OW.first (s : OW) : Int := if s.L = [] then 0 else s.least
def OW.ready (s : OW) : Nat := s.L.countP (·.isSome)

theorem OW.done_at {s : OW} {n : Int} {i : Nat} (hn : n = s.least + i) (hi : s.L[i]? = some none) (b : Bs) : s.done n b = ((rel (s.put i b), 0), s.released i b) := by
  have hl : i < s.L.length := (List.getElem?_eq_some_iff.1 hi).1
  have h1 : ¬ (n < s.least ∨ (s.least + s.L.length : Int) ≤ n) := by omega
  have h2 : (n - s.least).toNat = i := by omega
  unfold OW.done
  rw [if_neg h1, h2, hi]

/-- The entries hold just the done ones, each with its bytes. -/
structure Ents (w : World) (O : Nat → Prop) (f : Nat) (L : List (Option Bs)) (es : List (Int × Value)) : Prop where
  nodup : (es.map (·.1)).Nodup
  sound : ∀ k v, (k, v) ∈ es → ∃ (i : Nat) (l : Bs), k = f + i ∧ L[i]? = some (some l) ∧ BVal w O v l
  full : ∀ (i : Nat) (l : Bs), L[i]? = some (some l) → ∃ v, ((f + i : Nat), v) ∈ es.map fun p => (p.1.toNat, p.2)
  count : es.length = L.countP (·.isSome)

section
variable {w w' : World} {O O' S : Nat → Prop} {f : Nat} {L : List (Option Bs)} {es : List (Int × Value)}

theorem Ents.fr (h : Ents w O f L es) (hf : Fr S w w') (hd : ∀ b, b < w.heap.size → O b → ¬ S b) : Ents w' O f L es :=
  ⟨h.nodup, fun k v hm => by obtain ⟨i, l, h1, h2, h3⟩ := h.sound k v hm; exact ⟨i, l, h1, h2, h3.fr hf hd⟩, h.full, h.count⟩
theorem Ents.mono (h : Ents w O f L es) (hO : ∀ b, b < w.heap.size → O b → O' b) : Ents w O' f L es :=
  ⟨h.nodup, fun k v hm => by obtain ⟨i, l, h1, h2, h3⟩ := h.sound k v hm; exact ⟨i, l, h1, h2, h3.mono hO⟩, h.full, h.count⟩
theorem Ents.empty (w : World) (O : Nat → Prop) (f : Nat) : Ents w O f [] [] := ⟨by simp, by simp, by simp, by simp⟩

theorem Ents.in_ (h : Ents w O f L es) {i : Nat} {l : Bs} (hl : L[i]? = some (some l)) : ∃ v, ((f + i : Int), v) ∈ es := by
  obtain ⟨v, hv⟩ := h.full i l hl
  obtain ⟨⟨k, v'⟩, hm, he⟩ := List.mem_map.1 hv
  obtain ⟨j, l', hk, _, _⟩ := h.sound k v' hm
  simp only [Prod.mk.injEq] at he
  have : k = (f + i : Int) := by omega
  subst this
  exact ⟨v', hm⟩

theorem at_mem {k : Int} {v : Value} {es : List (Int × Value)} (h : at? k es = some v) : (k, v) ∈ es := by
  unfold at? at h
  rw [Option.map_eq_some_iff] at h
  obtain ⟨p, hp, rfl⟩ := h
  have hk := List.find?_some hp
  have hm := List.mem_of_find?_eq_some hp
  have : p.1 = k := by simpa using hk
  rw [← this]
  exact hm
theorem at_of_mem {k : Int} {v : Value} {es : List (Int × Value)} (h : (k, v) ∈ es) : ∃ v', at? k es = some v' := by
  cases ha : at? k es with
  | some v' => exact ⟨v', rfl⟩
  | none =>
    unfold at? at ha
    rw [Option.map_eq_none_iff, List.find?_eq_none] at ha
    have := ha _ h
    simp at this

/-- What the map tells at number f + i. -/
theorem Ents.at_some (h : Ents w O f L es) {i : Nat} {l : Bs} (hl : L[i]? = some (some l)) : ∃ v, at? (f + i) es = some v ∧ BVal w O v l := by
  obtain ⟨v0, hm⟩ := h.in_ hl
  obtain ⟨v, hv⟩ := at_of_mem hm
  obtain ⟨j, l', hk, hj, hb⟩ := h.sound _ _ (at_mem hv)
  have : j = i := by omega
  subst this
  rw [hl] at hj
  injection hj with hj
  injection hj with hj
  subst hj
  exact ⟨v, hv, hb⟩
theorem Ents.at_none (h : Ents w O f L es) {k : Int} (hl : ∀ (i : Nat) (l : Bs), k = f + i → L[i]? ≠ some (some l)) : at? k es = none := by
  cases ha : at? k es with
  | none => rfl
  | some v =>
    obtain ⟨i, l, hk, hi, _⟩ := h.sound _ _ (at_mem ha)
    exact absurd hi (hl i l hk)

theorem Ents.open_ (h : Ents w O f L es) : Ents w O f (L ++ [none]) es :=
  ⟨h.nodup, fun k v hm => by
      obtain ⟨i, l, h1, h2, h3⟩ := h.sound k v hm
      exact ⟨i, l, h1, by rw [List.getElem?_append_left (List.getElem?_eq_some_iff.1 h2).1, h2], h3⟩,
    fun i l hl => h.full i l (by
      rcases Nat.lt_or_ge i L.length with hi | hi
      · rwa [List.getElem?_append_left hi] at hl
      · rw [List.getElem?_append_right hi] at hl
        cases hj : i - L.length with
        | zero => rw [hj] at hl; simp at hl
        | succ j => rw [hj] at hl; simp at hl),
    by simp [h.count]⟩

theorem countP_set : ∀ (L : List (Option Bs)) (i : Nat) (b : Bs), L[i]? = some none → (L.set i (some b)).countP (·.isSome) = L.countP (·.isSome) + 1
  | [], _, _, h => by simp at h
  | x :: L, 0, b, h => by simp at h; subst h; simp
  | x :: L, i + 1, b, h => by
    have ih := countP_set L i b (by simpa using h)
    simp only [List.set_cons_succ, List.countP_cons, ih]
    omega

/-- A number becomes done. -/
theorem Ents.put (h : Ents w O f L es) {i : Nat} {b : Bs} {v : Value} (hi : L[i]? = some none) (hb : BVal w O v b) : Ents w O f (L.set i (some b)) (es ++ [((f + i : Int), v)]) := by
  have hil : i < L.length := (List.getElem?_eq_some_iff.1 hi).1
  refine ⟨?_, ?_, ?_, ?_⟩
  · rw [List.map_append, List.nodup_append]
    refine ⟨h.nodup, by simp, ?_⟩
    intro a ha b' hb' he
    simp at hb'
    subst hb'
    subst he
    obtain ⟨⟨k, v'⟩, hm, hk⟩ := List.mem_map.1 ha
    obtain ⟨j, l, h1, h2, _⟩ := h.sound _ _ hm
    have : j = i := by simp at hk; omega
    subst this
    rw [hi] at h2
    cases h2
  · intro k v' hm
    rcases List.mem_append.1 hm with hm | hm
    · obtain ⟨j, l, h1, h2, h3⟩ := h.sound k v' hm
      refine ⟨j, l, h1, ?_, h3⟩
      rw [List.getElem?_set_ne ?_, h2]
      rintro rfl
      rw [hi] at h2
      cases h2
    · simp at hm
      obtain ⟨rfl, rfl⟩ := hm
      exact ⟨i, b, rfl, by simp [hil], hb⟩
  · intro j l hl
    by_cases hj : j = i
    · subst hj
      exact ⟨v, List.mem_map.2 ⟨((f + j : Int), v), by simp, by simp; omega⟩⟩
    · rw [List.getElem?_set_ne (fun e => hj e.symm)] at hl
      obtain ⟨v', hv⟩ := h.full j l hl
      exact ⟨v', by rw [List.map_append]; exact List.mem_append_left _ hv⟩
  · rw [countP_set L i b hi, List.length_append, h.count]
    rfl

/-- The head goes. -/
theorem Ents.pop {l : Bs} {t : List (Option Bs)} (h : Ents w O f (some l :: t) es) : Ents w O (f + 1) t (es.eraseP fun p => p.1 == (f : Int)) := by
  obtain ⟨v, hv, _⟩ := h.at_some (i := 0) (l := l) rfl
  have hm := at_mem hv
  have hm' : ((f : Int), v) ∈ es := by simpa using hm
  have key : ∀ k v', (k, v') ∈ (es.eraseP fun p => p.1 == (f : Int)) → k ≠ (f : Int) := by
    intro k v' hk he
    subst he
    have : ∀ (l : List (Int × Value)), (l.map (·.1)).Nodup → ∀ q, q ∈ l.eraseP (fun p => p.1 == (f : Int)) → q.1 ≠ (f : Int) := by
      intro l
      induction l with
      | nil => intro _ q hq; simp at hq
      | cons x l ih =>
        intro hn q hq
        rw [List.map_cons, List.nodup_cons] at hn
        rw [List.eraseP_cons] at hq
        cases hx : (x.1 == (f : Int)) with
        | true =>
          rw [hx, cond_true] at hq
          have hx' : x.1 = (f : Int) := by simpa using hx
          intro he
          exact hn.1 (by rw [hx', ← he]; exact List.mem_map.2 ⟨q, hq, rfl⟩)
        | false =>
          rw [hx, cond_false] at hq
          rcases List.mem_cons.1 hq with rfl | hq
          · intro he; exact absurd he (by simpa using hx)
          · exact ih hn.2 q hq
    exact this es h.nodup _ hk rfl
  refine ⟨(h.nodup).sublist ((List.eraseP_sublist).map _), ?_, ?_, ?_⟩
  · intro k v' hk
    obtain ⟨j, l', h1, h2, h3⟩ := h.sound k v' (List.mem_of_mem_eraseP hk)
    have hne := key k v' hk
    cases j with
    | zero => exact absurd (by simpa using h1) hne
    | succ j => exact ⟨j, l', by omega, by simpa using h2, h3⟩
  · intro j l' hl
    obtain ⟨v', hv'⟩ := h.in_ (i := j + 1) (l := l') (by simpa using hl)
    refine ⟨v', List.mem_map.2 ⟨((f + (j + 1 : Nat) : Int), v'), ?_, by simp; omega⟩⟩
    exact (List.mem_eraseP_of_neg (by simp; omega)).2 hv'
  · have h0 := h.count
    rw [List.length_eraseP_of_mem hm' (by simp)]
    rw [h0]
    simp
end
end Go.Ost
