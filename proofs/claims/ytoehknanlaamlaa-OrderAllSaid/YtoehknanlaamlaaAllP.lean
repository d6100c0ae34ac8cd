/- OrderAll's plain part: which numbers are open, which done, what goes at each step; no Go in sight. -/
import Derived.Test.YtoehknanlaamlaaOrdM
namespace Go.Ost
open Go.RowKit

/-- The byte of a number. -/
def nb (v : Nat) : Bs := [UInt8.ofNat v]

/-- The numbers from g + 1 on, m of them: open and not done are those of left. -/
def Fl (left : List Nat) (g m : Nat) : List (Option Bs) := (List.range' (g + 1) m).map fun v => if v ∈ left then none else some (nb v)

theorem Fl_len (left : List Nat) (g m : Nat) : (Fl left g m).length = m := by simp [Fl]
theorem Fl_cons (left : List Nat) (g m : Nat) : Fl left g (m + 1) = (if g + 1 ∈ left then none else some (nb (g + 1))) :: Fl left (g + 1) m := by
  simp [Fl, List.range'_succ]

theorem Fl_rel (left : List Nat) : ∀ (m g : Nat), ∃ r, r ≤ m ∧ rel (Fl left g m) = (List.range' (g + 1) r).map nb ∧ rest (Fl left g m) = Fl left (g + r) (m - r) ∧ (∀ v, g < v → v ≤ g + r → v ∉ left) ∧ (m - r = 0 ∨ (g + r + 1) ∈ left)
  | 0, g => ⟨0, Nat.le_refl _, rfl, rfl, fun v h1 h2 => by omega, .inl rfl⟩
  | m + 1, g => by
    rw [Fl_cons]
    by_cases h : g + 1 ∈ left
    · refine ⟨0, by omega, ?_, ?_, fun v h1 h2 => by omega, .inr (by simpa using h)⟩
      · rw [if_pos h]; rfl
      · rw [if_pos h, Nat.add_zero, Nat.sub_zero, Fl_cons, if_pos h]; rfl
    · obtain ⟨r, h1, h2, h3, h4, h5⟩ := Fl_rel left m (g + 1)
      refine ⟨r + 1, by omega, ?_, ?_, fun v hv1 hv2 => ?_, ?_⟩
      · rw [if_neg h, rel, h2, List.range'_succ]; rfl
      · rw [if_neg h, rest, h3]; congr 1 <;> omega
      · by_cases e : v = g + 1
        · rw [e]; exact h
        · exact h4 v (by omega) (by omega)
      · rcases h5 with h5 | h5
        · exact .inl (by omega)
        · exact .inr (by rw [show g + (r + 1) + 1 = g + 1 + r + 1 by omega]; exact h5)

theorem mem_eraseIdx_lt : ∀ (l : List Nat) (k : Nat), l.Pairwise (· < ·) → (hk : k < l.length) → ∀ u, u ∈ l.eraseIdx k ↔ u ∈ l ∧ u ≠ l[k]
  | x :: l, 0, hp, _, u => by
    have h1 := (List.pairwise_cons.1 hp).1
    simp only [List.eraseIdx_zero, List.tail_cons, List.getElem_cons_zero, List.mem_cons]
    refine ⟨fun h => ⟨.inr h, fun e => by have := h1 u h; omega⟩, fun ⟨h, hne⟩ => h.resolve_left hne⟩
  | x :: l, k + 1, hp, hk, u => by
    have hk' : k < l.length := by simpa using hk
    have ih := mem_eraseIdx_lt l k (List.pairwise_cons.1 hp).2 hk' u
    have h1 := (List.pairwise_cons.1 hp).1 _ (List.getElem_mem hk')
    simp only [List.eraseIdx_cons_succ, List.mem_cons, List.getElem_cons_succ, ih]
    refine ⟨fun h => ?_, fun ⟨h, hne⟩ => ?_⟩
    · rcases h with rfl | ⟨h2, h3⟩
      · exact ⟨.inl rfl, by omega⟩
      · exact ⟨.inr h2, h3⟩
    · rcases h with h | h
      · exact .inl h
      · exact .inr ⟨h, hne⟩

theorem Fl_set {left : List Nat} {g m k : Nat} (hp : left.Pairwise (· < ·)) (hk : k < left.length) {i : Nat} (hi : left[k] = g + 1 + i) (him : i < m) :
    (Fl left g m)[i]? = some none ∧ (Fl left g m).set i (some (nb (left[k]))) = Fl (left.eraseIdx k) g m := by
  constructor
  · simp only [Fl, List.getElem?_map]
    rw [List.getElem?_range' him]
    simp only [Option.map_some]
    rw [if_pos (by rw [Nat.one_mul, ← hi]; exact List.getElem_mem hk)]
  · apply List.ext_getElem?
    intro j
    by_cases hj : j = i
    · subst hj
      rw [List.getElem?_set_self (by rw [Fl_len]; exact him)]
      simp only [Fl, List.getElem?_map]
      rw [List.getElem?_range' him]
      simp only [Option.map_some]
      rw [if_neg (by rw [mem_eraseIdx_lt left k hp hk]; rintro ⟨_, h⟩; exact h (by rw [hi]; omega)), hi, Nat.one_mul]
    · rw [List.getElem?_set_ne (fun e => hj e.symm)]
      rcases Nat.lt_or_ge j m with hjm | hjm
      · simp only [Fl, List.getElem?_map]
        rw [List.getElem?_range' hjm]
        simp only [Option.map_some, mem_eraseIdx_lt left k hp hk]
        have hne : g + 1 + 1 * j ≠ left[k] := by rw [hi]; omega
        by_cases hm : g + 1 + 1 * j ∈ left
        · rw [if_pos hm, if_pos ⟨hm, hne⟩]
        · rw [if_neg hm, if_neg (fun h => hm h.1)]
      · rw [List.getElem?_eq_none (by rw [Fl_len]; exact hjm), List.getElem?_eq_none (by rw [Fl_len]; exact hjm)]

theorem count_rel : ∀ l : List (Option Bs), (rel l).length + (rest l).countP (·.isSome) = l.countP (·.isSome)
  | some b :: t => by simp [rel, rest, ← count_rel t]; omega
  | none :: t => by simp [rel, rest]
  | [] => rfl

/-- The window when g have gone and left are not done. -/
def Sl (M : Nat) (left : List Nat) (g : Nat) : OW := ⟨M, g + 1, Fl left g (M - g)⟩

/-- What holds at each step. -/
structure OGood (M : Nat) (left : List Nat) (g : Nat) : Prop where
  sorted : left.Pairwise (· < ·)
  within : ∀ v ∈ left, g < v ∧ v ≤ M
  head : M - g = 0 ∨ (g + 1) ∈ left
  le : g ≤ M
  ready : (Sl M left g).ready + left.length + g = M

theorem OGood.step {M g k : Nat} {left : List Nat} (h : OGood M left g) (hk : k < left.length) :
    ∃ r, (Sl M left g).done (left[k] : Nat) (nb (left[k])) = (((List.range' (g + 1) r).map nb, 0), Sl M (left.eraseIdx k) (g + r)) ∧ OGood M (left.eraseIdx k) (g + r) := by
  have hw := h.within _ (List.getElem_mem hk)
  obtain ⟨i, hi⟩ : ∃ i, left[k] = g + 1 + i := ⟨left[k] - g - 1, by omega⟩
  obtain ⟨h1, h2⟩ := Fl_set (m := M - g) h.sorted hk hi (by omega)
  obtain ⟨r, r1, r2, r3, r4, r5⟩ := Fl_rel (left.eraseIdx k) (M - g) g
  have hle := h.le
  refine ⟨r, ?_, ⟨h.sorted.sublist (List.eraseIdx_sublist ..), fun v hv => ?_, ?_, by omega, ?_⟩⟩
  · rw [OW.done_at (i := i) (by simp only [Sl]; omega) (by simpa [Sl] using h1)]
    have e1 : (Sl M left g).put i (nb left[k]) = Fl (left.eraseIdx k) g (M - g) := by simpa [Sl, OW.put] using h2
    simp only [OW.released, e1, r2, r3]
    simp only [Sl, List.length_map, List.length_range']
    rw [show M - g - r = M - (g + r) by omega, show g + 1 + r = g + r + 1 by omega]
  · have hv' := (mem_eraseIdx_lt left k h.sorted hk v).1 hv
    have hw' := h.within v hv'.1
    refine ⟨?_, hw'.2⟩
    rcases Nat.lt_or_ge (g + r) v with h5 | h5
    · exact h5
    · exact absurd hv (r4 v hw'.1 h5)
  · rw [show M - (g + r) = M - g - r by omega]; exact r5
  · have c1 := countP_set _ i (nb left[k]) h1
    rw [h2] at c1
    have c2 := count_rel (Fl (left.eraseIdx k) g (M - g))
    rw [r2, r3] at c2
    simp only [List.length_map, List.length_range'] at c2
    have c3 := h.ready
    simp only [OW.ready, Sl] at c3 ⊢
    rw [show M - (g + r) = M - g - r by omega, List.length_eraseIdx_of_lt hk]
    omega

theorem OGood.start (M : Nat) (hM : 1 ≤ M) : OGood M (List.range' 1 M) 0 ∧ Sl M (List.range' 1 M) 0 = ⟨M, 1, List.replicate M none⟩ := by
  have hF : Fl (List.range' 1 M) 0 M = List.replicate M none := by
    apply List.ext_getElem?
    intro j
    rcases Nat.lt_or_ge j M with hj | hj
    · simp only [Fl, List.getElem?_map]
      rw [List.getElem?_range' hj, List.getElem?_replicate, if_pos hj]
      simp only [Option.map_some]
      rw [if_pos (by simp [List.mem_range'_1]; omega)]
    · rw [List.getElem?_eq_none (by rw [Fl_len]; exact hj), List.getElem?_eq_none (by simpa using hj)]
  have hS : Sl M (List.range' 1 M) 0 = ⟨M, 1, List.replicate M none⟩ := by simp [Sl, hF]
  refine ⟨⟨List.pairwise_lt_range' .., fun v hv => by simp [List.mem_range'_1] at hv; omega, .inr (by simp [List.mem_range'_1]; omega), Nat.zero_le _, ?_⟩, hS⟩
  rw [hS]
  simp [OW.ready, List.countP_replicate]

theorem OGood.first {M g : Nat} {left : List Nat} (h : OGood M left g) : (left = [] → g = M) ∧ (∀ x t, left = x :: t → x = g + 1) := by
  refine ⟨fun e => ?_, fun x t e => ?_⟩
  · rcases h.head with h1 | h1
    · have := h.le; omega
    · rw [e] at h1; simp at h1
  · have hx := h.within x (by rw [e]; simp)
    rcases h.head with h1 | h1
    · omega
    · rw [e] at h1
      rcases List.mem_cons.1 h1 with h2 | h2
      · exact h2.symm
      · have hs := h.sorted
        rw [e] at hs
        have := (List.pairwise_cons.1 hs).1 _ h2
        omega
end Go.Ost
