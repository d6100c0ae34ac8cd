/- The law's slice of calls, as it is read as data, in the words of the walk. -/
import Derived.Test.YtoehknanlaamlaaScriptW
import Derived.Test.YtoehknanlaamlaaOpen
import Derived.Deep.Slices
import Derived.Deep.Fields
import Derived.ChangeSame
import Derived.OpenShut
namespace Go.Ost
open Go.RowKit Go.Deep Go.WideShapes Go.ChangeShapes

section
variable {H : Type} {enc : TypeId × Value → H} {P : Program} {w : World} {base : Nat} {spare : Nat → Bool} {held : Bool}
/-- A slice of structs of one-cell fields: each element's fields' cells, each with its own reading. -/
theorem open_structs {t e : TypeId} {fs : Array Field} {fuel : Nat} {cs : List Value} {x : DataW H × List MemPlace} (ht : P.underlying t = some (.slice e)) (he : P.underlying e = some (.struct fs))
    (hone : oneCellFields P fs = true) (hC : P.cellsOf e = fs.size) (h : DataW.trod enc P w base spare held fuel t cs = some x) :
    cs = [.slice none 0 0] ∨
    ∃ (a : Addr) (len cap : Nat), cs = [.slice (some a) len cap] ∧ len ≤ cap ∧ cap ≤ maxLen ∧
      ∀ i, i < len → ∀ (j : Nat) (f : Field), fs[j]? = some f → ∃ (n : Nat) (v : Value) (y : DataW H × List MemPlace), w.cell? (a.add (i * fs.size + j)) = some v ∧ DataW.trod enc P w base spare held n f.type [v] = some y := by
  rcases open_slice ht h with h0 | ⟨a, len, cap, m, n, D, Pl, hcs, hb, hl, hm, hmm, hx, hi⟩
  · exact .inl h0.1
  · refine .inr ⟨a, len, cap, hcs, hl, hm, fun i hil j f hj => ?_⟩
    have him : i < m := by rw [hmm]; split <;> omega
    obtain ⟨cs', hc, ht'⟩ := hi i him
    rw [hC] at hc
    obtain ⟨ys, n', _, _, hlen, hyl, hf⟩ := DataW.trod_struct he ht'
    obtain ⟨_, hcl, hat⟩ := World.cells?_some hc
    obtain ⟨ho, hk⟩ := hone_of hone j f hj
    have hjl : j < fs.size := (Array.getElem?_eq_some_iff.1 hj).1
    have hcell := hat j hjl
    have h1 := hf j f hj
    rw [ho, hk] at h1
    have hjc : j < cs'.length := by omega
    have e1 : (cs'.drop j).take 1 = [cs'[j]] := by rw [List.drop_eq_getElem_cons hjc]; rfl
    rw [e1] at h1
    have hys : ys[j]? = some (ys[j]'(by omega)) := List.getElem?_eq_getElem (by omega)
    refine ⟨n', cs'[j], _, ?_, h1.trans hys⟩
    rw [← Go.Deep.add_add, hcell, List.getElem?_eq_getElem hjc]
end
end Go.Ost
namespace Go.Proofs.Ytoehknanlaamlaa
open Go.RowKit Go.Ost Go.Deep Go.WideShapes Go.ChangeShapes

/-- A value of a list, out of one fact an index. -/
theorem list_of {α : Type} (n : Nat) (R : Nat → α → Prop) (h : ∀ i, i < n → ∃ x, R i x) : ∃ l : List α, l.length = n ∧ ∀ i x, l[i]? = some x → R i x := by
  induction n with
  | zero => exact ⟨[], rfl, fun i x hx => by simp at hx⟩
  | succ n ih =>
    obtain ⟨l, hl, hr⟩ := ih fun i hi => h i (by omega)
    obtain ⟨x, hx⟩ := h n (by omega)
    refine ⟨l ++ [x], by simp [hl], fun i y hy => ?_⟩
    rcases Nat.lt_or_ge i l.length with hi | hi
    · rw [List.getElem?_append_left hi] at hy
      exact hr i y hy
    · rw [List.getElem?_append_right hi] at hy
      cases hj : i - l.length with
      | zero =>
        rw [hj] at hy
        simp at hy
        subst hy
        have : i = n := by omega
        subst this
        exact hx
      | succ j => rw [hj] at hy; simp at hy

section
variable {H : Type} {enc : TypeId × Value → H} {w : World} {base : Nat} {spare : Nat → Bool} {held : Bool}
theorem rdb_of_trod {fuel : Nat} {v : Value} {y : DataW H × List MemPlace} (h : DataW.trod enc Try.prog w base spare held fuel 22 [v] = some y) :
    ∃ A n c bs, v = .slice A n c ∧ n ≤ c ∧ c ≤ maxLen ∧ bs.length = n ∧ RdB w (fun b => b < w.heap.size) A n bs := by
  rcases open_ints Try.underlying22 Try.underlying5 (by kernel_rfl) h with ⟨hcs, _⟩ | ⟨x, l, c, zs, hcs, _, hl, hm, hz, _, hcell, hwz⟩
  · simp at hcs
    subst hcs
    exact ⟨none, 0, 0, [], rfl, Nat.le_refl _, Nat.zero_le _, rfl, Rd.nil _ _ _⟩
  · simp at hcs
    subst hcs
    obtain ⟨bs, h1, h2, h3, h4⟩ := rdb_of_row' (w := w) (A := some x) (n := l) (c := c) (zs := zs) (.inr ⟨x, rfl, hl, hm, by rw [hz]; split <;> omega, hcell, hwz⟩)
    exact ⟨some x, l, c, bs, rfl, h2, h3, h1, h4⟩

theorem acts_of {fuel : Nat} {A : Option Addr} {n c : Nat} {y : DataW H × List MemPlace} (h : DataW.trod enc Try.prog w base spare held fuel 37 [.slice A n c] = some y) :
    ∃ l, Acts w A n l ∧ n ≤ c ∧ c ≤ maxLen := by
  rcases open_structs Try.underlying37 Try.underlying43 (by kernel_rfl) (by kernel_rfl) h with hcs | ⟨a, len, cap, hcs, hl, hm, hf⟩
  · simp at hcs
    obtain ⟨rfl, rfl, rfl⟩ := hcs
    exact ⟨[], ⟨rfl, fun h => absurd h (by omega)⟩, Nat.le_refl _, Nat.zero_le _⟩
  · simp at hcs
    obtain ⟨rfl, rfl, rfl⟩ := hcs
    obtain ⟨l, h1, h2⟩ := list_of n (fun i (x : Act17) => w.cell? (a.add (i * 3)) = some (.bool x.op) ∧ w.cell? (a.add (i * 3 + 1)) = some (.int .i64 x.n) ∧ x.n ≤ 9223372036854775807 ∧
        ∃ B m d, w.cell? (a.add (i * 3 + 2)) = some (.slice B m d) ∧ m ≤ d ∧ RdB w (fun b => b < w.heap.size) B m x.b) (by
      intro i hi
      obtain ⟨n0, v0, y0, c0, t0⟩ := hf i hi 0 _ rfl
      obtain ⟨n1, v1, y1, c1, t1⟩ := hf i hi 1 _ rfl
      obtain ⟨n2, v2, y2, c2, t2⟩ := hf i hi 2 _ rfl
      obtain ⟨q, e0, _⟩ := DataW.trod_bool Try.underlying4 t0
      obtain ⟨z, e1, _, hz⟩ := DataW.trod_int Try.underlying3 t1
      obtain ⟨B, m, d, bs, rfl, hmd, _, hbl, hrd⟩ := rdb_of_trod t2
      simp at e0 e1
      subst e0 e1
      have hz' := bounds_i64 hz
      exact ⟨⟨q, z, bs⟩, c0, c1, hz'.2, B, m, d, c2, hmd, hrd⟩)
    refine ⟨l, ⟨h1, fun hn => ?_⟩, hl, hm⟩
    obtain ⟨x, hx⟩ : ∃ x, l[0]? = some x := ⟨_, List.getElem?_eq_getElem (by omega)⟩
    have h0 := (h2 0 x hx).1
    have e0 : a.add (0 * 3) = a := by simp [Addr.add]
    rw [e0] at h0
    have hs := spot_none h0
    obtain ⟨b, o, sp⟩ := a
    simp only at hs
    subst hs
    refine ⟨b, o, rfl, fun k x hx => ?_⟩
    have h3 := h2 k x hx
    simp only [add_lit_none] at h3
    simpa [Nat.add_assoc] using h3
end
end Go.Proofs.Ytoehknanlaamlaa
