/- What came in, as it is read as data, in the words of the walk; with the reach (each slice that is read takes at most 'reachBytes' bytes). -/
import Derived.Test.YtfkkaalchffgaaaOpen
import Derived.Deep.Slices
import Derived.Deep.Fields
import Derived.ChangeSame
import Derived.OpenShut
import Derived.SizedLaws
namespace Go.Ost
open Go.RowKit Go.Deep Go.WideShapes Go.ChangeShapes

/-- Every slice in it is within the reach. -/
def Szd {H : Type} (P : Program) (t : TypeId) (D : DataW H) : Prop := ∀ n ∈ D.weights P t, n ≤ reachBytes

theorem szd_of_all {H : Type} {P : Program} {ts : List TypeId} {ds : List (DataW H)} (h : (DataW.weightsEach P ts ds).all (· ≤ reachBytes) = true) {j : Nat} {t : TypeId} {d : DataW H} (ht : ts[j]? = some t) (hd : ds[j]? = some d) : Szd P t d := fun n hn => by
  have := List.all_eq_true.1 h _ (DataW.weights_mem_each ht hd n hn)
  simpa using this

theorem mem_weightsAll {H : Type} {P : Program} {e : TypeId} : ∀ {l : List (DataW H)} {d : DataW H}, d ∈ l → ∀ n ∈ d.weights P e, n ∈ DataW.weightsAll P e l
  | d0 :: l, d, hd, n, hn => by
    simp only [DataW.weightsAll, List.mem_append]
    rcases List.mem_cons.1 hd with rfl | hd
    · exact .inl hn
    · exact .inr (mem_weightsAll hd n hn)

section
variable {H : Type} {enc : TypeId × Value → H} {P : Program} {w : World} {base : Nat} {spare : Nat → Bool} {held : Bool}
theorem open_elems {t e : TypeId} {fuel : Nat} {cs : List Value} {x : DataW H × List MemPlace} (ht : P.underlying t = some (.slice e)) (h : DataW.trod enc P w base spare held fuel t cs = some x) (hs : Szd P t x.1) :
    cs = [.slice none 0 0] ∨
    ∃ (a : Addr) (len cap : Nat), cs = [.slice (some a) len cap] ∧ len ≤ cap ∧ cap ≤ maxLen ∧ len * P.bytesOf e ≤ reachBytes ∧
      ∀ i, i < len → ∃ (n : Nat) (cs' : List Value) (y : DataW H × List MemPlace), w.cells? base (a.add (i * P.cellsOf e)) (P.cellsOf e) = some cs' ∧ DataW.trod enc P w base spare held n e cs' = some y ∧ Szd P e y.1 := by
  rcases open_slice ht h with h0 | ⟨a, len, cap, m, n, D, Pl, hcs, hb, hl, hm, hmm, hx, hi⟩
  · exact .inl h0.1
  · subst hx
    have hw : ∀ k ∈ ((((List.range len).map D).length + ((List.range (m - len)).map fun j => D (len + j)).length) * P.bytesOf e :: (DataW.weightsAll P e ((List.range len).map D) ++ DataW.weightsAll P e ((List.range (m - len)).map fun j => D (len + j)))), k ≤ reachBytes := by
      have : (DataW.slice ((List.range len).map D) ((List.range (m - len)).map fun j => D (len + j))).weights P t = (((List.range len).map D).length + ((List.range (m - len)).map fun j => D (len + j)).length) * P.bytesOf e :: (DataW.weightsAll P e ((List.range len).map D) ++ DataW.weightsAll P e ((List.range (m - len)).map fun j => D (len + j))) := by
        simp only [DataW.weights, ht]
      intro k hk
      exact hs k (by rw [this]; exact hk)
    refine .inr ⟨a, len, cap, hcs, hl, hm, ?_, fun i hil => ?_⟩
    · have h1 := hw _ (List.mem_cons_self ..)
      simp only [List.length_map, List.length_range] at h1
      exact Nat.le_trans (Nat.mul_le_mul_right _ (Nat.le_add_right _ _)) h1
    · have him : i < m := by rw [hmm]; split <;> omega
      obtain ⟨cs', hc, ht'⟩ := hi i him
      refine ⟨n, cs', _, hc, ht', fun k hk => hw k (List.mem_cons_of_mem _ (List.mem_append_left _ (mem_weightsAll (d := D i) ?_ k hk)))⟩
      exact List.mem_map.2 ⟨i, List.mem_range.2 hil, rfl⟩

/-- One struct of one-cell fields. -/
theorem open_fields {e : TypeId} {fs : Array Field} {n : Nat} {cs' : List Value} {y : DataW H × List MemPlace} {b : Addr} (he : P.underlying e = some (.struct fs)) (hone : oneCellFields P fs = true)
    (hc : w.cells? base b (P.cellsOf e) = some cs') (h : DataW.trod enc P w base spare held n e cs' = some y) (hs : Szd P e y.1) (hC : P.cellsOf e = fs.size) :
    ∀ (j : Nat) (f : Field), fs[j]? = some f → ∃ (n' : Nat) (v : Value) (z : DataW H × List MemPlace), w.cell? (b.add j) = some v ∧ DataW.trod enc P w base spare held n' f.type [v] = some z ∧ Szd P f.type z.1 := by
  intro j f hj
  rw [hC] at hc
  obtain ⟨xs, n', _, hy, hlen, hyl, hf⟩ := DataW.trod_struct he h
  obtain ⟨_, hcl, hat⟩ := World.cells?_some hc
  obtain ⟨ho, hk⟩ := hone_of hone j f hj
  have hjl : j < fs.size := (Array.getElem?_eq_some_iff.1 hj).1
  have hcell := hat j hjl
  have h1 := hf j f hj
  rw [ho, hk] at h1
  have hjc : j < cs'.length := by omega
  have e1 : (cs'.drop j).take 1 = [cs'[j]] := by rw [List.drop_eq_getElem_cons hjc]; rfl
  rw [e1] at h1
  have hys : xs[j]? = some (xs[j]'(by omega)) := List.getElem?_eq_getElem (by omega)
  refine ⟨n', cs'[j], _, by rw [hcell, List.getElem?_eq_getElem hjc], h1.trans hys, fun k hk => hs k ?_⟩
  subst hy
  have hwt : (DataW.agg (xs.map (·.1))).weights P e = DataW.weightsEach P (fs.toList.map (·.type)) (xs.map (·.1)) := by simp only [DataW.weights, he]
  rw [hwt]
  refine DataW.weights_mem_each (j := j) (t := f.type) (d := (xs[j]'(by omega)).1) ?_ ?_ k hk
  · rw [List.getElem?_map, Array.getElem?_toList, hj]; rfl
  · rw [List.getElem?_map, hys]; rfl

theorem cells_one {w : World} {base : Nat} {a : Addr} {cs : List Value} (h : w.cells? base a 1 = some cs) : ∃ v, cs = [v] ∧ w.cell? a = some v := by
  obtain ⟨_, hl, hat⟩ := World.cells?_some h
  match cs, hl with
  | [v], _ =>
    have := hat 0 (by omega)
    refine ⟨v, rfl, ?_⟩
    have e : a.add 0 = a := by unfold Addr.add; simp
    rw [e] at this
    simpa using this

/-- A value of a list, out of one fact an index. -/
theorem list_of {α : Type} (n : Nat) (R : Nat → α → Prop) (h : ∀ i, i < n → ∃ x, R i x) : ∃ l : List α, l.length = n ∧ ∀ i x, l[i]? = some x → R i x := by
  induction n with
  | zero => exact ⟨[], rfl, fun i x hx => by simp at hx⟩
  | succ n ih =>
    obtain ⟨l, hl, hr⟩ := ih fun i hi => h i (by omega)
    obtain ⟨x, hx⟩ := h n (by omega)
    refine ⟨l ++ [x], by simp [hl], fun i y hy => ?_⟩
    rcases Nat.lt_or_ge i l.length with hi | hi
    · rw [List.getElem?_append_left hi] at hy
      exact hr i y hy
    · rw [List.getElem?_append_right hi] at hy
      cases hj : i - l.length with
      | zero =>
        rw [hj] at hy
        simp at hy
        subst hy
        have : i = n := by omega
        subst this
        exact hx
      | succ j => rw [hj] at hy; simp at hy
end
end Go.Ost
namespace Go.Proofs.Ytfkkaalchffgaaa
open Go.RowKit Go.Ost Go.Deep Go.WideShapes Go.ChangeShapes

section
variable {H : Type} {enc : TypeId × Value → H} {w : World} {base : Nat} {spare : Nat → Bool} {held : Bool}
theorem bytes_u8 : Try.prog.bytesOf 5 = 1 := by kernel_rfl
theorem cells_bs : Try.prog.cellsOf 28 = 1 := by kernel_rfl
theorem cells_int : Try.prog.cellsOf 3 = 1 := by kernel_rfl

/-- A slice of bytes that came in. -/
theorem rdb_of_szd {fuel : Nat} {v : Value} {y : DataW H × List MemPlace} (h : DataW.trod enc Try.prog w base spare held fuel 28 [v] = some y) (hs : Szd Try.prog 28 y.1) :
    ∃ A n c bs, v = .slice A n c ∧ n ≤ c ∧ c ≤ maxLen ∧ n ≤ reachBytes ∧ RdB w (fun b => b < w.heap.size) A n bs := by
  rcases open_elems Try.underlying28 h hs with hcs | ⟨x, l, c, hcs, hl, hm, hb, _⟩
  · simp at hcs
    subst hcs
    exact ⟨none, 0, 0, [], rfl, Nat.le_refl _, Nat.zero_le _, Nat.zero_le _, Rd.nil _ _ _⟩
  · simp at hcs
    subst hcs
    rcases open_ints Try.underlying28 Try.underlying5 (by kernel_rfl) h with ⟨hcs, _⟩ | ⟨x', l', c', zs, hcs, _, hl', hm', hz, _, hcell, hwz⟩
    · simp at hcs
    · simp at hcs
      obtain ⟨rfl, rfl, rfl⟩ := hcs
      obtain ⟨bs, h1, h2, h3, h4⟩ := rdb_of_row' (w := w) (A := some x) (n := l) (c := c) (zs := zs) (.inr ⟨x, rfl, hl, hm, by rw [hz]; split <;> omega, hcell, hwz⟩)
      rw [bytes_u8, Nat.mul_one] at hb
      exact ⟨some x, l, c, bs, rfl, h2, h3, hb, h4⟩

/-- A slice of slices of bytes that came in. -/
theorem rdl_of_szd {fuel : Nat} {A : Option Addr} {n c : Nat} {y : DataW H × List MemPlace} (h : DataW.trod enc Try.prog w base spare held fuel 22 [.slice A n c] = some y) (hs : Szd Try.prog 22 y.1) :
    ∃ ls, RdL w (fun b => b < w.heap.size) A n ls ∧ n ≤ c ∧ c ≤ maxLen ∧ ∀ l ∈ ls, l.length ≤ reachBytes := by
  rcases open_elems Try.underlying22 h hs with hcs | ⟨a, len, cap, hcs, hl, hm, _, hf⟩
  · simp at hcs
    obtain ⟨rfl, rfl, rfl⟩ := hcs
    exact ⟨[], ⟨[], Rd.nil _ _ _, rfl, fun i v l hv => by simp at hv⟩, Nat.le_refl _, Nat.zero_le _, by simp⟩
  · simp at hcs
    obtain ⟨rfl, rfl, rfl⟩ := hcs
    rw [cells_bs] at hf
    obtain ⟨l, h1, h2⟩ := list_of n (fun i (x : Value × List UInt8) => w.cell? (a.add i) = some x.1 ∧ BVal w (fun b => b < w.heap.size) x.1 x.2 ∧ x.2.length ≤ reachBytes) (by
      intro i hi
      obtain ⟨n0, cs', y0, hc, ht, hz⟩ := hf i hi
      rw [Nat.mul_one] at hc
      obtain ⟨v, rfl, hv⟩ := cells_one hc
      obtain ⟨B, m, d, bs, rfl, h3, h4, h5, h6⟩ := rdb_of_szd ht hz
      exact ⟨(_, bs), hv, ⟨B, m, d, rfl, h3, h6⟩, by rw [show bs.length = m by simpa using h6.1]; exact h5⟩)
    refine ⟨l.map (·.2), ⟨l.map (·.1), rd_of_cells (by simp [h1]) (fun i v hv => ?_), by simp, fun i v b hv hb => ?_⟩, hl, hm, fun b hb => ?_⟩
    · rw [List.getElem?_map] at hv
      cases hx : l[i]? with
      | none => rw [hx] at hv; simp at hv
      | some x => rw [hx] at hv; simp at hv; rw [(h2 i x hx).1, hv]
    · rw [List.getElem?_map] at hv hb
      cases hx : l[i]? with
      | none => rw [hx] at hv; simp at hv
      | some x =>
        rw [hx] at hv hb
        simp at hv hb
        subst hv hb
        exact (h2 i x hx).2.1
    · obtain ⟨x, hx, rfl⟩ := List.mem_map.1 hb
      obtain ⟨i, hi⟩ := List.mem_iff_getElem?.1 hx
      exact (h2 i x hi).2.2

/-- A slice of numbers that came in. -/
theorem ints_of_szd {fuel : Nat} {A : Option Addr} {n c : Nat} {y : DataW H × List MemPlace} (h : DataW.trod enc Try.prog w base spare held fuel 23 [.slice A n c] = some y) :
    ∃ zs : List Int, Rd w (fun b => b < w.heap.size) A n (zs.map (Value.int .i64)) ∧ n ≤ c ∧ c ≤ maxLen := by
  rcases open_ints Try.underlying23 Try.underlying3 (by kernel_rfl) h with ⟨hcs, _⟩ | ⟨x, l, c', zs, hcs, _, hl, hm, hz, _, hcell, hwz⟩
  · simp at hcs
    obtain ⟨rfl, rfl, rfl⟩ := hcs
    exact ⟨[], Rd.nil _ _ _, Nat.le_refl _, Nat.zero_le _⟩
  · simp at hcs
    obtain ⟨rfl, rfl, rfl⟩ := hcs
    have hzl : n ≤ zs.length := by rw [hz]; split <;> omega
    refine ⟨zs.take n, rd_of_cells (by simp; omega) (fun i v hv => ?_), hl, hm⟩
    rw [List.getElem?_map, List.getElem?_take] at hv
    split at hv
    · rename_i hi
      have hil : i < zs.length := by omega
      rw [List.getElem?_eq_getElem hil] at hv
      simp only [Option.map_some, Option.some.injEq] at hv
      rw [hcell i hil, ← hv]
      simp [List.getD, hil]
    · simp at hv
end
end Go.Proofs.Ytfkkaalchffgaaa
