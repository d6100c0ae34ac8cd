/- OrderWaits: nothing goes as long as the first one that is open is not done, however many others are; and all go with it. Here: what the call answers, for every number and every slice of bytes that can be read. -/
import Derived.Test.YtoehknanlaamlaaOrdF
namespace Go.Ost
open Go.RowKit

theorem open_rep {M k : Nat} (h : k < M) : OW.open_ ⟨M, 1, List.replicate k none⟩ = ((((k + 1 : Nat) : Int), 0), ⟨M, 1, List.replicate (k + 1) none⟩) := by
  have h1 : ¬ M ≤ k := by omega
  simp [OW.open_, OW.opened, h1, List.replicate_succ']
  omega

/-- M numbers open, those above j done with b. -/
def waits (M j : Nat) (b : Bs) : OW := ⟨M, 1, List.replicate j none ++ List.replicate (M - j) (some b)⟩

theorem set_rep (j m : Nat) (b : Bs) : (List.replicate (j + 1) (none : Option Bs) ++ List.replicate m (some b)).set j (some b) = List.replicate j none ++ List.replicate (m + 1) (some b) := by
  rw [List.replicate_succ', List.append_assoc, List.set_append_right _ _ (by simp)]
  simp [List.replicate_succ]
theorem rel_none (l : List (Option Bs)) : rel (none :: l) = [] := rfl
theorem rest_none (l : List (Option Bs)) : rest (none :: l) = none :: l := rfl
theorem rel_somes (m : Nat) (b : Bs) : rel (List.replicate m (some b)) = List.replicate m b ∧ rest (List.replicate m (some b)) = [] := by
  induction m with
  | zero => exact ⟨rfl, rfl⟩
  | succ m ih => simp [List.replicate_succ, rel, rest, ih.1, ih.2]

theorem done_rep {M j : Nat} {b : Bs} (h1 : 1 ≤ j) (h2 : j < M) : OW.done (waits M (j + 1) b) ((j : Int) + 1) b = (([], 0), waits M j b) := by
  obtain ⟨j, rfl⟩ : ∃ i, j = i + 1 := ⟨j - 1, by omega⟩
  have h5 : (waits M (j + 1 + 1) b).L[j + 1]? = some none := by
    simp only [waits]
    rw [List.getElem?_append_left (by simp)]
    simp
  have h6 : (waits M (j + 1 + 1) b).put (j + 1) b = List.replicate (j + 1) none ++ List.replicate (M - (j + 1)) (some b) := by
    simp only [waits, OW.put]
    rw [set_rep]
    congr 2
    omega
  rw [OW.done_at (i := j + 1) (by simp [waits]; omega) h5]
  simp only [OW.released, h6, List.replicate_succ, List.cons_append, rel_none, rest_none]
  rfl

theorem done_last {M : Nat} {b : Bs} : OW.done (waits M 1 b) 1 [] = (([] :: List.replicate (M - 1) b, 0), ⟨M, 1 + (1 + (M - 1)), []⟩) := by
  have h6 : (waits M 1 b).put 0 [] = some [] :: List.replicate (M - 1) (some b) := by simp [waits, OW.put]
  rw [OW.done_at (i := 0) (by simp [waits]) rfl]
  simp only [OW.released, h6, rel, rest, (rel_somes (M - 1) b).1, (rel_somes (M - 1) b).2]
  simp [waits]
  omega
theorem first_waits {M j : Nat} {b : Bs} (h : 1 ≤ j) : (waits M j b).first = 1 := by
  obtain ⟨j, rfl⟩ : ∃ i, j = i + 1 := ⟨j - 1, by omega⟩
  simp [OW.first, waits, List.replicate_succ]
end Go.Ost
