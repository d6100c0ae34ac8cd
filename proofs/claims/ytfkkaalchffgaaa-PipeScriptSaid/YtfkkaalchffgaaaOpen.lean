/- From what the row's frame tells of a slice that came in, to the words of XMem. -/
import Derived.Test.YtfkkaalchffgaaaKit
namespace Go.Ost
open Go.RowKit

theorem wf_u8 {n : Int} (h : (Lit.int .u8 n).wf = true) : 0 ≤ n ∧ n < 256 := by
  simp [Lit.wf, IntKind.min, IntKind.max, IntKind.signed, IntKind.bits] at h
  omega

theorem spot_none {w : World} {a : Addr} {v : Value} (h : w.cell? a = some v) : a.spot = none := by
  unfold World.cell? at h
  split at h
  · split at h
    · cases h
    · rename_i hs; simpa using hs
  · cases h

theorem rd_of_cells {w : World} {x : Addr} {n : Nat} {vs : List Value} (hl : vs.length = n) (h : ∀ i v, vs[i]? = some v → w.cell? (x.add i) = some v) : Rd w (fun b => b < w.heap.size) (some x) n vs := by
  refine ⟨hl, fun hn => ?_⟩
  have h0 := h 0 _ (List.getElem?_eq_getElem (by omega : 0 < vs.length))
  have e0 : x.add 0 = x := by simp [Addr.add]
  rw [e0] at h0
  obtain ⟨b, o, sp⟩ := x
  have hs := spot_none h0
  simp only at hs
  subst hs
  exact ⟨b, o, rfl, block_lt_of_cell h0, fun j v hv => by rw [← add_lit_none]; exact h j v hv⟩

theorem rdb_of_row' {w : World} {A : Option Addr} {n c : Nat} {zs : List Int}
    (h : (A = none ∧ n = 0 ∧ c = 0 ∧ zs = []) ∨ ∃ x, A = some x ∧ n ≤ c ∧ c ≤ maxLen ∧ n ≤ zs.length ∧ (∀ i, i < zs.length → w.cell? (x.add i) = some (.int .u8 (zs.getD i 0))) ∧ ∀ n ∈ zs, (Lit.int .u8 n).wf = true) :
    ∃ bs : List UInt8, bs.length = n ∧ n ≤ c ∧ c ≤ maxLen ∧ RdB w (fun b => b < w.heap.size) A n bs := by
  rcases h with ⟨rfl, rfl, rfl, rfl⟩ | ⟨x, rfl, h1, h2, h3, h4, h5⟩
  · exact ⟨[], rfl, Nat.le_refl _, Nat.zero_le _, Rd.nil _ _ _⟩
  · refine ⟨(zs.take n).map fun z => UInt8.ofNat z.toNat, by simp; omega, h1, h2, ?_⟩
    refine rd_of_cells (by simp; omega) fun i v hv => ?_
    rw [List.map_map, List.getElem?_map, List.getElem?_take] at hv
    split at hv
    · rename_i hi
      have hil : i < zs.length := by omega
      rw [List.getElem?_eq_getElem hil] at hv
      simp only [Option.map_some, Option.some.injEq, Function.comp] at hv
      have hw := wf_u8 (h5 _ (List.getElem_mem hil))
      rw [h4 i hil, ← hv]
      have e1 : zs.getD i 0 = zs[i] := by simp [List.getD, hil]
      rw [e1]
      unfold bv
      have e2 : (((UInt8.ofNat zs[i].toNat).toNat : Nat) : Int) = zs[i] := by
        rw [UInt8.toNat_ofNat']
        omega
      rw [e2]
    · cases hv
theorem rdb_of_row {w : World} {A : Option Addr} {n c : Nat} {zs : List Int}
    (h : (A = none ∧ n = 0 ∧ c = 0 ∧ zs = []) ∨ ∃ x, A = some x ∧ n ≤ c ∧ c ≤ maxLen ∧ zs.length = c ∧ (∀ i, i < zs.length → w.cell? (x.add i) = some (.int .u8 (zs.getD i 0))) ∧ ∀ n ∈ zs, (Lit.int .u8 n).wf = true) :
    ∃ bs : List UInt8, bs.length = n ∧ n ≤ c ∧ c ≤ maxLen ∧ RdB w (fun b => b < w.heap.size) A n bs :=
  rdb_of_row' (h.imp id fun ⟨x, h1, h2, h3, h4, h5⟩ => ⟨x, h1, h2, h3, by omega, h5⟩)
end Go.Ost
