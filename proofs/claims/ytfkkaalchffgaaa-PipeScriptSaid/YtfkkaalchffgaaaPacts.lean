/- The law's slice of calls, as it came in; Long. -/
import Derived.Test.YtfkkaalchffgaaaOpenS
import Derived.Test.YtfkkaalchffgaaaSlice
import Derived.Deep.LoopGhost
namespace Go.Ost
/-- A call of the law: 0, 1 Push(b), 2 Send(b), 3 Close. -/
structure PAct where
  kind : Int
  b : List UInt8
end Go.Ost
namespace Go.Proofs.Ytfkkaalchffgaaa
open Go.RowKit Go.Ost Go.Deep Go.WideShapes Go.ChangeShapes

/-- The slice of calls that came in. -/
def PActs (w : World) (A : Option Addr) (n : Nat) (l : List PAct) : Prop :=
  l.length = n ∧ (0 < n → ∃ b o, A = some ⟨b, o, none⟩ ∧ b < w.heap.size ∧ ∀ (k : Nat) (x : PAct), l[k]? = some x → w.cell? ⟨b, o + k * 2, none⟩ = some (.int .i64 x.kind) ∧ x.b.length ≤ reachBytes ∧
    ∃ B d, w.cell? ⟨b, o + k * 2 + 1, none⟩ = some (.slice B x.b.length d) ∧ x.b.length ≤ d ∧ RdB w (fun b => b < w.heap.size) B x.b.length x.b)

section
variable {H : Type} {enc : TypeId × Value → H} {w : World} {base : Nat} {spare : Nat → Bool} {held : Bool}
theorem pacts_of {fuel : Nat} {A : Option Addr} {n c : Nat} {y : DataW H × List MemPlace} (h : DataW.trod enc Try.prog w base spare held fuel 37 [.slice A n c] = some y) (hs : Szd Try.prog 37 y.1) :
    ∃ l, PActs w A n l ∧ n ≤ c ∧ c ≤ maxLen := by
  rcases open_elems Try.underlying37 h hs with hcs | ⟨a, len, cap, hcs, hl, hm, _, hf⟩
  · simp at hcs
    obtain ⟨rfl, rfl, rfl⟩ := hcs
    exact ⟨[], ⟨rfl, fun h => absurd h (by omega)⟩, Nat.le_refl _, Nat.zero_le _⟩
  · simp at hcs
    obtain ⟨rfl, rfl, rfl⟩ := hcs
    have hC : Try.prog.cellsOf 40 = 2 := by kernel_rfl
    obtain ⟨l, h1, h2⟩ := list_of n (fun i (x : PAct) => w.cell? (a.add (i * 2)) = some (.int .i64 x.kind) ∧ x.b.length ≤ reachBytes ∧
        ∃ B d, w.cell? (a.add (i * 2 + 1)) = some (.slice B x.b.length d) ∧ x.b.length ≤ d ∧ RdB w (fun b => b < w.heap.size) B x.b.length x.b) (by
      intro i hi
      obtain ⟨n0, cs', y0, hc, ht, hz⟩ := hf i hi
      have hg := open_fields Try.underlying40 (by kernel_rfl) hc ht hz (by kernel_rfl)
      obtain ⟨n1, v1, y1, c1, t1, z1⟩ := hg 0 _ rfl
      obtain ⟨n2, v2, y2, c2, t2, z2⟩ := hg 1 _ rfl
      obtain ⟨z, e1, _, _⟩ := DataW.trod_int Try.underlying3 t1
      obtain ⟨B, m, d, bs, rfl, hmd, _, hbl, hrd⟩ := rdb_of_szd t2 z2
      simp at e1
      subst e1
      rw [hC, Go.Deep.add_add] at c1 c2
      have hm2 : bs.length = m := by simpa using hrd.1
      subst hm2
      exact ⟨⟨z, bs⟩, c1, hbl, B, d, c2, hmd, hrd⟩)
    refine ⟨l, ⟨h1, fun hn => ?_⟩, hl, hm⟩
    obtain ⟨x, hx⟩ : ∃ x, l[0]? = some x := ⟨_, List.getElem?_eq_getElem (by omega)⟩
    have h0 := (h2 0 x hx).1
    have e0 : a.add (0 * 2) = a := by simp [Addr.add]
    rw [e0] at h0
    have hs := spot_none h0
    obtain ⟨b, o, sp⟩ := a
    simp only at hs
    subst hs
    refine ⟨b, o, rfl, block_lt_of_cell h0, fun k x hx => ?_⟩
    have h3 := h2 k x hx
    simp only [add_lit_none] at h3
    simpa [Nat.add_assoc] using h3
end

/-- How many bytes are handed in together. -/
def total (l : List PAct) : Nat := (l.map (·.b.length)).sum
theorem total_take_le (l : List PAct) (k : Nat) : total (l.take k) ≤ total l := by
  unfold total
  conv => rhs; rw [← List.take_append_drop k l, List.map_append, List.sum_append]
  omega
theorem total_step {l : List PAct} {k : Nat} {x : PAct} (h : l[k]? = some x) : total (l.take (k + 1)) = total (l.take k) + x.b.length := by
  obtain ⟨hk, e⟩ := List.getElem?_eq_some_iff.1 h
  unfold total
  rw [List.take_succ_eq_append_getElem hk, e, List.map_append, List.sum_append]
  simp

/-- What Long tells. -/
def LongR (w : World) (n : Nat) (l : List PAct) (e : Ending) (w' : World) : Prop := ∃ q, e = .returned (.bool q) ∧ w = w' ∧ (q = false → n ≤ 60 ∧ total l ≤ 9000)

set_option maxHeartbeats 1600000 in
theorem long_any {w : World} {A : Option Addr} {n c : Nat} {l : List PAct} (h : PActs w A n l) (hn : n ≤ 9223372036854775807) :
    Calls Try.prog 15 #[.slice A n c] w (LongR w n l) := by
  obtain ⟨hl, hc0⟩ := h
  have HL := hid hl
  have HC := hid hc0
  clear hl hc0
  go_enter Try.func15, Try.ntmps15
  go_wp2
  go_loopw [3, 4] (fun s i wr => ∃ (k m : Nat), k ≤ n ∧ i = .int .i64 k ∧ s = .int .i64 m ∧ m ≤ 9000 + 140737488351232 ∧ Hid (m = total (l.take k)) ∧ w = wr) (fun _ i _ => n - (intOf i).toNat)
  case atStart => exact ⟨0, 0, Nat.zero_le _, rfl, rfl, by omega, rfl, by first | rfl | trivial⟩
  case round =>
    obtain ⟨k, m, hk, rfl, rfl, hm, ht, rfl⟩ := hrel
    by_cases hlt : k < n
    · by_cases hbig : m ≤ 9000
      · obtain ⟨b, o, rfl, _, hc⟩ := HC.out (by omega)
        have hkl : k < l.length := by have := HL.out; omega
        obtain ⟨_, hreach, B, d, hc3, _, _⟩ := hc k _ (List.getElem?_eq_getElem hkl)
        have hst := total_step (List.getElem?_eq_getElem hkl)
        have HST := hid hst
        have hr2 : l[k].b.length ≤ 140737488351232 := hreach
        generalize l[k].b.length = j at hr2 hc3 HST
        clear hc hst hreach
        go_wp2
        go_roundw
        case rel => exact ⟨k + 1, m + j, by omega, by go_num, by go_num, by omega, by simp only [Hid]; rw [HST.out, ht.out], by first | rfl | trivial⟩
        case measure => simp [intOf]; omega
      · rcases Nat.lt_or_ge 60 n with h60 | h60
        · go_wp2
          go_ret
          exact ⟨true, by simp, rfl, by simp⟩
        · go_wp2
          go_ret
          exact ⟨true, by simp, rfl, by simp⟩
    · obtain rfl : n = k := by omega
      have hall : l.take n = l := List.take_of_length_le (by rw [HL.out]; exact Nat.le_refl _)
      rw [hall] at ht
      rcases Nat.lt_or_ge 60 n with h60 | h60
      · go_wp2
        go_ret
        exact ⟨true, by simp, rfl, by simp⟩
      · rcases Nat.lt_or_ge 9000 m with h9 | h9
        · go_wp2
          go_ret
          exact ⟨true, by simp; omega, rfl, by simp⟩
        · go_wp2
          go_ret
          exact ⟨false, by simp; omega, rfl, fun _ => ⟨h60, by rw [← ht.out]; exact h9⟩⟩
end Go.Proofs.Ytfkkaalchffgaaa
