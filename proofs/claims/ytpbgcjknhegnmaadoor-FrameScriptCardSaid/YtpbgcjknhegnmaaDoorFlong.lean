/- The law's Long over the pieces. -/
import Derived.Test.YtpbgcjknhegnmaaDoorOpenS
import Derived.Test.YtpbgcjknhegnmaaDoorSlice
import Derived.Deep.LoopGhost
namespace Go.Proofs.YtpbgcjknhegnmaaDoor
open Go.RowKit Go.Ost Go.Deep Go.WideShapes Go.ChangeShapes

/-- How many bytes the first pieces hold. -/
def totB (l : List (List UInt8)) : Nat := l.flatten.length
theorem totB_step {l : List (List UInt8)} {k : Nat} {x : List UInt8} (h : l[k]? = some x) : totB (l.take (k + 1)) = totB (l.take k) + x.length := by
  obtain ⟨hk, e⟩ := List.getElem?_eq_some_iff.1 h
  unfold totB
  rw [List.take_succ_eq_append_getElem hk, e, List.flatten_append, List.length_append]
  simp
/-- What Long tells. -/
def FLongR (w : World) (n : Nat) (l : List (List UInt8)) (e : Ending) (w' : World) : Prop := ∃ q, e = .returned (.bool q) ∧ w = w' ∧ (q = false → n ≤ 60 ∧ totB l ≤ 70000)

set_option maxHeartbeats 1600000 in
theorem flong_any {w : World} {O : Nat → Prop} {A : Option Addr} {n c : Nat} {l : List (List UInt8)} (h : RdL w O A n l) (hlr : ∀ x ∈ l, x.length ≤ reachBytes) (hn : n ≤ 9223372036854775807) :
    Calls Tryd.prog 19 #[.slice A n c] w (FLongR w n l) := by
  have HL := hid h.len
  have HC := hid h
  have HR := hid hlr
  clear h hlr
  go_enter Tryd.func19, Tryd.ntmps19
  go_wp2
  go_loopw [3, 4] (fun s i wr => ∃ (k m : Nat), k ≤ n ∧ i = .int .i64 k ∧ s = .int .i64 m ∧ m ≤ 70000 + 140737488351232 ∧ Hid (m = totB (l.take k)) ∧ w = wr) (fun _ i _ => n - (intOf i).toNat)
  case atStart => exact ⟨0, 0, Nat.zero_le _, rfl, rfl, by omega, rfl, by first | rfl | trivial⟩
  case round =>
    obtain ⟨k, m, hk, rfl, rfl, hm, ht, rfl⟩ := hrel
    by_cases hlt : k < n
    · by_cases hbig : m ≤ 70000
      · obtain ⟨b, o, rfl, hc⟩ := HC.out.head (by omega)
        obtain ⟨B, j, d, x, hx, hc3, _, hr⟩ := hc k hlt
        have hjl : x.length = j := by simpa using hr.1
        have hr2 : x.length ≤ 140737488351232 := HR.out x (List.mem_of_getElem? hx)
        rw [hjl] at hr2
        have hst := totB_step hx
        rw [hjl] at hst
        have HST := hid hst
        clear hc hst hr hjl hx
        go_wp2
        go_roundw
        case rel => exact ⟨k + 1, m + j, by omega, by go_num, by go_num, by omega, by simp only [Hid]; rw [HST.out, ht.out], by first | rfl | trivial⟩
        case measure => simp [intOf]; omega
      · rcases Nat.lt_or_ge 60 n with h60 | h60
        · go_wp2
          go_ret
          exact ⟨true, by simp, rfl, by simp⟩
        · go_wp2
          go_ret
          exact ⟨true, by simp, rfl, by simp⟩
    · obtain rfl : n = k := by omega
      have hall : l.take n = l := List.take_of_length_le (by rw [HL.out]; exact Nat.le_refl _)
      rw [hall] at ht
      rcases Nat.lt_or_ge 60 n with h60 | h60
      · go_wp2
        go_ret
        exact ⟨true, by simp, rfl, by simp⟩
      · rcases Nat.lt_or_ge 70000 m with h9 | h9
        · go_wp2
          go_ret
          exact ⟨true, by simp; omega, rfl, by simp⟩
        · go_wp2
          go_ret
          exact ⟨false, by simp; omega, rfl, fun _ => ⟨h60, by rw [← ht.out]; exact h9⟩⟩
end Go.Proofs.YtpbgcjknhegnmaaDoor
