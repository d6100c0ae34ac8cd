/- OrderScript, walked: whatever the maximum and whatever the calls, the window answers as the reference. -/
import Derived.Test.YtoehknanlaamlaaScript
namespace Go.Proofs.Ytoehknanlaamlaa
open Go.RowKit Go.Ost

/-- A call of the law: Open, or Done(n, b). -/
structure Act17 where
  op : Bool
  n : Int
  b : Bs

/-- The slice of calls that came in. -/
def Acts (w : World) (A : Option Addr) (n : Nat) (l : List Act17) : Prop :=
  l.length = n ∧ (0 < n → ∃ b o, A = some ⟨b, o, none⟩ ∧ ∀ (k : Nat) (x : Act17), l[k]? = some x → w.cell? ⟨b, o + k * 3, none⟩ = some (.bool x.op) ∧ w.cell? ⟨b, o + k * 3 + 1, none⟩ = some (.int .i64 x.n) ∧ x.n ≤ 9223372036854775807 ∧
    ∃ B m d, w.cell? ⟨b, o + k * 3 + 2, none⟩ = some (.slice B m d) ∧ m ≤ d ∧ RdB w (fun b => b < w.heap.size) B m x.b)

def longB (l : List Act17) : Bool := l.any (fun x => decide (100 < x.b.length)) || decide (150 < l.length)

set_option maxHeartbeats 800000 in
theorem long_any {w : World} {A : Option Addr} {n c : Nat} {l : List Act17} (h : Acts w A n l) (hn : n ≤ 9223372036854775807) :
    Calls Try.prog 16 #[.slice A n c] w fun e w' => e = .returned (.bool (longB l)) ∧ w = w' := by
  obtain ⟨hl, hc0⟩ := h
  rcases Nat.eq_zero_or_pos n with h0 | h0
  · subst h0
    have : l = [] := List.eq_nil_of_length_eq_zero hl
    subst this
    clear hl hc0
    go_enter Try.func16, Try.ntmps16
    go_wp2
    go_loop [3] (fun i => i = .int .i64 0) (fun _ => 0)
    case atStart => exact rfl
    case round =>
      obtain rfl := hrel
      go_wp2
      go_ret
      exact ⟨rfl, rfl⟩
  · obtain ⟨b, o, rfl, hc⟩ := hc0 h0
    clear hc0
    have HL := hid hl
    have HC := hid hc
    clear hl hc
    go_enter Try.func16, Try.ntmps16
    go_wp2
    go_loop [3] (fun i => ∃ k : Nat, k ≤ n ∧ i = .int .i64 k ∧ Hid ((l.take k).any (fun x => decide (100 < x.b.length)) = false)) (fun i => n - (intOf i).toNat)
    case atStart => exact ⟨0, Nat.zero_le _, rfl, by simp [Hid]⟩
    case round =>
      obtain ⟨k, hk, rfl, ht⟩ := hrel
      by_cases hlt : k < n
      · have hkl : k < l.length := by have := HL.out; omega
        obtain ⟨_, _, _, B, m, d, hc3, _, hr⟩ := HC.out k _ (List.getElem?_eq_getElem hkl)
        have hm : l[k].b.length = m := by simpa using hr.1
        have hstep : (l.take (k + 1)).any (fun x => decide (100 < x.b.length)) = decide (100 < m) := by
          rw [List.take_succ_eq_append_getElem hkl, List.any_append, ht.out, ← hm]
          simp
        have HT := hid hstep
        clear hstep hm hr
        by_cases h100 : 100 < m
        · have hlong : longB l = true := by
            have h1 := HT.out
            unfold longB
            rw [Bool.or_eq_true]
            left
            rw [List.any_eq_true]
            have h2 : (l.take (k + 1)).any (fun x => decide (100 < x.b.length)) = true := by rw [h1]; simpa using h100
            obtain ⟨x, hx, hx2⟩ := List.any_eq_true.1 h2
            exact ⟨x, List.mem_of_mem_take hx, hx2⟩
          have HG := hid hlong
          clear hlong
          go_wp2
          go_ret
          exact ⟨by rw [HG.out]; first | done | rfl, rfl⟩
        · go_wp2
          go_round
          case rel => exact ⟨k + 1, by omega, by go_num, by have := HT.out; simpa [Hid, h100] using this⟩
          case measure => simp [intOf]; omega
      · obtain rfl : k = n := by omega
        have hlong : longB l = decide (150 < (k : Int)) := by
          have h1 := ht.out
          rw [List.take_of_length_le (by rw [HL.out]; exact Nat.le_refl _)] at h1
          unfold longB
          rw [h1, HL.out, Bool.false_or]
          congr 1
          exact propext ⟨fun h => by omega, fun h => by omega⟩
        have HG := hid hlong
        clear hlong
        go_wp2
        go_ret
        exact ⟨by rw [HG.out]; first | done | rfl, rfl⟩
end Go.Proofs.Ytoehknanlaamlaa
