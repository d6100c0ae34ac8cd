/- A plain channel: made anew, its methods. -/
import Derived.Test.YtfkkaalchffgaaaAwk
import Derived.Test.YtfkkaalchffgaaaRec
namespace Go.Proofs.Ytfkkaalchffgaaa
open Go.RowKit Go.Ost

/-- A plain channel at block a; shut or not. -/
def PWin (w : World) (a : Nat) (q : Bool) : Prop := Blk w a 60 #[.bool q]

section
variable {w : World} {a : Nat} {q : Bool} {O : Nat → Prop} {A : Option Addr} {n c : Nat} {bs : List UInt8}
theorem plain_new (w : World) : Calls Try.prog 14 #[] w fun e w' => e = .returned (.iface 58 (.pointer (some ⟨w.heap.size, 0, none⟩))) ∧ PWin w' w.heap.size false ∧ Fr No w w' := by
  go_enter Try.func14, Try.ntmps14
  go_wp2
  go_ret
  exact ⟨rfl, Blk.new w _ _, (Fr.refl _ _).alloc _⟩

theorem plain_push (h : RdB w O A n bs) (hn : n ≤ 140737488355328) : Calls Try.prog 71 #[.pointer (some ⟨a, 0, none⟩), .slice A n c] w (NewE w bs 0) := by
  go_enter Try.func71, Try.ntmps71
  go_wp2_with fail
  refine (clone_bytes (c := c) h hn).mono ?_
  rintro e w1 ⟨A1, c1, rfl, hown, hc1, hf⟩
  go_wp2_with fail
  go_ret2
  exact ⟨A1, c1, rfl, hown, hc1, hf⟩

theorem plain_send (hw : PWin w a q) (h : RdB w O A n bs) (hn : n ≤ 140737488355328) : Calls Try.prog 72 #[.pointer (some ⟨a, 0, none⟩), .slice A n c] w (NewB w (if q then [] else bs)) := by
  have c0 := hw.cell 0
  have hl : bs.length = n := by simpa using h.1
  simp at c0
  cases q with
  | true =>
    clear hl
    simp only [if_true]
    go_enter Try.func72, Try.ntmps72
    go_wp2
    go_ret
    exact ⟨none, 0, rfl, Ost.Own.nil _ _ _ _, Nat.zero_le _, Fr.refl _ _⟩
  | false =>
    simp only [Bool.false_eq_true, if_false]
    rcases Nat.eq_zero_or_pos n with h0 | h0
    · subst h0
      have : bs = [] := List.eq_nil_of_length_eq_zero hl
      subst this
      clear hl
      go_enter Try.func72, Try.ntmps72
      go_wp2
      go_ret
      exact ⟨none, 0, rfl, Ost.Own.nil _ _ _ _, Nat.zero_le _, Fr.refl _ _⟩
    · clear hl
      go_enter Try.func72, Try.ntmps72
      go_wp2_with fail
      refine (clone_bytes (c := c) h hn).mono ?_
      rintro e w1 ⟨A1, c1, rfl, hown, hc1, hf⟩
      go_wp2_with fail
      go_ret
      exact ⟨A1, c1, rfl, hown, hc1, hf⟩

theorem plain_close (hw : PWin w a q) : Calls Try.prog 68 #[.pointer (some ⟨a, 0, none⟩)] w fun e w' => e = .returned (.slice none 0 0) ∧ PWin w' a true ∧ Fr (· = a) w w' := by
  have c0 := hw.cell 0
  have f0 := hw.frozen 0
  simp at c0
  go_enter Try.func68, Try.ntmps68
  go_wp2
  go_ret
  exact ⟨rfl, by simpa [PWin] using Blk.set_ hw 0 (.bool true), (Fr.refl (· = a) w).setCell (p := ⟨a, 0, none⟩) (.inl rfl) _⟩

theorem plain_left : Calls Try.prog 70 #[.pointer (some ⟨a, 0, none⟩)] w fun e w' => e = .returned (.int .i64 0) ∧ w = w' := by
  go_enter Try.func70, Try.ntmps70
  go_wp2
  go_ret
  exact ⟨rfl, rfl⟩
theorem plain_ended : Calls Try.prog 69 #[.pointer (some ⟨a, 0, none⟩)] w fun e w' => e = .returned (.bool false) ∧ w = w' := by
  go_enter Try.func69, Try.ntmps69
  go_wp2
  go_ret
  exact ⟨rfl, rfl⟩
theorem plain_broken : Calls Try.prog 67 #[.pointer (some ⟨a, 0, none⟩)] w fun e w' => e = .returned (.bool false) ∧ w = w' := by
  go_enter Try.func67, Try.ntmps67
  go_wp2
  go_ret
  exact ⟨rfl, rfl⟩
end
end Go.Proofs.Ytfkkaalchffgaaa
