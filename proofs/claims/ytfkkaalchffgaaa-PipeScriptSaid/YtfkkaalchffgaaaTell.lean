/- What a sealed channel tells of itself: Left, Ended, Broken. -/
import Derived.Test.YtfkkaalchffgaaaSeal
namespace Go.Proofs.Ytfkkaalchffgaaa
open Go.RowKit Go.Ost

section
variable {w : World} {O : Nat → Prop} {a : Nat} {s : PC}
theorem left_any (h : SWin w O a s) : Calls Try.prog 52 #[.pointer (some ⟨a, 0, none⟩)] w fun e w' => e = .returned (.int .i64 s.b.length) ∧ w = w' := by
  obtain ⟨h0, ha, A1, c1, hB, hc1, hc2, hr1⟩ := h
  have c0 := hB.cell 0
  simp at c0
  go_enter Try.func52, Try.ntmps52
  go_wp2
  go_ret
  exact ⟨rfl, rfl⟩
theorem ended_any (h : SWin w O a s) : Calls Try.prog 51 #[.pointer (some ⟨a, 0, none⟩)] w fun e w' => e = .returned (.bool s.ended) ∧ w = w' := by
  obtain ⟨h0, ha, A1, c1, hB, hc1, hc2, hr1⟩ := h
  have c0 := hB.cell 2
  simp at c0
  go_enter Try.func51, Try.ntmps51
  go_wp2
  go_ret
  exact ⟨rfl, rfl⟩
theorem broken_any (h : SWin w O a s) : Calls Try.prog 49 #[.pointer (some ⟨a, 0, none⟩)] w fun e w' => e = .returned (.bool s.broken) ∧ w = w' := by
  obtain ⟨h0, ha, A1, c1, hB, hc1, hc2, hr1⟩ := h
  have c0 := hB.cell 3
  simp at c0
  go_enter Try.func49, Try.ntmps49
  go_wp2
  go_ret
  exact ⟨rfl, rfl⟩
end

end Go.Proofs.Ytfkkaalchffgaaa
