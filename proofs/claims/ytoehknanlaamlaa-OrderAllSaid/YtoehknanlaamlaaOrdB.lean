/- The contracts of package order's New and Open. -/
import Derived.Test.YtoehknanlaamlaaOrdA
namespace Go.Proofs.Ytoehknanlaamlaa
open Go.RowKit Go.Ost

theorem new_bad (m : Int) (w : World) (h : m < 1 ∨ 64 < m) :
    Calls Try.prog 10 #[.int .i64 m] w fun e w' => e = .returned (.tuple #[.pointer none, .int .i64 2]) ∧ w = w' := by
  rcases h with h | h
  · go_enter Try.func10, Try.ntmps10
    go_wp2
    go_ret2
    exact ⟨rfl, rfl⟩
  · have h' : ¬ m < 1 := by omega
    go_enter Try.func10, Try.ntmps10
    go_wp2
    go_ret2
    exact ⟨rfl, rfl⟩

theorem new_ok (m : Int) (w : World) (h1 : 1 ≤ m) (h2 : m ≤ 64) :
    Calls Try.prog 10 #[.int .i64 m] w fun e w' => e = .returned (.tuple #[.pointer (some ⟨w.heap.size + 1, 0, none⟩), .int .i64 0]) ∧
      w' = (w.alloc (.map #[] 0)).alloc (.cells #[.int .i64 m, .int .i64 1, .int .i64 1, .map (some w.heap.size)] 53) := by
  have hmm := @run_makeMap Try.prog
  have h1' : ¬ m < 1 := by omega
  have h2' : ¬ 64 < m := by omega
  go_enter Try.func10, Try.ntmps10
  go_wp2
  go_ret2
  exact ⟨rfl, rfl⟩

section
variable {w : World} {a r : Nat} {m f n : Int}
theorem open_full (h : WinS w a m f n r) (hm : 1 ≤ m) (hf : Fits f n) (hx : m ≤ n - f) :
    Calls Try.prog 11 #[.pointer (some ⟨a, 0, none⟩)] w fun e w' => e = .returned (.tuple #[.int .i64 0, .int .i64 8]) ∧ ∃ k, w' = w.drewN k := by
  have h0 := h.c0
  go_enter Try.func11, Try.ntmps11
  go_wp2_with (go_at_call 26; refine (none_no h hm).mono ?_; rintro e w' ⟨rfl, rfl⟩)
  go_quiet ((go_at_call 15; exact Calls.quiet_of (len_any (w := w.drewN _) h hm hf)))
  go_wp2
  go_ret2
  exact ⟨rfl, _, rfl⟩

theorem open_ok (h : WinS w a m f n r) (hm : 1 ≤ m) (hf : Fits f n) (hx : n - f < m) :
    Calls Try.prog 11 #[.pointer (some ⟨a, 0, none⟩)] w fun e w' => e = .returned (.tuple #[.int .i64 n, .int .i64 0]) ∧ ∃ k, w' = (w.drewN k).setCell ⟨a, 2, none⟩ (.int .i64 (n + 1)) := by
  have h0 := h.c0
  have h2 := h.c2
  have h2f := Blk.frozen h 2
  have hf' := hf
  obtain ⟨f0, f1, f2⟩ := hf'
  go_enter Try.func11, Try.ntmps11
  go_wp2_with (go_at_call 26; refine (none_no h hm).mono ?_; rintro e w' ⟨rfl, rfl⟩)
  go_quiet ((go_at_call 15; exact Calls.quiet_of (len_any (w := w.drewN _) h hm hf)))
  go_wp2
  go_ret2
  exact ⟨rfl, _, rfl⟩

theorem WinS.fr {w' : World} {S : Nat → Prop} (h : WinS w a m f n r) (hf : Fr S w w') (ha : ¬ S a) : WinS w' a m f n r := Blk.fr h hf ha
theorem WinS.opened (h : WinS w a m f n r) (k : Nat) (x : Int) : WinS ((w.drewN k).setCell ⟨a, 2, none⟩ (.int .i64 x)) a m f x r := (Blk.drewN h k).set_ 2 _
end
end Go.Proofs.Ytoehknanlaamlaa
