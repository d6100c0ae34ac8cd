/- The contracts of package order's functions that only read or open: (*Window).none, Len, First, Ready, New, Open. -/
import Derived.Test.YtoehknanlaamlaaKit
import Derived.Test.YtoehknanlaamlaaMap
namespace Go.Proofs.Ytoehknanlaamlaa
open Go.RowKit Go.Ost

/-- The struct of a window at block a. -/
def WinS (w : World) (a : Nat) (m f n : Int) (r : Nat) : Prop := Blk w a 53 #[.int .i64 m, .int .i64 f, .int .i64 n, .map (some r)]

section
variable {w : World} {a r : Nat} {m f n : Int}
theorem WinS.c0 (h : WinS w a m f n r) : w.cell? ⟨a, 0, none⟩ = some (.int .i64 m) := Blk.cell h 0
theorem WinS.c1 (h : WinS w a m f n r) : w.cell? ⟨a, 1, none⟩ = some (.int .i64 f) := Blk.cell h 1
theorem WinS.c2 (h : WinS w a m f n r) : w.cell? ⟨a, 2, none⟩ = some (.int .i64 n) := Blk.cell h 2
theorem WinS.c3 (h : WinS w a m f n r) : w.cell? ⟨a, 3, none⟩ = some (.map (some r)) := Blk.cell h 3

theorem none_nil (w : World) : Calls Try.prog 26 #[.pointer none] w fun e w' => e = .returned (.bool true) ∧ w = w' := by
  go_enter Try.func26, Try.ntmps26
  go_wp2
  go_ret
  exact ⟨rfl, rfl⟩
theorem none_any (m : Int) (w : World) (h : w.cell? ⟨a, 0, none⟩ = some (.int .i64 m)) :
    Calls Try.prog 26 #[.pointer (some ⟨a, 0, none⟩)] w fun e w' => e = .returned (.bool (m == 0)) ∧ w = w' := by
  go_enter Try.func26, Try.ntmps26
  go_wp2
  go_ret
  exact ⟨rfl, rfl⟩
theorem none_no (h : WinS w a m f n r) (hm : 1 ≤ m) :
    Calls Try.prog 26 #[.pointer (some ⟨a, 0, none⟩)] w fun e w' => e = .returned (.bool false) ∧ w = w' := by
  have h0 := none_any m w h.c0
  rwa [show (m == 0) = false from beq_eq_false_iff_ne.2 (by omega)] at h0

/-- A bound that no counter passes. -/
def Fits (f n : Int) : Prop := 0 ≤ f ∧ f ≤ n ∧ n < 4611686018427387904

theorem len_any (h : WinS w a m f n r) (hm : 1 ≤ m) (hf : Fits f n) :
    Calls Try.prog 15 #[.pointer (some ⟨a, 0, none⟩)] w fun e w' => e = .returned (.int .i64 (n - f)) ∧ ∃ k, w' = w.drewN k := by
  obtain ⟨f0, f1, f2⟩ := hf
  have h1 := h.c1
  have h2 := h.c2
  have hn := none_no h hm
  go_enter Try.func15, Try.ntmps15
  go_wp2_with (go_at_call 26; refine (none_no h hm).mono ?_; rintro e w' ⟨rfl, rfl⟩)
  go_quiet (fail)
  go_wp2
  go_ret
  exact ⟨rfl, _, rfl⟩

theorem first_any (h : WinS w a m f n r) (hm : 1 ≤ m) (hf : Fits f n) :
    Calls Try.prog 13 #[.pointer (some ⟨a, 0, none⟩)] w fun e w' => e = .returned (.int .i64 (bif n - f == 0 then 0 else f)) ∧ ∃ k, w' = w.drewN k := by
  have h1 := h.c1
  have hn := none_no h hm
  cases hz : (n - f == 0)
  all_goals
    have HZ := hid hz
    clear hz
    go_enter Try.func13, Try.ntmps13
    go_wp2_with (first | (go_at_call 26; refine (none_no h hm).mono ?_; rintro e w' ⟨rfl, rfl⟩) | (go_at_call 15; refine (len_any h hm hf).mono ?_; rintro e w' ⟨rfl, k, rfl⟩; have hz := HZ.out))
    go_ret
    exact ⟨rfl, _, rfl⟩

theorem ready_any {es : List (Int × Value)} (h : WinS w a m f n r) (hm : 1 ≤ m) (he : MapI w r es) :
    Calls Try.prog 24 #[.pointer (some ⟨a, 0, none⟩)] w fun e w' => e = .returned (.int .i64 es.length) ∧ w = w' := by
  have h3 := h.c3
  have hn := none_no h hm
  have hl := fun ty => he.len (P := Try.prog) Try.underlying51 ty
  go_enter Try.func24, Try.ntmps24
  go_wp2_with (go_at_call 26; refine (none_no h hm).mono ?_; rintro e w' ⟨rfl, rfl⟩)
  go_ret
  exact ⟨rfl, rfl⟩
end
end Go.Proofs.Ytoehknanlaamlaa
