/- OrderNone: a window that is none, or that New did not make, answers nothing; walked, for every number and every slice of bytes. -/
import Derived.Test.YtoehknanlaamlaaOrdF
namespace Go.Proofs.Ytoehknanlaamlaa
open Go.RowKit Go.Ost

/-- No window: nil, or a struct whose maximum is 0. -/
def Bad (w : World) (q : Option Addr) : Prop := q = none ∨ ∃ a, q = some ⟨a, 0, none⟩ ∧ w.cell? ⟨a, 0, none⟩ = some (.int .i64 0)

section
variable {w : World} {q : Option Addr}
theorem none_bad (h : Bad w q) : Calls Try.prog 26 #[.pointer q] w fun e w' => e = .returned (.bool true) ∧ w = w' := by
  rcases h with rfl | ⟨a, rfl, h⟩
  · exact none_nil w
  · exact none_any 0 w h
theorem open_bad (h : Bad w q) : Calls Try.prog 11 #[.pointer q] w fun e w' => e = .returned (.tuple #[.int .i64 0, .int .i64 1]) ∧ w = w' := by
  have H := hid h
  clear h
  go_enter Try.func11, Try.ntmps11
  go_wp2_with (go_at_call 26; refine (none_bad H.out).mono ?_; rintro e w' ⟨rfl, rfl⟩)
  go_ret2
  exact ⟨rfl, rfl⟩
theorem done_bad (h : Bad w q) (n : Int) (v : Value) : Calls Try.prog 12 #[.pointer q, .int .i64 n, v] w fun e w' => e = .returned (.tuple #[.slice none 0 0, .int .i64 1]) ∧ w = w' := by
  have H := hid h
  clear h
  go_enter Try.func12, Try.ntmps12
  go_wp2_with (go_at_call 26; refine (none_bad H.out).mono ?_; rintro e w' ⟨rfl, rfl⟩)
  go_ret2
  exact ⟨rfl, rfl⟩
theorem len_bad (h : Bad w q) : Calls Try.prog 15 #[.pointer q] w fun e w' => e = .returned (.int .i64 0) ∧ w = w' := by
  have H := hid h
  clear h
  go_enter Try.func15, Try.ntmps15
  go_wp2_with (go_at_call 26; refine (none_bad H.out).mono ?_; rintro e w' ⟨rfl, rfl⟩)
  go_ret
  exact ⟨rfl, rfl⟩
theorem first_bad (h : Bad w q) : Calls Try.prog 13 #[.pointer q] w fun e w' => e = .returned (.int .i64 0) ∧ w = w' := by
  have H := hid h
  clear h
  go_enter Try.func13, Try.ntmps13
  go_wp2_with (go_at_call 26; refine (none_bad H.out).mono ?_; rintro e w' ⟨rfl, rfl⟩)
  go_ret
  exact ⟨rfl, rfl⟩
theorem ready_bad (h : Bad w q) : Calls Try.prog 24 #[.pointer q] w fun e w' => e = .returned (.int .i64 0) ∧ w = w' := by
  have H := hid h
  clear h
  go_enter Try.func24, Try.ntmps24
  go_wp2_with (go_at_call 26; refine (none_bad H.out).mono ?_; rintro e w' ⟨rfl, rfl⟩)
  go_ret
  exact ⟨rfl, rfl⟩
end

/-- The two windows of the law, and the list that holds them. -/
structure NoneI (w wr : World) : Prop where
  fr : Fr No w wr
  c0 : wr.cell? ⟨w.heap.size + 1, 0, none⟩ = some (.pointer none)
  c1 : wr.cell? ⟨w.heap.size + 1, 1, none⟩ = some (.pointer (some ⟨w.heap.size, 0, none⟩))
  bad : Bad wr (some ⟨w.heap.size, 0, none⟩)
theorem noneI (w : World) (x y z : Value) (t v : TypeId) : NoneI w ((w.alloc (.cells #[.int .i64 0, x, y, z] t)).alloc (.cells #[.pointer none, .pointer (some ⟨w.heap.size, 0, none⟩)] v)) := by
  have b1 := Blk.new (w.alloc (.cells #[.int .i64 0, x, y, z] t)) v #[.pointer none, .pointer (some ⟨w.heap.size, 0, none⟩)]
  have b0 := (Blk.new w t #[.int .i64 0, x, y, z]).alloc (.cells #[.pointer none, .pointer (some ⟨w.heap.size, 0, none⟩)] v)
  simp only [World.size_alloc] at b1
  exact ⟨((Fr.refl _ _).alloc _).alloc _, b1.cell 0, b1.cell 1, .inr ⟨_, rfl, b0.cell 0⟩⟩

set_option maxHeartbeats 1000000 in
theorem nones_any {w : World} {A : Option Addr} {n c : Nat} (x : Int) :
    Calls Try.prog 5 #[.int .i64 x, .slice A n c] w fun e w' => e = .returned (.bool true) ∧ Fr No w w' := by
  by_cases hlong : 1000 < n
  · go_enter Try.func5, Try.ntmps5
    go_wp2_with fail
    refine (awake_any w).mono ?_
    rintro e w1 ⟨rfl, f1⟩
    go_wp2_with fail
    go_ret
    exact ⟨rfl, f1⟩
  · go_enter Try.func5, Try.ntmps5
    go_wp2_with fail
    go_loopw [7] (fun i wr => ∃ k : Nat, k ≤ 2 ∧ i = .int .i64 k ∧ NoneI w wr) (fun i _ => 2 - (intOf i).toNat)
    case atStart => exact ⟨0, by omega, rfl, noneI w _ _ _ _ _⟩
    case round =>
      obtain ⟨k, hk, rfl, HI⟩ := hrel
      by_cases h2 : k = 2
      · subst h2
        go_wp2_with fail
        refine (awake_any wr).mono ?_
        rintro e w1 ⟨rfl, f1⟩
        go_wp2_with fail
        go_ret
        exact ⟨rfl, HI.fr.trans_no f1⟩
      · by_cases h0 : k = 0
        · subst h0
          have HB : Bad wr none := .inl rfl
          have c0 := HI.c0
          go_wp2_with (first | (go_at_call 11; refine (open_bad HB).mono ?_; rintro e w' ⟨rfl, rfl⟩) | (go_at_call 12; refine (done_bad HB _ _).mono ?_; rintro e w' ⟨rfl, rfl⟩) | (go_at_call 15; refine (len_bad HB).mono ?_; rintro e w' ⟨rfl, rfl⟩) | (go_at_call 13; refine (first_bad HB).mono ?_; rintro e w' ⟨rfl, rfl⟩) | (go_at_call 24; refine (ready_bad HB).mono ?_; rintro e w' ⟨rfl, rfl⟩))
          go_roundw
          case rel => exact ⟨1, by omega, by go_num, HI⟩
          case measure => simp [intOf]
        · obtain rfl : k = 1 := by omega
          have HB := HI.bad
          have c1 := HI.c1
          go_wp2_with (first | (go_at_call 11; refine (open_bad HB).mono ?_; rintro e w' ⟨rfl, rfl⟩) | (go_at_call 12; refine (done_bad HB _ _).mono ?_; rintro e w' ⟨rfl, rfl⟩) | (go_at_call 15; refine (len_bad HB).mono ?_; rintro e w' ⟨rfl, rfl⟩) | (go_at_call 13; refine (first_bad HB).mono ?_; rintro e w' ⟨rfl, rfl⟩) | (go_at_call 24; refine (ready_bad HB).mono ?_; rintro e w' ⟨rfl, rfl⟩))
          go_roundw
          case rel => exact ⟨2, by omega, by go_num, HI⟩
          case measure => simp [intOf]
end Go.Proofs.Ytoehknanlaamlaa
