/- A reader that is none, or that New did not make; FrameNone, walked. -/
import Derived.Test.YtpbgcjknhegnmaaDoorFawk
namespace Go.Proofs.YtpbgcjknhegnmaaDoor
open Go.RowKit Go.Ost

/-- None tells: true. -/
def IsNone (p : Option Addr) (w : World) : Prop := Calls Tryd.prog 31 #[.pointer p] w fun e w' => e = .returned (.bool true) ∧ w = w'

section
variable {w : World} {p : Option Addr}
theorem npush {A : Option Addr} {n c : Nat} (h : IsNone p w) : Calls Tryd.prog 23 #[.pointer p, .slice A n c] w fun e w' => e = .returned (.tuple #[.slice none 0 0, .int .i64 1]) ∧ w = w' := by
  go_enter Tryd.func23, Tryd.ntmps23
  go_wp2_with fail
  refine Calls.mono h ?_
  rintro e w' ⟨rfl, rfl⟩
  go_wp2
  go_ret2
  exact ⟨rfl, rfl⟩
theorem nleft (h : IsNone p w) : Calls Tryd.prog 25 #[.pointer p] w fun e w' => e = .returned (.int .i64 0) ∧ w = w' := by
  go_enter Tryd.func25, Tryd.ntmps25
  go_wp2_with fail
  refine Calls.mono h ?_
  rintro e w' ⟨rfl, rfl⟩
  go_wp2
  go_ret
  exact ⟨rfl, rfl⟩
theorem nwant (h : IsNone p w) : Calls Tryd.prog 26 #[.pointer p] w fun e w' => e = .returned (.int .i64 0) ∧ w = w' := by
  go_enter Tryd.func26, Tryd.ntmps26
  go_wp2_with fail
  refine Calls.mono h ?_
  rintro e w' ⟨rfl, rfl⟩
  go_wp2
  go_ret
  exact ⟨rfl, rfl⟩
theorem nbroken_nil : Calls Tryd.prog 28 #[.pointer none] w fun e w' => e = .returned (.bool false) ∧ w = w' := by
  go_enter Tryd.func28, Tryd.ntmps28
  go_wp2
  go_ret
  exact ⟨rfl, rfl⟩
theorem nbroken_zero {a : Nat} (hc : w.cell? ⟨a, 1, none⟩ = some (.bool false)) : Calls Tryd.prog 28 #[.pointer (some ⟨a, 0, none⟩)] w fun e w' => e = .returned (.bool false) ∧ w = w' := by
  have hnn : ∀ w, (binOp .neq 39 (.pointer (some ⟨a, 0, none⟩)) (.pointer none)).run Tryd.prog w = .ok (.bool true) w := fun w => by kernel_rfl
  go_enter Tryd.func28, Tryd.ntmps28
  go_wp2
  go_ret
  exact ⟨rfl, rfl⟩
end

set_option maxRecDepth 100000 in
set_option maxHeartbeats 4000000 in
theorem nonelaw_any {w : World} {A : Option Addr} {n c : Nat} : Calls Tryd.prog 6 #[.slice A n c] w fun e w' => e = .returned (.bool true) ∧ Fr No w w' := by
  by_cases h1 : 1000 < n
  · go_enter Tryd.func6, Tryd.ntmps6
    go_wp2_with fail
    refine (awake_any w).mono ?_
    rintro e w1 ⟨rfl, hf1⟩
    go_wp2
    go_ret
    exact ⟨rfl, hf1⟩
  · go_enter Tryd.func6, Tryd.ntmps6
    go_wp2
    have hB0 : Blk ((w.alloc (.cells #[.int .i64 0, .bool false, .slice none 0 0, .int .i64 0, .int .i8 0, .int .i64 0] 56)).alloc (.cells #[.pointer none, .pointer (some ⟨w.heap.size, 0, none⟩)] 39)) w.heap.size 56 #[.int .i64 0, .bool false, .slice none 0 0, .int .i64 0, .int .i8 0, .int .i64 0] := (Blk.new w _ _).alloc _
    have hB1 : Blk ((w.alloc (.cells #[.int .i64 0, .bool false, .slice none 0 0, .int .i64 0, .int .i8 0, .int .i64 0] 56)).alloc (.cells #[.pointer none, .pointer (some ⟨w.heap.size, 0, none⟩)] 39)) (w.heap.size + 1) 39 #[.pointer none, .pointer (some ⟨w.heap.size, 0, none⟩)] := by
      have := Blk.new (w.alloc (.cells #[.int .i64 0, .bool false, .slice none 0 0, .int .i64 0, .int .i8 0, .int .i64 0] 56)) 39 #[.pointer none, .pointer (some ⟨w.heap.size, 0, none⟩)]
      simpa using this
    have hf : Fr No w ((w.alloc (.cells #[.int .i64 0, .bool false, .slice none 0 0, .int .i64 0, .int .i8 0, .int .i64 0] 56)).alloc (.cells #[.pointer none, .pointer (some ⟨w.heap.size, 0, none⟩)] 39)) := ((Fr.refl No w).alloc _).alloc _
    generalize ((w.alloc (.cells #[.int .i64 0, .bool false, .slice none 0 0, .int .i64 0, .int .i8 0, .int .i64 0] 56)).alloc (.cells #[.pointer none, .pointer (some ⟨w.heap.size, 0, none⟩)] 39)) = W0 at hB0 hB1 hf
    generalize w.heap.size = a at hB0 hB1
    have c0 := hB0.cell 0
    have c1 := hB0.cell 1
    have d0 := hB1.cell 0
    have d1 := hB1.cell 1
    simp at c0 c1 d0 d1
    have hn0 : IsNone none W0 := none_nil
    have hn1 : IsNone (some ⟨a, 0, none⟩) W0 := none_zero c0
    have HF := hid hf
    have HN0 := hid hn0
    have HN1 := hid hn1
    have hla := hB0.lt
    have hlb := hB1.lt
    clear hB0 hB1 hf hn0 hn1
    go_loop [5] (fun i => ∃ k : Nat, k ≤ 2 ∧ i = .int .i64 k) (fun i => 2 - (intOf i).toNat)
    case atStart => exact ⟨0, by omega, rfl⟩
    case round =>
      obtain ⟨k, hk, rfl⟩ := hrel
      rcases (by omega : k = 0 ∨ k = 1 ∨ k = 2) with rfl | rfl | rfl
      · go_wp2_with fail
        refine (npush HN0.out).mono ?_
        rintro e w' ⟨rfl, rfl⟩
        go_wp2_with fail
        refine (nleft HN0.out).mono ?_
        rintro e w' ⟨rfl, rfl⟩
        go_wp2_with fail
        refine (nwant HN0.out).mono ?_
        rintro e w' ⟨rfl, rfl⟩
        go_wp2_with fail
        refine nbroken_nil.mono ?_
        rintro e w' ⟨rfl, rfl⟩
        go_wp2
        go_round
        case rel => exact ⟨1, by omega, by go_num⟩
        case measure => simp [intOf]
      · go_wp2_with fail
        refine (npush HN1.out).mono ?_
        rintro e w' ⟨rfl, rfl⟩
        go_wp2_with fail
        refine (nleft HN1.out).mono ?_
        rintro e w' ⟨rfl, rfl⟩
        go_wp2_with fail
        refine (nwant HN1.out).mono ?_
        rintro e w' ⟨rfl, rfl⟩
        go_wp2_with fail
        refine (nbroken_zero c1).mono ?_
        rintro e w' ⟨rfl, rfl⟩
        go_wp2
        go_round
        case rel => exact ⟨2, by omega, by go_num⟩
        case measure => simp [intOf]
      · go_wp2_with fail
        refine (awake_any W0).mono ?_
        rintro e w1 ⟨rfl, hf1⟩
        go_wp2
        go_ret
        exact ⟨rfl, HF.out.trans_no hf1⟩
end Go.Proofs.YtpbgcjknhegnmaaDoor
