/- octet.at: the byte at a place; where there is none, the panic is recovered and ErrBytes handed back. -/
import Derived.Test.YtfkkaalchffgaaaKit
import Derived.Test.YtfkkaalchffgaaaSlice
import Derived.Tactics
import Derived.Tactics2
import Derived.Defers
import Derived.Recover
import Derived.Laws.Pointers
import Derived.Laws.Panics
namespace Go.Proofs.Ytfkkaalchffgaaa
open Go.RowKit Go.Ost

theorem rt_bounds : Try.prog.rt.boundsError = 8 := by kernel_rfl
theorem bounds_panic {α : Type} {P : Program} {w : World} (k : IntKind) (x y : Int) (code : BoundsCode) :
    ∃ s q, (boundsPanic k x y code : Sem α).run P w = .halt (.panic (boundsValue P (IntKind.i64.wrap x) y s code.toNat)) (w.drewN q) := by
  unfold boundsPanic boundsValue
  split
  · exact ⟨_, 1, by simp [runtimePanic, goPanic, go_sem]; exact ⟨rfl, rfl⟩⟩
  · exact ⟨_, 0, by simp [runtimePanic, goPanic, go_sem]; exact ⟨rfl, rfl⟩⟩
theorem index_out {w : World} (a0 : Option Addr) (len cap : Nat) (i : Nat) (hnil : a0 = none → len = 0) (ho : len ≤ i) :
    ∃ pv q, (Instr.indexAt 28 (.slice a0 len cap) (.int .i64 (i : Int))).run Try.prog w = .halt (.panic (.iface 8 pv)) (w.drewN q) := by
  have h := Try.underlying28
  have fin : ∀ s q, ∃ pv q', (Result.halt (.panic (boundsValue Try.prog (IntKind.i64.wrap (i : Int)) len s 0)) (w.drewN q) : Result Value) = .halt (.panic (.iface 8 pv)) (w.drewN q') := fun s q => ⟨.agg #[.int .i64 (IntKind.i64.wrap (i : Int)), .int .i64 len,   .bool s, .int .u8 ((0 : Nat) : Int)], q, by unfold boundsValue; rw [rt_bounds]⟩
  cases a0 with
  | some a =>
    rw [run_indexAt_slice (h := h), if_neg (by omega)]
    obtain ⟨s, q, e⟩ := bounds_panic (P := Try.prog) (w := w) (α := Value) .i64 (i : Int) len .index
    rw [e]
    exact fin s q
  | none =>
    obtain rfl := hnil rfl
    have e : (Instr.indexAt 28 (.slice none 0 cap) (.int .i64 (i : Int))).run Try.prog w = (boundsPanic .i64 (i : Int) 0 .index).run Try.prog w := by
      simp [Instr.indexAt, run_underlying h, asIntOf]
    rw [e]
    obtain ⟨s, q, e⟩ := bounds_panic (P := Try.prog) (w := w) (α := Value) .i64 (i : Int) 0 .index
    rw [e]
    exact fin s q

theorem asserts (pv : Value) (w : World) : (Instr.typeAssert (.iface 8 pv) 20 101 true).run Try.prog w = .ok (.tuple #[.iface 8 pv, .bool true]) w := by kernel_rfl

set_option maxHeartbeats 4000000 in
theorem catch_panicking (p : Addr) (x : Int) (pv : Value) (older : List PanicEntry) (w : World) (hc : w.cell? p = some (.int .i64 x)) (hz : w.frozen? p = false) :
    CallsD Try.prog 66 #[.pointer (some p)] (.panicking ({ v := .iface 8 pv, recovered := false } :: older)) w fun e u' w' =>
      e = .returned (.tuple #[]) ∧ u' = .panicking ({ v := .iface 8 pv, recovered := true } :: older) ∧ w' = w.setCell p (.int .i64 4) := by
  refine callsD_of_wpS Try.func66 rfl fun c₀ cs hu => ?_
  have hta := asserts pv
  apply wpS_seq
  apply wpS_region
  simp [wpOpsS, go_sem, recoverD, hu, Try.ntmps66, Exit.thenS]
  refine wpS_of_wp ?_
  have et : #[Value.pointer (some p)] ++ ((Array.replicate 13 undef).setIfInBounds 3 (Value.iface 8 pv)).setIfInBounds 0 (Value.iface 8 pv) =
      #[.pointer (some p), .iface 8 pv, undef, undef, .iface 8 pv, undef, undef, undef, undef, undef, undef, undef, undef, undef] := by rfl
  rw [et]
  clear et
  go_wp2
  simp [bodyPostS, results, Try.results66]

theorem asserts_nil (w : World) : (Instr.typeAssert .nilIface 20 101 true).run Try.prog w = .ok (.tuple #[.nilIface, .bool false]) w := by kernel_rfl
theorem nil_eq (w : World) : (binOp .neq 20 .nilIface .nilIface).run Try.prog w = .ok (.bool false) w := by rfl

set_option maxHeartbeats 4000000 in
theorem catch_idle (p : Addr) (w : World) :
    CallsD Try.prog 66 #[.pointer (some p)] .returning w fun e u' w' => e = .returned (.tuple #[]) ∧ u' = .returning ∧ w' = w := by
  refine callsD_of_wpS Try.func66 rfl fun c₀ cs hu => ?_
  have hta := asserts_nil
  have hne := nil_eq
  apply wpS_seq
  apply wpS_region
  simp [wpOpsS, go_sem, recoverD, hu, Try.ntmps66, Exit.thenS]
  refine wpS_of_wp ?_
  have et : #[Value.pointer (some p)] ++ ((Array.replicate 13 undef).setIfInBounds 3 Value.nilIface).setIfInBounds 0 Value.nilIface =
      #[.pointer (some p), .nilIface, undef, undef, .nilIface, undef, undef, undef, undef, undef, undef, undef, undef, undef] := by rfl
  rw [et]
  clear et
  go_wp2
  cases c₀
  simp_all [bodyPostS, results, Try.results66]

set_option maxHeartbeats 4000000 in
theorem at_in {w : World} {b o n c i : Nat} {x : UInt8} (hc : w.cell? ⟨b, o + i, none⟩ = some (bv x)) (hi : i < n) :
    Calls Try.prog 65 #[.slice (some ⟨b, o, none⟩) n c, .int .i64 i] w fun e w' => e = .returned (.tuple #[bv x, .int .i64 0]) ∧ Fr No w w' := by
  have hmf : ∀ (fn : Fn) (first cap : Array Value) (w : World), (Instr.makeFunc fn first cap).run Try.prog w = .ok (.func fn first cap) w := fun _ _ _ _ => rfl
  unfold bv at hc ⊢
  have hca : ∀ (ob : Obj), (w.alloc ob).cell? ⟨b, o + i, none⟩ = some (.int .u8 (x.toNat : Int)) := fun ob => (World.cell?_alloc_lt _ _ ⟨b, o + i, none⟩ (block_lt_of_cell hc)).trans hc
  go_enter_defers Try.func65, Try.ntmps65
  go_wp2
  refine leaves_cons (f := 66) (args := #[.pointer (some ⟨w.heap.size, 0, none⟩)]) (by simp) (by simp [go_sem]) ?_
  refine (catch_idle ⟨w.heap.size, 0, none⟩ _).mono ?_
  rintro e u' w'' ⟨rfl, rfl, rfl⟩
  simp [Leaves, settle, results, Try.results65, go_sem]
  exact (Fr.refl _ _).alloc _

set_option maxHeartbeats 4000000 in
theorem at_out {w : World} {A : Option Addr} {n c i : Nat} (hi : n ≤ i) (hnil : A = none → n = 0) :
    Calls Try.prog 65 #[.slice A n c, .int .i64 i] w fun e w' => e = .returned (.tuple #[.int .u8 0, .int .i64 4]) ∧ Fr No w w' := by
  have hmf : ∀ (fn : Fn) (first cap : Array Value) (w : World), (Instr.makeFunc fn first cap).run Try.prog w = .ok (.func fn first cap) w := fun _ _ _ _ => rfl
  go_enter_defers Try.func65, Try.ntmps65
  obtain ⟨pv, q, hout⟩ := index_out (w := w.alloc (.cells #[.int .i64 0] 31)) A n c i hnil hi
  go_wp2
  refine leaves_cons (f := 66) (args := #[.pointer (some ⟨w.heap.size, 0, none⟩)]) (by simp) (by simp [go_sem]) ?_
  have hB := Blk.drewN (Blk.new w 31 #[.int .i64 0]) q
  have hc : ((w.alloc (.cells #[.int .i64 0] 31)).drewN q).cell? ⟨w.heap.size, 0, none⟩ = some (.int .i64 0) := by rw [hB.cell]; rfl
  refine (catch_panicking ⟨w.heap.size, 0, none⟩ 0 pv [] _ hc (hB.frozen 0)).mono ?_
  rintro e u' w'' ⟨rfl, rfl, rfl⟩
  simp [Leaves, settle, results, Try.results65, go_sem]
  exact ((((Fr.refl _ _).alloc _).drewN q).setCell (p := ⟨w.heap.size, 0, none⟩) (.inr (Nat.le_refl _)) _)
end Go.Proofs.Ytfkkaalchffgaaa
