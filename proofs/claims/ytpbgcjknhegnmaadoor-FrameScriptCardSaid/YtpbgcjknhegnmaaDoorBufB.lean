/- bytes.growSlice: a new row with the old bytes and room for more. -/
import Derived.Test.YtpbgcjknhegnmaaDoorBufA
import Derived.Test.YtpbgcjknhegnmaaDoorLent
import Derived.Lib.AppendZeros
import Derived.Tactics
import Derived.Tactics2
import Derived.Defers
import Derived.Recover
namespace Go.Proofs.YtpbgcjknhegnmaaDoor
open Go.RowKit Go.Ost

theorem nil_neq (w : World) : (binOp .neq 20 .nilIface .nilIface).run Tryd.prog w = .ok (.bool false) w := by rfl

set_option maxHeartbeats 4000000 in
theorem grow_catch (w : World) :
    CallsD Tryd.prog 44 #[] .returning w fun e u' w' => e = .returned (.tuple #[]) ∧ u' = .returning ∧ w' = w := by
  refine callsD_of_wpS Tryd.func44 rfl fun c₀ cs hu => ?_
  have hne := nil_neq
  apply wpS_seq
  apply wpS_region
  simp [wpOpsS, go_sem, recoverD, hu, Tryd.ntmps44, Exit.thenS]
  refine wpS_cond (t := false) (by simp [Act.eval, Array.replicate]) ?_
  simp only [Bool.false_eq_true, if_false]
  refine wpS_of_wp (wp_skip ?_)
  cases c₀
  simp_all [bodyPostS, results, Tryd.results44]

/-- What growSlice hands back. -/
def GrowSR (w : World) (bs : List UInt8) (k : Nat) (e : Ending) (w' : World) : Prop :=
  ∃ cap, e = .returned (.slice (some ⟨w.heap.size, 0, none⟩) bs.length cap) ∧ Ost.Own w' (fun y => y = w.heap.size) 5 Byte (some ⟨w.heap.size, 0, none⟩) bs.length cap (bs.map bv) ∧ bs.length + k ≤ cap ∧ cap ≤ maxLen ∧ Fr No w w'

set_option maxHeartbeats 4000000 in
theorem grow_slice {w : World} {O2 : Nat → Prop} {A : Option Addr} {c k : Nat} {bs : List UInt8} (hr : RdB w O2 A bs.length bs) (hk : 1 ≤ k) (hn : bs.length + k ≤ 1000000000) (hc : c ≤ 1000000000) (hnc : bs.length ≤ c) :
    Calls Tryd.prog 43 #[.slice A bs.length c, .int .i64 k] w (GrowSR w bs k) := by
  obtain ⟨i0, hi, hz0, hz1, hz2⟩ := info_parts info_u8
  obtain ⟨n, hnn⟩ : ∃ n, n = bs.length := ⟨_, rfl⟩
  by_cases hC : n + k < 2 * c
  · have happ := Lib.run_append_nil_zeros (P := Tryd.prog) w 22 3 22 5 i0 (.int .u8 0) .i64 .i64 Tryd.underlying22 Tryd.underlying3 hi hz0 (2 * c) (by omega) (by omega) (by omega) (by rw [hz2]; omega)
    rw [show (((2 * c : Nat)) : Int) = 2 * (c : Int) by omega] at happ
    generalize hcap : grownCap w (2 * c) 0 5 = cap2 at happ
    have hcapge : 2 * c ≤ cap2 := by rw [← hcap]; exact grownCap_ge w _ 0 5
    have hcaple : cap2 ≤ maxLen := by rw [← hcap]; exact grownCap_le_maxLen w _ 0 5 (by unfold maxLen; omega)
    have hZb : ∀ v ∈ (Builtin.zeroCells (Value.int .u8 0).cells (2 * c) ++ Builtin.zeroCells (Value.int .u8 0).cells (cap2 - (2 * c))).toList, Byte v := by
      intro v hv
      rw [Array.toList_append, List.mem_append] at hv
      rcases hv with hv | hv <;> exact zero_mem byte_zero v hv
    generalize hZ : (Builtin.zeroCells (Value.int .u8 0).cells (2 * c) ++ Builtin.zeroCells (Value.int .u8 0).cells (cap2 - (2 * c))) = Z at happ hZb
    have hZs : Z.size = cap2 := by rw [← hZ]; simp [size_zeroCells, Value.cells]; omega
    clear hcap hZ
    have hBn : Blk (w.alloc (.cells Z 5)).drew w.heap.size 5 Z.toList.toArray := by simpa using (Blk.new w 5 Z).drew
    have hsrc : RdB (w.alloc (.cells Z 5)).drew O2 A bs.length bs := Rd.alloc hr _
    obtain ⟨w2, hcopy, hB2, hF2⟩ := run_cp (P := Tryd.prog) 22 22 3 5 Tryd.underlying22 size_u8 hBn hsrc (bv_all _) (d := 2 * c) (dc := cap2) (sc := c) (by omega) (by simp; omega)
    have HN := hid hnn
    have hcapb : cap2 ≤ 9223372036854775807 := by unfold maxLen at hcaple; omega
    rw [← hnn] at hcopy hn hnc hB2 ⊢
    clear hr hsrc hnn
    go_enter_defers Tryd.func43, Tryd.ntmps43
    go_wp2_with (at_builtin; refine Lib.wpList_append_run _ rfl _ _ _ _ rfl _ _ rfl rfl _ _ happ ?_)
    refine leaves_cons (f := 44) (args := #[]) (by simp) (by simp [go_sem]) ?_
    refine (grow_catch _).mono ?_
    rintro e u' w'' ⟨rfl, rfl, rfl⟩
    simp [Leaves, settle, results, Tryd.results43, go_sem]
    have hnn := HN.out
    subst hnn
    refine ⟨cap2, rfl, ⟨by simp, .inr ⟨w.heap.size, Z.toList.drop bs.length, rfl, rfl, hB2, by simp; omega, fun v hv => hZb v (List.mem_of_mem_drop hv)⟩⟩, by omega, hcaple, ?_⟩
    exact ((Fr.refl No w).alloc (.cells Z 5)).drew.trans_new hF2 (fun y hy => .inr (Nat.le_of_eq hy.symm))
  · have happ := Lib.run_append_nil_zeros (P := Tryd.prog) w 22 3 22 5 i0 (.int .u8 0) .i64 .i64 Tryd.underlying22 Tryd.underlying3 hi hz0 (n + k) (by omega) (by omega) (by omega) (by rw [hz2]; omega)
    rw [show (((n + k : Nat)) : Int) = (n : Int) + (k : Int) by omega] at happ
    generalize hcap : grownCap w (n + k) 0 5 = cap2 at happ
    have hcapge : n + k ≤ cap2 := by rw [← hcap]; exact grownCap_ge w _ 0 5
    have hcaple : cap2 ≤ maxLen := by rw [← hcap]; exact grownCap_le_maxLen w _ 0 5 (by unfold maxLen; omega)
    have hZb : ∀ v ∈ (Builtin.zeroCells (Value.int .u8 0).cells (n + k) ++ Builtin.zeroCells (Value.int .u8 0).cells (cap2 - (n + k))).toList, Byte v := by
      intro v hv
      rw [Array.toList_append, List.mem_append] at hv
      rcases hv with hv | hv <;> exact zero_mem byte_zero v hv
    generalize hZ : (Builtin.zeroCells (Value.int .u8 0).cells (n + k) ++ Builtin.zeroCells (Value.int .u8 0).cells (cap2 - (n + k))) = Z at happ hZb
    have hZs : Z.size = cap2 := by rw [← hZ]; simp [size_zeroCells, Value.cells]; omega
    clear hcap hZ
    have hBn : Blk (w.alloc (.cells Z 5)).drew w.heap.size 5 Z.toList.toArray := by simpa using (Blk.new w 5 Z).drew
    have hsrc : RdB (w.alloc (.cells Z 5)).drew O2 A bs.length bs := Rd.alloc hr _
    obtain ⟨w2, hcopy, hB2, hF2⟩ := run_cp (P := Tryd.prog) 22 22 3 5 Tryd.underlying22 size_u8 hBn hsrc (bv_all _) (d := n + k) (dc := cap2) (sc := c) (by omega) (by simp; omega)
    have HN := hid hnn
    have hcapb : cap2 ≤ 9223372036854775807 := by unfold maxLen at hcaple; omega
    rw [← hnn] at hcopy hn hnc hB2 ⊢
    clear hr hsrc hnn
    go_enter_defers Tryd.func43, Tryd.ntmps43
    go_wp2_with (at_builtin; refine Lib.wpList_append_run _ rfl _ _ _ _ rfl _ _ rfl rfl _ _ happ ?_)
    refine leaves_cons (f := 44) (args := #[]) (by simp) (by simp [go_sem]) ?_
    refine (grow_catch _).mono ?_
    rintro e u' w'' ⟨rfl, rfl, rfl⟩
    simp [Leaves, settle, results, Tryd.results43, go_sem]
    have hnn := HN.out
    subst hnn
    refine ⟨cap2, rfl, ⟨by simp, .inr ⟨w.heap.size, Z.toList.drop bs.length, rfl, rfl, hB2, by simp; omega, fun v hv => hZb v (List.mem_of_mem_drop hv)⟩⟩, by omega, hcaple, ?_⟩
    exact ((Fr.refl No w).alloc (.cells Z 5)).drew.trans_new hF2 (fun y hy => .inr (Nat.le_of_eq hy.symm))
end Go.Proofs.YtpbgcjknhegnmaaDoor
