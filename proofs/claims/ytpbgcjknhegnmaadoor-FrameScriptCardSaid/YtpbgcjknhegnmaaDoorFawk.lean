/- The law's awake. -/
import Derived.Test.YtpbgcjknhegnmaaDoorFpush
import Derived.Test.YtpbgcjknhegnmaaDoorFput
namespace Go.Proofs.YtpbgcjknhegnmaaDoor
open Go.RowKit Go.Ost

/-- A row of literal bytes in a new block. -/
theorem rdb_new (w : World) (bs : List UInt8) (t : TypeId) : RdB (w.alloc (.cells (bs.map bv).toArray t)) (fun b => b = w.heap.size) (some ⟨w.heap.size, 0, none⟩) bs.length bs :=
  ⟨by simp, fun _ => ⟨_, _, rfl, rfl, fun j u hu => by rw [Nat.zero_add, (Blk.new w t _).cell]; simpa using hu⟩⟩

def tw : List UInt8 := [1, 2, 3, 4, 5, 6, 7, 8, 9, 10, 11, 12]
theorem twelve_any (w : World) : Calls Tryd.prog 29 #[] w fun e w' => e = .returned (.slice (some ⟨w.heap.size, 0, none⟩) 12 12) ∧ RdB w' (fun b => b = w.heap.size) (some ⟨w.heap.size, 0, none⟩) 12 tw ∧ Fr No w w' := by
  go_enter Tryd.func29, Tryd.ntmps29
  go_wp2
  go_ret
  exact ⟨rfl, rdb_new w tw 5, (Fr.refl No w).alloc _⟩

def tw14 : List UInt8 := [0, 12, 1, 2, 3, 4, 5, 6, 7, 8, 9, 10, 11, 12]
theorem frame_tw : frameOf tw = (tw14, 0) := by decide
/-- The frame of twelve bytes. -/
theorem put_tw {w : World} {O : Nat → Prop} {A : Option Addr} {c : Nat} (h : RdB w O A 12 tw) : Calls Tryd.prog 11 #[.slice A 12 c] w fun e w' =>
    ∃ b c', e = .returned (.tuple #[.slice (some ⟨b, 0, none⟩) 14 c', .int .i64 0]) ∧ Ost.Own w' (fun y => y = b) 5 Byte (some ⟨b, 0, none⟩) 14 c' (tw14.map bv) ∧ w.heap.size ≤ b ∧ c' ≤ maxLen ∧ Fr No w w' := by
  refine (fput_any (c := c) h (by omega)).mono ?_
  rw [frame_tw]
  rintro e w2 ⟨A2, c2, rfl, hown2, hc2, hf2⟩
  have hl : tw14.length = 14 := rfl
  rw [hl] at hown2
  obtain ⟨h1, ⟨_, h0, _⟩ | ⟨b, ts, rfl, hb, hB, htl, hts⟩⟩ := hown2
  · cases h0
  · exact ⟨b, c2, rfl, ⟨h1, .inr ⟨b, ts, rfl, rfl, hB, htl, hts⟩⟩, hb, hc2, hf2⟩
theorem push_tw : FC.push ⟨12, false, 0, []⟩ [0, 12, 1] = ([], 0, ⟨12, false, 0, [0, 12, 1]⟩) := by rfl
theorem want_tw : FC.want ⟨12, false, 0, [0, 12, 1]⟩ = 11 := by rfl
theorem ptr_ne (a : Addr) (w : World) : (binOp .eql 39 (.pointer (some a)) (.pointer none)).run Tryd.prog w = .ok (.bool false) w := by kernel_rfl

set_option maxHeartbeats 4000000 in
theorem awake_any (w : World) : Calls Tryd.prog 9 #[] w fun e w' => e = .returned (.bool true) ∧ Fr No w w' := by
  go_enter Tryd.func9, Tryd.ntmps9
  go_wp2_with fail
  refine (twelve_any w).mono ?_
  rintro e w1 ⟨rfl, hr1, hf1⟩
  go_wp2_with fail
  refine (put_tw (c := 12) hr1).mono ?_
  rintro e w2 ⟨b, c2, rfl, hown2, hb2, hc2, hf2⟩
  go_wp2_with fail
  refine (fnew_ok w2 (by omega) (by omega)).mono ?_
  rintro e w3 ⟨rfl, hFR, hf3⟩
  have hown3 := hown2.fr hf3 (fun _ _ _ h => h)
  have hbl := own_lt hown2 b ⟨0, rfl⟩
  have hr3 : RdB w3 (fun y => y = b) (some ⟨b, 0, none⟩) 14 tw14 := hown3.rd
  have hr3' : RdB w3 (fun y => y = b) (some ⟨b, 0, none⟩) 3 [0, 12, 1] := Rd.take hr3 (k := 3) (by omega)
  have hle := hown3.le
  obtain ⟨b', o', e0, _, hcc⟩ := hr3.2 (by omega)
  injection e0 with e0
  injection e0 with e1 e2
  subst e1 e2
  have g1 := hcc 1 (.int .u8 12) rfl
  rw [Nat.zero_add] at g1
  have hpe := ptr_ne ⟨w2.heap.size, 0, none⟩
  have hz := hf3.size
  have hFp := fpush_any (d := c2) hFR (by simp) hr3' (fun y hy e => by omega) (by simp)
  rw [push_tw] at hFp
  clear hcc
  go_wp2_with fail
  refine hFp.mono ?_
  rintro e w4 ⟨A4, c4, vs, O4, rfl, -, -, -, -, hFR4, hO4, hf4⟩
  have hwt := fun k => fwant_any (hFR4.drewN k) (by simp) (by simp)
  have hlf := fun k => fleft_any (hFR4.drewN k) (by simp)
  rw [want_tw] at hwt
  go_wp2_with fail
  refine (hwt 0).mono ?_
  rintro e w5 ⟨rfl, k, rfl⟩
  go_wp2_with fail
  refine (hlf k).mono ?_
  rintro e w6 ⟨rfl, k2, rfl⟩
  go_wp2
  go_ret
  have h1 := hf1.size
  have h2 := hf2.size
  exact ⟨rfl, ((((hf1.trans_no hf2).trans_no hf3).trans_new hf4 (fun y hy => .inr (by omega))).drewN _)⟩
end Go.Proofs.YtpbgcjknhegnmaaDoor
