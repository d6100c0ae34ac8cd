/- Channels made anew, what they tell of themselves, calls through the interface; the law's own awake. -/
import Derived.Test.YtfkkaalchffgaaaSealB
namespace Go.Ost
/-- A channel made anew. -/
def pc0 : PC := ⟨[], false, false, false, false, false⟩
end Go.Ost
namespace Go.Proofs.Ytfkkaalchffgaaa
open Go.RowKit Go.Ost

theorem sealed_new (w : World) : Calls Try.prog 9 #[] w fun e w' => e = .returned (.iface 54 (.pointer (some ⟨w.heap.size, 0, none⟩))) ∧ SWin w' (fun b => b = w.heap.size) w.heap.size pc0 ∧ Fr No w w' := by
  go_enter Try.func9, Try.ntmps9
  go_wp2
  go_ret
  refine ⟨rfl, ⟨fun b hb => by subst hb; simp, rfl, none, 0, by simpa [pc0] using Blk.new w _ _, Nat.zero_le _, Nat.zero_le _, Rd.nil _ _ _⟩, (Fr.refl _ _).alloc _⟩

theorem sm_Broken (a : Addr) (w : World) : (method 204 54 (.pointer (some a)) "Broken").run Try.prog w = .ok (49, .pointer (some a)) w := by kernel_rfl
theorem pm_Broken (a : Addr) (w : World) : (method 204 58 (.pointer (some a)) "Broken").run Try.prog w = .ok (67, .pointer (some a)) w := by kernel_rfl
theorem sm_Close (a : Addr) (w : World) : (method 204 54 (.pointer (some a)) "Close").run Try.prog w = .ok (50, .pointer (some a)) w := by kernel_rfl
theorem pm_Close (a : Addr) (w : World) : (method 204 58 (.pointer (some a)) "Close").run Try.prog w = .ok (68, .pointer (some a)) w := by kernel_rfl
theorem sm_Ended (a : Addr) (w : World) : (method 204 54 (.pointer (some a)) "Ended").run Try.prog w = .ok (51, .pointer (some a)) w := by kernel_rfl
theorem pm_Ended (a : Addr) (w : World) : (method 204 58 (.pointer (some a)) "Ended").run Try.prog w = .ok (69, .pointer (some a)) w := by kernel_rfl
theorem sm_Left (a : Addr) (w : World) : (method 204 54 (.pointer (some a)) "Left").run Try.prog w = .ok (52, .pointer (some a)) w := by kernel_rfl
theorem pm_Left (a : Addr) (w : World) : (method 204 58 (.pointer (some a)) "Left").run Try.prog w = .ok (70, .pointer (some a)) w := by kernel_rfl
theorem sm_Push (a : Addr) (w : World) : (method 204 54 (.pointer (some a)) "Push").run Try.prog w = .ok (53, .pointer (some a)) w := by kernel_rfl
theorem pm_Push (a : Addr) (w : World) : (method 204 58 (.pointer (some a)) "Push").run Try.prog w = .ok (71, .pointer (some a)) w := by kernel_rfl
theorem sm_Send (a : Addr) (w : World) : (method 204 54 (.pointer (some a)) "Send").run Try.prog w = .ok (54, .pointer (some a)) w := by kernel_rfl
theorem pm_Send (a : Addr) (w : World) : (method 204 58 (.pointer (some a)) "Send").run Try.prog w = .ok (72, .pointer (some a)) w := by kernel_rfl

/-- A row of literal bytes in a new block. -/
theorem rdb_new (w : World) (bs : List UInt8) (t : TypeId) : RdB (w.alloc (.cells (bs.map bv).toArray t)) (fun b => b = w.heap.size) (some ⟨w.heap.size, 0, none⟩) bs.length bs :=
  ⟨by simp, fun _ => ⟨_, _, rfl, rfl, fun j u hu => by rw [Nat.zero_add, (Blk.new w t _).cell]; simpa using hu⟩⟩

theorem rdb_at (w : World) (bs : List UInt8) (t : TypeId) (k : Nat) (hk : k = w.heap.size) : RdB (w.alloc (.cells (bs.map bv).toArray t)) (fun b => b = k) (some ⟨k, 0, none⟩) bs.length bs := by
  subst hk
  exact rdb_new w bs t
theorem send_78 : PC.send pc0 [7, 8] = ([1, 0, 1, 1, 2, 0, 2, 7, 8], { pc0 with greeted := true }) := by rfl
theorem send_9 : PC.send { pc0 with greeted := true } [9] = ([2, 0, 1, 9], { pc0 with greeted := true }) := by rfl
theorem close_1 : PC.close { pc0 with greeted := true } = ([3, 0, 0], { pc0 with greeted := true, shut := true }) := by rfl
theorem close_2 : PC.close { pc0 with greeted := true, shut := true } = ([], { pc0 with greeted := true, shut := true }) := by rfl

set_option maxHeartbeats 1600000 in
theorem awake_any (w : World) : Calls Try.prog 13 #[] w fun e w' => e = .returned (.bool true) ∧ Fr No w w' := by
  go_enter Try.func13, Try.ntmps13
  go_wp2_with fail
  refine (sealed_new w).mono ?_
  rintro e w1 ⟨rfl, hS, hf⟩
  have m1 := sm_Send ⟨w.heap.size, 0, none⟩
  have m2 := sm_Close ⟨w.heap.size, 0, none⟩
  have z1 := hf.size
  have hlt : w.heap.size < w1.heap.size := hS.1 _ rfl
  go_wp2_with fail
  have r1 : RdB (w1.alloc (.cells #[.int .u8 7, .int .u8 8] 5)) _ (some ⟨w1.heap.size, 0, none⟩) 2 [7, 8] := rdb_new w1 [7, 8] 5
  refine (send_any (c := 2) (hS.fr (((Fr.refl No w1)).alloc _) (fun _ _ h => h)) r1 (fun b hb => by subst hb; simp; omega) (by omega) (by omega)).mono ?_
  rw [send_78]
  rintro e w2 ⟨A2, c2, rfl, hown2, hc2, hS2, hf2⟩
  have z2 := hf2.size
  rw [World.size_alloc] at z2
  go_wp2_with fail
  have r2 : RdB (w2.alloc (.cells #[.int .u8 9] 5)) _ (some ⟨w2.heap.size, 0, none⟩) 1 [9] := rdb_new w2 [9] 5
  refine (send_any (c := 1) (hS2.fr (((Fr.refl No w2)).alloc _) (fun _ _ h => h)) r2 (fun b hb => by subst hb; simp; omega) (by omega) (by omega)).mono ?_
  rw [send_9]
  rintro e w3 ⟨A3, c3, rfl, hown3, hc3, hS3, hf3⟩
  have z3 := hf3.size
  rw [World.size_alloc] at z3
  go_wp2_with fail
  refine (close_any hS3).mono ?_
  rw [close_1]
  rintro e w4 ⟨A4, c4, rfl, hown4, hc4, hS4, hf4⟩
  have z4 := hf4.size
  go_wp2_with fail
  refine (close_any hS4).mono ?_
  rw [close_2]
  rintro e w5 ⟨A5, c5, rfl, hown5, hc5, hS5, hf5⟩
  have z5 := hf5.size
  have k2 : Fr (· = w.heap.size) (w1.alloc (.cells #[.int .u8 7, .int .u8 8] 5)) w2 := hf2
  have hA : RdB w5 (Ge (w.heap.size + 1)) A2 9 [1, 0, 1, 1, 2, 0, 2, 7, 8] := by
    refine Rd.fr (Rd.fr (Rd.fr (w := w2) (S := (· = w.heap.size)) (hown2.rd.mono fun b _ hb => ?_) (((Fr.refl _ w2).alloc _).trans hf3 (fun _ _ h => h)) ?_) hf4 ?_) hf5 ?_
    · simp only [Ge, World.size_alloc] at hb ⊢; omega
    all_goals (intro b _ hb e; simp only [Ge] at hb; omega)
  have hB : RdB w5 (Ge (w.heap.size + 1)) A3 4 [2, 0, 1, 9] := by
    refine Rd.fr (Rd.fr (w := w3) (hown3.rd.mono fun b _ hb => ?_) hf4 ?_) hf5 ?_
    · simp only [Ge, World.size_alloc] at hb ⊢; omega
    all_goals (intro b _ hb e; simp only [Ge] at hb; omega)
  have hC : RdB w5 (Ge (w.heap.size + 1)) A4 3 [3, 0, 0] := by
    refine Rd.fr (w := w4) (hown4.rd.mono fun b _ hb => ?_) hf5 ?_
    · simp only [Ge] at hb ⊢; omega
    all_goals (intro b _ hb e; simp only [Ge] at hb; omega)
  have hW : Fr No w w5 := by
    have h1 : Fr (· = w.heap.size) w1 w5 := ((((Fr.refl _ w1).alloc _).trans hf2 (fun _ _ h => h)).trans (((Fr.refl _ w2).alloc _).trans hf3 (fun _ _ h => h)) (fun _ _ h => h)).trans (hf4.trans hf5 (fun _ _ h => h)) (fun _ _ h => h)
    exact hf.trans h1 (fun b hb e => by omega)
  clear k2 hown2 hown3 hown4 hown5 hf2 hf3 hf4 hf5 hS hS2 hS3 hS4 hS5
  go_wp2_with fail
  have q1 := rdb_new w5 [1, 0, 1, 1, 2, 0, 2, 7, 8] 5
  refine (same_bytes (c := c2) (d := 9) (Rd.fr hA ((Fr.refl No w5).alloc _) (fun _ _ _ h => h)) q1).mono ?_
  rintro e w6 ⟨rfl, rfl⟩
  go_wp2_with fail
  refine (same_bytes (c := c3) (d := 4) (Rd.fr hB (((Fr.refl No w5).alloc _).alloc _) (fun _ _ _ h => h)) (rdb_at _ [2, 0, 1, 9] 5 _ (by simp))).mono ?_
  rintro e w6 ⟨rfl, rfl⟩
  go_wp2_with fail
  refine (same_bytes (c := c4) (d := 3) (Rd.fr hC ((((Fr.refl No w5).alloc _).alloc _).alloc _) (fun _ _ _ h => h)) (rdb_at _ [3, 0, 0] 5 _ (by simp))).mono ?_
  rintro e w6 ⟨rfl, rfl⟩
  go_wp2_with fail
  go_ret
  exact ⟨rfl, ((hW.alloc _).alloc _).alloc _⟩
end Go.Proofs.Ytfkkaalchffgaaa
