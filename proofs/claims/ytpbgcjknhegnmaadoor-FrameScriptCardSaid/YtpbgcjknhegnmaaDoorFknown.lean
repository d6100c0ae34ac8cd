/- FrameKnown, walked. -/
import Derived.Test.YtpbgcjknhegnmaaDoorFawk
import Derived.Test.YtpbgcjknhegnmaaDoorLists
namespace Go.Proofs.YtpbgcjknhegnmaaDoor
open Go.RowKit Go.Ost
theorem push_k1 : FC.push ⟨12, false, 0, []⟩ [0] = ([], 0, ⟨12, false, 0, [0]⟩) := by rfl
theorem push_k2 : FC.push ⟨12, false, 0, [0]⟩ [12, 1] = ([], 0, ⟨12, false, 0, [0, 12, 1]⟩) := by rfl
theorem push_k3 : FC.push ⟨12, false, 0, [0, 12, 1]⟩ [2, 3, 4, 5, 6, 7, 8, 9, 10, 11, 12, 0, 13] = ([tw], 3, ⟨12, true, 3, []⟩) := by rfl
theorem push_k4 : FC.push ⟨12, true, 3, []⟩ [] = ([], 9, ⟨12, true, 3, []⟩) := by rfl
theorem frame_eleven : frameOf [1, 2, 3, 4, 5, 6, 7, 8, 9, 10, 11] = ([], 4) := by decide

set_option maxRecDepth 100000 in
set_option maxHeartbeats 16000000 in
theorem known_any (w : World) : Calls Tryd.prog 7 #[] w fun e w' => e = .returned (.bool true) ∧ Fr No w w' := by
  obtain ⟨i0, hi, hz0, hz1, hz2⟩ := info_parts info_u8
  go_enter Tryd.func7, Tryd.ntmps7
  go_wp2_with fail
  refine (twelve_any w).mono ?_
  rintro e w1 ⟨rfl, hr1, hf1⟩
  go_wp2_with fail
  refine (put_tw (c := 12) hr1).mono ?_
  rintro e w2 ⟨b, c2, rfl, hown2, hb2, hc2, hf2⟩
  go_wp2_with fail
  refine (fnew_ok w2 (by omega) (by omega)).mono ?_
  rintro e w3 ⟨rfl, hFR, hf3⟩
  have hbl := own_lt hown2 b ⟨0, rfl⟩
  have hle := hown2.le
  have hpe := ptr_ne ⟨w2.heap.size, 0, none⟩
  have hz1' := hf1.size
  have hz2' := hf2.size
  have hr3 : RdB w3 (fun y => y = b) (some ⟨b, 0, none⟩) 14 tw14 := Rd.fr hown2.rd hf3 (fun _ _ _ h => h)
  have hF3 := (hf1.trans_no hf2).trans_no hf3
  have HF3 := hid hF3
  have haw : w.heap.size ≤ w2.heap.size := by omega
  clear hf1 hf2 hf3 hF3 hown2 hr1
  generalize w2.heap.size = a at hFR hpe hbl haw hz2'
  go_wp2_with fail
  refine (twelve_any w3).mono ?_
  rintro e w4 ⟨rfl, hr4, hf4⟩
  replace hFR := hFR.fr hf4 (fun _ _ h => h)
  replace hr3 := Rd.fr hr3 hf4 (fun _ _ _ h => h)
  replace HF3 := hid (HF3.out.trans_no hf4)
  have hr4' : RdB w4 (fun y => y = w3.heap.size) (some ⟨w3.heap.size, 0, none⟩) 11 [1, 2, 3, 4, 5, 6, 7, 8, 9, 10, 11] := Rd.take hr4 (k := 11) (by omega)
  have hp11 := fput_any (c := 12) hr4' (by omega)
  rw [frame_eleven] at hp11
  clear hf4 hr4 hr4'
  go_wp2_with fail
  refine hp11.mono ?_
  rintro e w5 ⟨A5, c5, rfl, -, -, hf5⟩
  replace hFR := hFR.fr hf5 (fun _ _ h => h)
  replace hr3 := Rd.fr hr3 hf5 (fun _ _ _ h => h)
  replace HF3 := hid (HF3.out.trans_no hf5)
  clear hf5 hp11
  go_wp2_with fail
  refine (fnew_bad w5 (most := 11) (by omega)).mono ?_
  rintro e w' ⟨rfl, rfl⟩
  go_wp2_with fail
  refine (fnew_bad w5 (most := 65536) (by omega)).mono ?_
  rintro e w' ⟨rfl, rfl⟩
  have hFp := fpush_any (p := [0]) (n := 1) (d := c2) hFR (by simp) (Rd.take hr3 (k := 1) (by omega)) (fun y hy e => by omega) (by simp)
  rw [push_k1] at hFp
  go_wp2_with fail
  refine hFp.mono ?_
  rintro e w6 ⟨A6, c6, vs6, O6, rfl, -, -, -, -, hFR6, hO6, hf6⟩
  have hs6 := hf6.size
  have haO : ∀ y, O6 y → a ≤ y := fun y hy => by rcases hO6 y hy with h | h; omega; have := hFR.mem.2 a hFR.mem.1; omega
  replace hr3 := Rd.fr hr3 hf6 (fun y _ hy e => by omega)
  replace HF3 := hid (HF3.out.trans_new hf6 (fun y hy => .inr (by omega)))
  clear hFp hf6 hFR hO6 hs6
  obtain ⟨A7, hsl7, hA7⟩ := slice_mid (A := some ⟨b, 0, none⟩) (n := 14) (c := c2) (l := 1) (h := 3) (by omega) (by omega)
  have hsl7' : ∀ w, (Instr.slice 22 (.slice (some ⟨b, 0, none⟩) 14 c2) (some (.int .i64 1)) (some (.int .i64 3)) none).run Tryd.prog w = .ok (.slice A7 2 (c2 - 1)) w := hsl7
  have hr7 : RdB w6 (fun y => y = b) A7 2 [12, 1] := rd_mid hr3 (by omega) (by omega) hA7
  have hFp := fpush_any (p := [12, 1]) (n := 2) (d := c2 - 1) hFR6 (by simp) hr7 (fun y hy e => by have := haO y e; omega) (by simp)
  rw [push_k2] at hFp
  clear hsl7 hA7
  go_wp2_with fail
  refine hFp.mono ?_
  rintro e w7 ⟨A8, c8, vs8, O7, rfl, -, -, -, -, hFR7, hO7, hf7⟩
  have hs7 := hf7.size
  have haO7 : ∀ y, O7 y → a ≤ y := fun y hy => by rcases hO7 y hy with h | h; exact haO y h; have := hFR6.mem.2 a hFR6.mem.1; omega
  replace hr3 := Rd.fr hr3 hf7 (fun y _ hy e => by have := haO y e; omega)
  replace HF3 := hid (HF3.out.trans_new hf7 (fun y hy => .inr (by have := haO y hy; omega)))
  clear hFp hf7 hFR6 hO7 hs7 haO hr7 hsl7'
  obtain ⟨A9, hsl9, hA9⟩ := slice_from (P := Tryd.prog) (t := 22) (s := 1) Tryd.underlying22 (fun w => by kernel_rfl) (some ⟨b, 0, none⟩) (n := 14) (c := c2) (l := 3) (by omega) hle
  have hsl9' : ∀ w, (Instr.slice 22 (.slice (some ⟨b, 0, none⟩) 14 c2) (some (.int .i64 3)) none none).run Tryd.prog w = .ok (.slice A9 11 (c2 - 3)) w := hsl9
  have hr9 : RdB w7 (fun y => y = b) A9 11 [2, 3, 4, 5, 6, 7, 8, 9, 10, 11, 12] := rd_mid hr3 (l := 3) (h := 14) (by omega) (by omega) (fun h => hA9 h)
  clear hsl9 hA9
  go_wp2_with fail
  have hsw7 := HF3.out.size
  refine (copy_bytes (c := c2 - 3) hr9 (by omega)).mono ?_
  rintro e w8 ⟨A10, c10, rfl, hown10, hc10, hf8⟩
  replace HF3 := hid (HF3.out.trans_no hf8)
  have hFR8 := hFR7.fr hf8 (fun _ _ h => h)
  have hO8 := hFR7.mem.2
  have hs8 := hf8.size
  have hown11 := hown10.alloc (.cells #[.int .u8 0, .int .u8 13] 5)
  have hFR9 := hFR8.fr ((Fr.refl No w8).alloc (.cells #[.int .u8 0, .int .u8 13] 5)) (fun _ _ h => h)
  have HOWN := hid hown11
  have HFR9 := hid hFR9
  have hnew := rdb_new w8 [0, 13] 5
  have HNEW := hid hnew
  clear hown11 hown10 hFR9 hFR8 hFR7 hf8 hr3 hr9 hsl9' hnew
  go_wp2_with (at_builtin; go_must (refine wpList_app _ rfl (.tmp 61) (.tmp 62) _ rfl 5 i0 _ 1 1 Tryd.underlying22 hi hz0 hz1 hz2 rfl (by omega) byte_zero (O := Ge w7.heap.size) (by simp only [Ge, World.size_alloc]; omega) rfl (by simpa using HOWN.out) (m := 2) rfl (by rw [Nat.mul_one]; exact HNEW.out) (bv_all _) (by simp only [maxLen]; simp) (by simp) ?_; intro A11 c11 w11 hown11 hf11 hc11 hA11))
  have hAt : ∀ y, At A10 y → w7.heap.size ≤ y := fun y hy => HOWN.out.at_ y hy
  have hFR11 := HFR9.out.fr hf11 (fun y hy h => by have := hO8 y hy; have := hAt y h; omega)
  have hr11 : RdB w11 (Ge w7.heap.size) A11 13 [2, 3, 4, 5, 6, 7, 8, 9, 10, 11, 12, 0, 13] := hown11.rd
  replace HF3 := hid ((HF3.out.alloc (.cells #[.int .u8 0, .int .u8 13] 5)).trans_new hf11 (fun y hy => .inr (by have := hAt y hy; have := HF3.out.size; omega)))
  have hFp := fpush_any (p := [2, 3, 4, 5, 6, 7, 8, 9, 10, 11, 12, 0, 13]) (n := 13) (d := c11) hFR11 (by simp) hr11 (fun y hy e => by have := hO8 y e; simp only [Ge] at hy; omega) (by simp)
  rw [push_k3] at hFp
  have hs11 := HF3.out.size
  clear hf11 hown11 HOWN HFR9 HNEW hAt hc11 hA11
  go_wp2_with fail
  refine hFp.mono ?_
  rintro e w12 ⟨A12, c12, vs12, O12, rfl, hown12, hms12, -, -, hFR12, hO12, hf12⟩
  have hs12 := hf12.size
  have haO12 : ∀ y, O12 y → a ≤ y := fun y hy => by rcases hO12 y hy with h | h; exact haO7 y h; have := hFR11.mem.2 a hFR11.mem.1; omega
  replace HF3 := hid (HF3.out.trans_new hf12 (fun y hy => .inr (by have := haO7 y hy; omega)))
  have hrl : RdL w12 (fun y => ¬ O12 y) A12 1 [tw] := hms12.rdl (O2 := fun y => w11.heap.size ≤ y ∧ ¬ O12 y) hown12.rd (fun y hy => hy.2) (fun y hy => hy.2)
  have hFp4 := fpush_any (p := []) (n := 0) (d := 0) (B := none) (O3 := No) hFR12 (by simp) (Rd.nil _ _ _) (fun _ h => h.elim) (by simp)
  rw [push_k4] at hFp4
  clear hFp hf12 hFR11 hown12 hms12 hr11 hO12 hs12 hs11
  go_wp2_with fail
  refine hFp4.mono ?_
  rintro e w13 ⟨A13, c13, vs13, O13, rfl, -, -, -, -, hFR13, hO13, hf13⟩
  replace HF3 := hid (HF3.out.trans_new hf13 (fun y hy => .inr (by have := haO12 y hy; omega)))
  replace hrl := hrl.fr hf13 (fun y _ hy h => hy h)
  clear hFp4 hf13 hFR12 hO13
  go_wp2_with fail
  refine (awake_any w13).mono ?_
  rintro e w14 ⟨rfl, hf14⟩
  replace HF3 := hid (HF3.out.trans_no hf14)
  replace hrl := hrl.fr hf14 (fun _ _ _ h => h)
  have hFR14 := hFR13.fr hf14 (fun _ _ h => h)
  clear hf14 hFR13
  go_wp2_with fail
  refine (twelve_any w14).mono ?_
  rintro e w15 ⟨rfl, hr15, hf15⟩
  replace HF3 := hid (HF3.out.trans_no hf15)
  replace hrl := hrl.fr hf15 (fun _ _ _ h => h)
  have hFR15 := hFR14.fr hf15 (fun _ _ h => h)
  clear hf15 hFR14
  have hr16 : RdL (w15.alloc (.cells #[.slice (some ⟨w14.heap.size, 0, none⟩) 12 12] 22)) (fun _ => True) (some ⟨w15.heap.size, 0, none⟩) 1 [tw] := by
    have := rdl_new (w := w15) (O := fun y => y = w14.heap.size) (t := 22) (vs := [.slice (some ⟨w14.heap.size, 0, none⟩) 12 12]) (ls := [tw]) rfl (fun i v l hv hl => by
      match i, hv, hl with
      | 0, hv, hl => simp at hv hl; subst hv hl; exact ⟨_, 12, 12, rfl, Nat.le_refl _, hr15⟩
      | k + 1, hv, _ => simp at hv)
    simpa using this
  have hsame := same_lists (c := c12) (d := 1) (hrl.fr ((Fr.refl No w15).alloc (.cells #[.slice (some ⟨w14.heap.size, 0, none⟩) 12 12] 22)) (fun _ _ _ h => h)) hr16 (by omega) (by omega)
  have hFR16 := hFR15.fr ((Fr.refl No w15).alloc (.cells #[.slice (some ⟨w14.heap.size, 0, none⟩) 12 12] 22)) (fun _ _ h => h)
  replace HF3 := hid (HF3.out.alloc (.cells #[.slice (some ⟨w14.heap.size, 0, none⟩) 12 12] 22))
  have hde : decide ([tw] = [tw]) = true := by simp
  rw [hde] at hsame
  clear hrl hr15 hr16 hFR15
  go_wp2_with fail
  refine hsame.mono ?_
  rintro e w16 ⟨rfl, k, rfl⟩
  have hbr := fbroken_any (hFR16.drewN k)
  have hlf := fleft_any (hFR16.drewN k) (by simp)
  go_wp2_with fail
  refine hbr.mono ?_
  rintro e w17 ⟨rfl, rfl⟩
  go_wp2_with fail
  refine hlf.mono ?_
  rintro e w17 ⟨rfl, k2, rfl⟩
  go_wp2
  go_ret
  exact ⟨rfl, HF3.out.drewN (k + k2)⟩
end Go.Proofs.YtpbgcjknhegnmaaDoor
