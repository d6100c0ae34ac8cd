/- FramePuts, walked. -/
import Derived.Test.YtpbgcjknhegnmaaDoorFawk
import Derived.Test.YtpbgcjknhegnmaaDoorLent
import Derived.Test.YtpbgcjknhegnmaaDoorOver
namespace Go.Proofs.YtpbgcjknhegnmaaDoor
open Go.RowKit Go.Ost

set_option maxRecDepth 100000 in
set_option maxHeartbeats 4000000 in
theorem putslaw_any {w : World} {A : Option Addr} {n c : Nat} {bs : List UInt8} (h : RdB w (fun b => b < w.heap.size) A n bs) : Calls Tryd.prog 3 #[.slice A n c] w fun e w' => e = .returned (.bool true) ∧ Fr No w w' := by
  have hl : bs.length = n := by simpa using h.1
  have HL := hid hl
  clear hl
  by_cases hbig : 70000 < n
  · go_enter Tryd.func3, Tryd.ntmps3
    go_wp2_with fail
    refine (awake_any w).mono ?_
    rintro e w1 ⟨rfl, hf1⟩
    go_wp2
    go_ret
    exact ⟨rfl, hf1⟩
  · go_enter Tryd.func3, Tryd.ntmps3
    go_wp2_with fail
    refine (lent_any (c := c) h (by omega)).mono ?_
    rintro e w1 ⟨rfl, h1, hf1⟩
    have z1 := hf1.size
    have z0 : w.heap.size < w1.heap.size := by
      obtain ⟨b, o, v, e1, rfl, _, hc⟩ := Rd.at_ h1 (k := 0) (by omega)
      exact block_lt_of_cell hc
    have hin : RdB w1 (fun b => b = w.heap.size) (some ⟨w.heap.size, 0, none⟩) n bs := by
      have := Rd.take h1 (k := n) (by omega)
      rw [← List.map_take, lent, ← HL.out, List.take_left] at this
      rw [← HL.out]
      exact this
    have hb1 : RdB w1 (fun b => b < w.heap.size) A n bs := Rd.fr h hf1 (fun _ _ _ h => h)
    have hput1 := fput_any (c := n + 3) hin (by omega)
    have hput2 := fun w2 (h2 : RdB w2 (fun b => b = w.heap.size) (some ⟨w.heap.size, 0, none⟩) n bs) => fput_any (c := n + 3) h2 (by omega)
    have hrput := fun w2 (h2 : RdB w2 (fun b => b < w.heap.size) A n bs) => rput_any (c := c) h2 (by omega)
    generalize frameOf bs = q at hput1 hput2 hrput
    obtain ⟨fb, er⟩ := q
    simp only at hput1 hput2 hrput
    have HP2 := hid hput2
    have HRP := hid hrput
    clear hput2 hrput
    go_wp2_with fail
    refine hput1.mono ?_
    rintro e w2 ⟨A2, c2, rfl, hown2, hc2, hf2⟩
    have z2 := hf2.size
    have hb2 : RdB w2 (fun b => b < w.heap.size) A n bs := Rd.fr hb1 hf2 (fun _ _ _ h => h)
    go_wp2_with fail
    refine (HRP.out w2 hb2).mono ?_
    rintro e w3 ⟨A3, c3, rfl, hown3, hc3, hf3⟩
    have z3 := hf3.size
    have hin3 : RdB w3 (fun b => b = w.heap.size) (some ⟨w.heap.size, 0, none⟩) n bs := Rd.fr (Rd.fr hin hf2 (fun _ _ _ h => h)) hf3 (fun _ _ _ h => h)
    go_wp2_with fail
    refine (HP2.out w3 hin3).mono ?_
    rintro e w4 ⟨A4, c4, rfl, hown4, hc4, hf4⟩
    have z4 := hf4.size
    have hown2' : Ost.Own w4 (fun y => w1.heap.size ≤ y ∧ y < w2.heap.size) 5 Byte A2 fb.length c2 (fb.map bv) := ((hown2.mono (O' := fun y => w1.heap.size ≤ y ∧ y < w2.heap.size) (fun y hy hg => ⟨hg, hy⟩)).fr hf3 (fun _ _ _ h => h)).fr hf4 (fun _ _ _ h => h)
    have hown3' := hown3.fr hf4 (fun _ _ _ h => h)
    go_wp2_with fail
    refine (over_own hown2' hc2).mono ?_
    rintro e w5 ⟨rfl, hf5⟩
    have z5 := hf5.size
    have hr3 := Rd.fr hown3'.rd hf5 (fun y _ hy hg => by simp only [Ge] at hy; omega)
    have hr4 := Rd.fr hown4.rd hf5 (fun y _ hy hg => by simp only [Ge] at hy; omega)
    have hin5 : RdB w5 (fun b => b = w.heap.size) (some ⟨w.heap.size, 0, none⟩) (n + 3) (lent bs) := Rd.fr (Rd.fr (Rd.fr (Rd.fr h1 hf2 (fun _ _ _ h => h)) hf3 (fun _ _ _ h => h)) hf4 (fun _ _ _ h => h)) hf5 (fun b _ hb hg => by omega)
    have hb5 : RdB w5 (fun b => b < w.heap.size) A n bs := Rd.fr (Rd.fr (Rd.fr hb2 hf3 (fun _ _ _ h => h)) hf4 (fun _ _ _ h => h)) hf5 (fun b _ hb hg => by omega)
    have hW5 : Fr No w w5 := (((hf1.trans_no hf2).trans_no hf3).trans_no hf4).trans hf5 (fun b hb hg => by omega)
    go_wp2_with fail
    refine (same_bytes (c := c4) (d := c3) hr4 hr3).mono ?_
    rintro e w6 ⟨rfl, rfl⟩
    go_wp2_with fail
    refine (kept_any (c := c) rfl hin5 hb5 (by omega)).mono ?_
    rintro e w6 ⟨rfl, hf6⟩
    go_wp2_with fail
    refine (awake_any w6).mono ?_
    rintro e w7 ⟨rfl, hf7⟩
    go_wp2
    go_ret
    exact ⟨by simp, (hW5.trans_no hf6).trans_no hf7⟩
end Go.Proofs.YtpbgcjknhegnmaaDoor
