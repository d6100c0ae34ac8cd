/- PipeRecords, walked: which bytes a record has; what is handed in stays; new memory. -/
import Derived.Test.YtfkkaalchffgaaaAwk
import Derived.Test.YtfkkaalchffgaaaLent
import Derived.Test.YtfkkaalchffgaaaRrec
namespace Go.Proofs.Ytfkkaalchffgaaa
open Go.RowKit Go.Ost

set_option maxHeartbeats 1600000 in
theorem records_any {w : World} {A : Option Addr} {n c : Nat} {bs : List UInt8} (kind : Int) (h : RdB w (fun b => b < w.heap.size) A n bs) :
    Calls Try.prog 5 #[.int .i64 kind, .slice A n c] w fun e w' => e = .returned (.bool true) ∧ Fr No w w' := by
  have hl : bs.length = n := by simpa using h.1
  have HL := hid hl
  clear hl
  by_cases hlong : 2000 < n
  · go_enter Try.func5, Try.ntmps5
    go_wp2_with fail
    refine (awake_any w).mono ?_
    rintro e w1 ⟨rfl, hf⟩
    go_wp2
    go_ret
    exact ⟨rfl, hf⟩
  · go_enter Try.func5, Try.ntmps5
    go_wp2_with fail
    refine (lent_any (c := c) h (by omega)).mono ?_
    rintro e w1 ⟨rfl, h1, hf1⟩
    have z1 := hf1.size
    have z0 : w.heap.size < w1.heap.size := by
      obtain ⟨b, o, v, e1, rfl, _, hc⟩ := Rd.at_ h1 (k := 0) (by omega)
      exact block_lt_of_cell hc
    have hin : RdB w1 (fun b => b = w.heap.size) (some ⟨w.heap.size, 0, none⟩) n bs := by
      have := Rd.take h1 (k := n) (by omega)
      rw [← List.map_take, lent, ← HL.out, List.take_left] at this
      rw [← HL.out]
      exact this
    have hb1 : RdB w1 (fun b => b < w.heap.size) A n bs := Rd.fr h hf1 (fun _ _ _ h => h)
    go_wp2_with fail
    refine (record_any (c := n + 3) kind hin (by omega) (by omega)).mono ?_
    rintro e w2 ⟨A2, c2, rfl, hown2, hc2, hf2⟩
    have z2 := hf2.size
    have hb2 : RdB w2 (fun b => b < w.heap.size) A n bs := Rd.fr hb1 hf2 (fun _ _ _ h => h)
    go_wp2_with fail
    refine (rrecord_any (c := c) kind hb2 (by omega)).mono ?_
    rintro e w3 ⟨A3, c3, rfl, hown3, hc3, hf3⟩
    have z3 := hf3.size
    have hown2' := hown2.fr hf3 (fun _ _ _ h => h)
    go_wp2_with fail
    refine (same_bytes (c := c2) (d := c3) hown2'.rd hown3.rd).mono ?_
    rintro e w4 ⟨rfl, rfl⟩
    go_wp2_with fail
    refine (over_own hown2' hc2).mono ?_
    rintro e w4 ⟨rfl, hf4⟩
    have z4 := hf4.size
    have hin4 : RdB w4 (fun b => b = w.heap.size) (some ⟨w.heap.size, 0, none⟩) (n + 3) (lent bs) := Rd.fr (Rd.fr (Rd.fr h1 hf2 (fun _ _ _ h => h)) hf3 (fun _ _ _ h => h)) hf4 (fun b _ hb hg => by simp only [Ge] at hg; omega)
    have hb4 : RdB w4 (fun b => b < w.heap.size) A n bs := Rd.fr (Rd.fr hb2 hf3 (fun _ _ _ h => h)) hf4 (fun b _ hb hg => by simp only [Ge] at hg; omega)
    have hW4 : Fr No w w4 := ((hf1.trans_no hf2).trans_no hf3).trans hf4 (fun b hb hg => by simp only [Ge] at hg; omega)
    go_wp2_with fail
    refine (kept_any (c := c) rfl hin4 hb4 (by omega)).mono ?_
    rintro e w5 ⟨rfl, hf5⟩
    go_wp2_with fail
    refine (awake_any w5).mono ?_
    rintro e w6 ⟨rfl, hf6⟩
    go_wp2
    go_ret
    exact ⟨by simp, (hW4.trans_no hf5).trans_no hf6⟩
end Go.Proofs.Ytfkkaalchffgaaa
