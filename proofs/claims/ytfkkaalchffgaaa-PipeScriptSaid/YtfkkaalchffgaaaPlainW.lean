/- PipePlain, walked: a plain channel tells and sends what it is handed, and nothing behind its Close. -/
import Derived.Test.YtfkkaalchffgaaaPlain
import Derived.Test.YtfkkaalchffgaaaPacts
import Derived.Deep.RegionHeld3
namespace Go.Proofs.Ytfkkaalchffgaaa
open Go.RowKit Go.Ost

theorem rdb_nil (w : World) (O : Nat → Prop) (A : Option Addr) : RdB w O A 0 [] := Rd.nil w O A
theorem pn_Send (a : Addr) (w : World) : (nilAhead 204 58 (.pointer (some a)) "Send").run Try.prog w = .ok (some false) w := by kernel_rfl
theorem pn_Push (a : Addr) (w : World) : (nilAhead 204 58 (.pointer (some a)) "Push").run Try.prog w = .ok (some false) w := by kernel_rfl

set_option maxRecDepth 100000 in
set_option maxHeartbeats 4000000 in
theorem plainlaw_any {w : World} {A : Option Addr} {n c : Nat} {l : List PAct} (h : PActs w A n l) (hn : n ≤ 9223372036854775807) :
    Calls Try.prog 4 #[.slice A n c] w fun e w' => e = .returned (.bool true) ∧ Fr No w w' := by
  have HL := hid h.1
  go_enter Try.func4, Try.ntmps4
  go_wp2_with fail
  refine (awake_any w).mono ?_
  rintro e w1 ⟨rfl, hf1⟩
  go_wp2_with fail
  refine (plain_new w1).mono ?_
  rintro e w2 ⟨rfl, hP, hf2⟩
  have hf12 := hf1.trans_no hf2
  have z1 := hf1.size
  have m1 := pm_Send ⟨w1.heap.size, 0, none⟩
  have m2 := pm_Push ⟨w1.heap.size, 0, none⟩
  have m3 := pm_Close ⟨w1.heap.size, 0, none⟩
  have m4 := pm_Left ⟨w1.heap.size, 0, none⟩
  have m5 := pm_Ended ⟨w1.heap.size, 0, none⟩
  have m6 := pm_Broken ⟨w1.heap.size, 0, none⟩
  have n1 := pn_Send ⟨w1.heap.size, 0, none⟩
  have n2 := pn_Push ⟨w1.heap.size, 0, none⟩
  have hacts : PActs w2 A n l := by
    refine ⟨h.1, fun h0 => ?_⟩
    obtain ⟨b, o, e, hb, hc⟩ := h.2 h0
    refine ⟨b, o, e, Nat.lt_of_lt_of_le hb hf12.size, fun k x hx => ?_⟩
    obtain ⟨c1, c2, B, d, c3, c4, c5⟩ := hc k x hx
    exact ⟨hf12.cell (fun h => h) c1, c2, B, d, hf12.cell (fun h => h) c3, c4, (Rd.fr c5 hf12 (fun _ _ _ h => h)).mono fun b _ hb => Nat.lt_of_lt_of_le hb hf12.size⟩
  generalize w1.heap.size = a at hP m1 m2 m3 m4 m5 m6 n1 n2 z1
  go_wp2_with fail
  refine (long_any (c := c) hacts hn).mono ?_
  rintro e w2' ⟨q, rfl, rfl, hlong⟩
  cases q with
  | true =>
    go_wp2
    go_ret
    exact ⟨rfl, hf12⟩
  | false =>
    obtain ⟨h60, h9⟩ := hlong rfl
    clear hlong
    have HC := hid h.2
    clear h hacts
    go_wp2
    go_loopw [5, 6] (fun s i wr => ∃ (k : Nat) (q : Bool), k ≤ n ∧ i = .int .i64 k ∧ s = .bool q ∧ PWin wr a q ∧ Hid (Fr No w wr)) (fun _ i _ => n - (intOf i).toNat)
    case atStart => exact ⟨0, false, Nat.zero_le _, rfl, rfl, hP, hf12⟩
    case round =>
      obtain ⟨k, q, hk, rfl, rfl, hw, hf⟩ := hrel
      clear hP
      by_cases hlt : k < n
      · obtain ⟨b, o, rfl, hb, hc⟩ := HC.out (by omega)
        have hkl : k < l.length := by have := HL.out; omega
        have hx := List.getElem?_eq_getElem hkl
        obtain ⟨c1, _, B, d, c2, hxd, hr⟩ := hc k _ hx
        have hx9 : l[k].b.length ≤ 9000 := by
          have t1 := total_step hx
          have t2 := total_take_le l (k + 1)
          omega
        generalize l[k] = x at c1 c2 hxd hr hx9
        clear hc hx
        have hrw : RdB wr (fun b => b < w.heap.size) B x.b.length x.b := Rd.fr hr hf.out (fun _ _ _ h => h)
        replace c1 := hf.out.cell (p := ⟨b, o + k * 2, none⟩) (fun h => h) c1
        replace c2 := hf.out.cell (p := ⟨b, o + k * 2 + 1, none⟩) (fun h => h) c2
        have g1 := Int.emod_nonneg x.kind (show (4 : Int) ≠ 0 by omega)
        have g2 := Int.emod_lt_of_pos x.kind (show (0 : Int) < 4 by omega)
        have hza := hw.lt
        go_wp2_with fail
        refine (pick_any x.kind 4 wr (by omega) (by omega)).mono ?_
        rintro e w' ⟨rfl, rfl⟩
        generalize x.kind % 4 = m at g1 g2
        rcases (by omega : m = 2 ∨ m = 3 ∨ (m ≠ 2 ∧ m ≠ 3)) with rfl | rfl | ⟨h2, h3⟩
        · cases q with
          | false =>
            have hsend := plain_send (w := wr.drew) (c := d) hw hrw (by omega)
            simp only [Bool.false_eq_true, if_false] at hsend
            go_wp2_with fail
            go_region_held3 (fun w' => w'.cell? ⟨b, o + k * 2 + 1, none⟩ = some (.slice B x.b.length d)) (first | assumption | exact k3)
              ((go_at_call 72; refine hsend.mono ?_; rintro e w3 ⟨A3, c3, rfl, hown, hc3, hf3⟩; have k3 := hf3.cell (p := ⟨b, o + k * 2 + 1, none⟩) (fun h => h) c2))
            have hf3' : Fr No wr w3 := Fr.of_drew hf3
            have hw3 : PWin w3 a false := Blk.fr hw hf3' (fun h => h)
            have hr3 : RdB w3 (fun b => b < w.heap.size) B x.b.length x.b := Rd.fr hrw hf3' (fun _ _ _ h => h)
            go_wp2_with fail
            refine (same_bytes (w := w3) (c := c3) (d := d) hown.rd hr3).mono ?_
            rintro e w4 ⟨rfl, rfl⟩
            go_wp2_with fail
            refine plain_left.mono ?_
            rintro e w4 ⟨rfl, rfl⟩
            go_wp2_with fail
            refine plain_ended.mono ?_
            rintro e w4 ⟨rfl, rfl⟩
            go_wp2_with fail
            refine plain_broken.mono ?_
            rintro e w4 ⟨rfl, rfl⟩
            go_wp2
            go_roundw
            case rel => exact ⟨k + 1, false, by omega, by go_num, rfl, hw3, hf.out.trans_no hf3'⟩
            case measure => simp [intOf]; omega
          | true =>
            have hsend := plain_send (w := wr.drew) (c := d) hw hrw (by omega)
            simp only [if_true] at hsend
            go_wp2_with fail
            go_region_held3 (fun w' => w'.cell? ⟨b, o + k * 2 + 1, none⟩ = some (.slice B x.b.length d)) (first | assumption | exact k3)
              ((go_at_call 72; refine hsend.mono ?_; rintro e w3 ⟨A3, c3, rfl, hown, hc3, hf3⟩; have k3 := hf3.cell (p := ⟨b, o + k * 2 + 1, none⟩) (fun h => h) c2))
            have hf3' : Fr No wr w3 := Fr.of_drew hf3
            have hw3 : PWin w3 a true := Blk.fr hw hf3' (fun h => h)
            have hr3 : RdB w3 (fun b => b < w.heap.size) B x.b.length x.b := Rd.fr hrw hf3' (fun _ _ _ h => h)
            go_wp2_with fail
            refine (same_bytes (w := w3) (c := c3) (d := 0) hown.rd (rdb_nil w3 No none)).mono ?_
            rintro e w4 ⟨rfl, rfl⟩
            go_wp2_with fail
            refine plain_left.mono ?_
            rintro e w4 ⟨rfl, rfl⟩
            go_wp2_with fail
            refine plain_ended.mono ?_
            rintro e w4 ⟨rfl, rfl⟩
            go_wp2_with fail
            refine plain_broken.mono ?_
            rintro e w4 ⟨rfl, rfl⟩
            go_wp2
            go_roundw
            case rel => exact ⟨k + 1, true, by omega, by go_num, rfl, hw3, hf.out.trans_no hf3'⟩
            case measure => simp [intOf]; omega
        · go_wp2_with fail
          refine (plain_close hw).mono ?_
          rintro e w3 ⟨rfl, hw3, hf3⟩
          obtain ⟨c3, hc3⟩ : ∃ c : Nat, c = 0 := ⟨0, rfl⟩
          subst hc3
          go_wp2_with fail
          refine (same_bytes (w := w3) (c := 0) (d := 0) (rdb_nil w3 No none) (rdb_nil w3 No none)).mono ?_
          rintro e w4 ⟨rfl, rfl⟩
          go_wp2_with fail
          refine plain_left.mono ?_
          rintro e w4 ⟨rfl, rfl⟩
          go_wp2_with fail
          refine plain_ended.mono ?_
          rintro e w4 ⟨rfl, rfl⟩
          go_wp2_with fail
          refine plain_broken.mono ?_
          rintro e w4 ⟨rfl, rfl⟩
          go_wp2
          go_roundw
          case rel => exact ⟨k + 1, true, by omega, by go_num, rfl, hw3, hf.out.trans hf3 (fun y hy e => by omega)⟩
          case measure => simp [intOf]; omega
        · have hpush := plain_push (a := a) (w := wr.drew) (c := d) hrw (by omega)
          go_wp2_with fail
          go_region_held3 (fun w' => w'.cell? ⟨b, o + k * 2 + 1, none⟩ = some (.slice B x.b.length d)) (first | assumption | exact k3)
            ((go_at_call 71; refine hpush.mono ?_; rintro e w3 ⟨A3, c3, rfl, hown, hc3, hf3⟩; have k3 := hf3.cell (p := ⟨b, o + k * 2 + 1, none⟩) (fun h => h) c2))
          have hf3' : Fr No wr w3 := Fr.of_drew hf3
          have hw3 : PWin w3 a q := Blk.fr hw hf3' (fun h => h)
          have hr3 : RdB w3 (fun b => b < w.heap.size) B x.b.length x.b := Rd.fr hrw hf3' (fun _ _ _ h => h)
          go_wp2_with fail
          refine (same_bytes (w := w3) (c := c3) (d := d) hown.rd hr3).mono ?_
          rintro e w4 ⟨rfl, rfl⟩
          go_wp2_with fail
          refine plain_left.mono ?_
          rintro e w4 ⟨rfl, rfl⟩
          go_wp2_with fail
          refine plain_ended.mono ?_
          rintro e w4 ⟨rfl, rfl⟩
          go_wp2_with fail
          refine plain_broken.mono ?_
          rintro e w4 ⟨rfl, rfl⟩
          go_wp2
          go_roundw
          case rel => exact ⟨k + 1, q, by omega, by go_num, rfl, hw3, hf.out.trans_no hf3'⟩
          case measure => simp [intOf]; omega
      · obtain rfl : n = k := by omega
        go_wp2
        go_ret
        exact ⟨rfl, hf.out⟩
end Go.Proofs.Ytfkkaalchffgaaa
