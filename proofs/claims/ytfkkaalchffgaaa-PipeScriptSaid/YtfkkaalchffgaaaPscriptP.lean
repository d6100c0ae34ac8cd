/- PipeScript, walked (a plain channel). -/
import Derived.Test.YtfkkaalchffgaaaPscript
import Derived.Test.YtfkkaalchffgaaaPlainW
namespace Go.Proofs.Ytfkkaalchffgaaa
open Go.RowKit Go.Ost

set_option maxRecDepth 100000 in
set_option maxHeartbeats 8000000 in
theorem script_plain {w : World} {A : Option Addr} {n c : Nat} {l : List PAct} (h : PActs w A n l) (hn : n ≤ 9223372036854775807) :
    Calls Try.prog 7 #[.bool false, .slice A n c] w fun e w' => e = .returned (.bool true) ∧ Fr No w w' := by
  have HL := hid h.1
  have hmade := made_false w
  have hw0 : ∀ w2, Fr No w w2 → PActs w2 A n l := fun w2 hf12 => by
    refine ⟨h.1, fun h0 => ?_⟩
    obtain ⟨b, o, e, hb, hc⟩ := h.2 h0
    refine ⟨b, o, e, Nat.lt_of_lt_of_le hb hf12.size, fun k x hx => ?_⟩
    obtain ⟨c1, c2, B, d, c3, c4, c5⟩ := hc k x hx
    exact ⟨hf12.cell (fun h => h) c1, c2, B, d, hf12.cell (fun h => h) c3, c4, (Rd.fr c5 hf12 (fun _ _ _ h => h)).mono fun b _ hb => Nat.lt_of_lt_of_le hb hf12.size⟩
  obtain ⟨a, ha⟩ : ∃ a, a = w.heap.size := ⟨_, rfl⟩
  rw [← ha] at hmade
  have hwa1 : a ≤ w.heap.size := Nat.le_of_eq ha
  have hwa2 : w.heap.size ≤ a := Nat.le_of_eq ha.symm
  clear ha
  have m1 := pm_Send ⟨a, 0, none⟩
  have m2 := pm_Push ⟨a, 0, none⟩
  have m3 := pm_Close ⟨a, 0, none⟩
  have m4 := pm_Left ⟨a, 0, none⟩
  have m5 := pm_Ended ⟨a, 0, none⟩
  have m6 := pm_Broken ⟨a, 0, none⟩
  have n1 := pn_Send ⟨a, 0, none⟩
  have n2 := pn_Push ⟨a, 0, none⟩
  go_enter Try.func7, Try.ntmps7
  go_wp2_with fail
  refine hmade.mono ?_
  rintro e w1 ⟨rfl, hS, hf1⟩
  have hacts := hw0 w1 hf1
  go_wp2_with fail
  refine (long_any (c := c) hacts hn).mono ?_
  rintro e w2' ⟨q, rfl, rfl, hlong⟩
  cases q with
  | true =>
    go_wp2_with fail
    refine (awake_any w1).mono ?_
    rintro e w3 ⟨rfl, hf2⟩
    go_wp2
    go_ret
    exact ⟨rfl, hf1.trans_no hf2⟩
  | false =>
    obtain ⟨h60, h9⟩ := hlong rfl
    clear hlong
    have HC := hid h.2
    have hla : a < w1.heap.size := hS.lt
    have hT0 : RWin (w1.alloc (.cells #[.bool false, .slice none 0 0, .bool false, .bool false, .bool false, .bool false, .bool false] 52)) (fun y => y = w1.heap.size) w1.heap.size false pc0 :=
      ⟨fun y hy => by subst hy; simp, rfl, none, 0, by simpa [pc0] using Blk.new w1 52 _, Nat.zero_le _, Nat.zero_le _, Rd.nil _ _ _⟩
    have hF0 : Fr No w1 (w1.alloc (.cells #[.bool false, .slice none 0 0, .bool false, .bool false, .bool false, .bool false, .bool false] 52)) := (Fr.refl No w1).alloc _
    have HS0 := hid (Blk.fr hS hF0 (fun h => h))
    have HF0 := hid (hf1.trans_no hF0)
    have HT0 := hid hT0
    clear h hacts hw0 hS hF0 hT0 hf1 hmade
    go_wp2
    generalize (w1.alloc (.cells #[.bool false, .slice none 0 0, .bool false, .bool false, .bool false, .bool false, .bool false] 52)) = w2 at HS0 HF0 HT0 ⊢
    generalize w1.heap.size = b at HT0 hla ⊢
    go_loopw [7] (fun i wr => ∃ (k : Nat) (q : Bool), k ≤ n ∧ i = .int .i64 k ∧ Hid (PWin wr a q) ∧ Hid (RWin wr (fun y => y = b) b false { pc0 with shut := q }) ∧ Hid (Fr No w wr)) (fun i _ => n - (intOf i).toNat)
    case atStart => exact ⟨0, false, Nat.zero_le _, rfl, HS0.out, HT0.out, HF0.out⟩
    case round =>
      clear HS0 HT0 HF0
      obtain ⟨k, q, hk, rfl, hS, hT, hf⟩ := hrel
      by_cases hlt : k < n
      · obtain ⟨g, o, rfl, hgw, hc⟩ := HC.out (by omega)
        have hkl : k < l.length := by have := HL.out; omega
        have hx := List.getElem?_eq_getElem hkl
        obtain ⟨c1, _, B, d, c2, hxd, hr⟩ := hc k _ hx
        have t1 := total_step hx
        have t2 := total_take_le l (k + 1)
        have hx9 : l[k].b.length ≤ 9000 := by omega
        generalize l[k] = x at c1 c2 hxd hr hx9 t1
        clear hc hx t1 t2
        have hrw : RdB wr (fun b => b < w.heap.size) B x.b.length x.b := Rd.fr hr hf.out (fun _ _ _ h => h)
        replace c1 := hf.out.cell (p := ⟨g, o + k * 2, none⟩) (fun h => h) c1
        replace c2 := hf.out.cell (p := ⟨g, o + k * 2 + 1, none⟩) (fun h => h) c2
        have g1 := Int.emod_nonneg x.kind (show (4 : Int) ≠ 0 by omega)
        have g2 := Int.emod_lt_of_pos x.kind (show (0 : Int) < 4 by omega)
        have hcopy := copy_bytes (w := wr) (c := d) hrw (by omega)
        go_wp2_with fail
        refine hcopy.mono ?_
        rintro e w3 ⟨A2, c2x, rfl, hown2, hc2, hf2⟩
        replace c1 := hf2.cell (p := ⟨g, o + k * 2, none⟩) (fun h => h) c1
        have c23 := hf2.cell (p := ⟨g, o + k * 2 + 1, none⟩) (fun h => h) c2
        go_wp2_with fail
        refine (pick_any x.kind 4 w3 (by omega) (by omega)).mono ?_
        rintro e w' ⟨rfl, rfl⟩
        generalize x.kind % 4 = m at g1 g2
        have hsz2 := hf2.size
        have hswr := hf.out.size
        have hS3 : PWin w3 a q := Blk.fr hS.out hf2 (fun h => h)
        have hSal := hS.out.lt
        have hT3 := hT.out.fr hf2 (fun _ _ h => h)
        have hT1l : b < wr.heap.size := hT.out.1 b rfl
        have hA2 : ∀ y, At A2 y → wr.heap.size ≤ y ∧ y < w3.heap.size := fun y hy => ⟨hown2.at_ y hy, own_lt hown2 y hy⟩
        have hin3 : RdB w3 (At A2) A2 x.b.length x.b := (own_self hown2).rd
        have hli3 : RdB w3 (fun b => b < w.heap.size) B x.b.length x.b := Rd.fr hrw hf2 (fun _ _ _ h => h)
        have hF3 : Fr No w w3 := hf.out.trans_no hf2
        have hinle := hown2.le
        clear c2 hcopy hrw hr
        rcases (by omega : m = 2 ∨ m = 3 ∨ (m ≠ 2 ∧ m ≠ 3)) with rfl | rfl | ⟨h2, h3⟩
        · have hop := plain_send (c := c2x) hS3 hin3 (by omega)
          obtain ⟨G, hG⟩ : ∃ G, G = (if q = true then [] else x.b) := ⟨_, rfl⟩
          rw [← hG] at hop
          have HG := hid hG
          clear hG
          go_wp2_with fail
          refine hop.mono ?_
          rintro e w4 ⟨A3, c3, rfl, hown3, hc3, hf3n⟩
          have hf3 : Fr (· = a) w3 w4 := hf3n.of_no
          have hS4 : PWin w4 a q := Blk.fr hS3 hf3n (fun h => h)
          have hsz3 := hf3.size
          have c24 := hf3.cell (p := ⟨g, o + k * 2 + 1, none⟩) (fun h => by have h : g = a := h; omega) c23
          have hT4 := hT3.fr hf3 (fun y h2 h1 => by have h1 : y = a := h1; have h2 : y = b := h2; omega)
          have hli4 := Rd.fr hli3 hf3 (fun y _ hy h => by have h : y = a := h; omega)
          have hin4 := Rd.fr hin3 hf3 (fun y _ hy h => by have := (hA2 y hy).1; have h : y = a := h; omega)
          have hrs := rpsend_any (d := d) hT4 hli4 (by omega)
          simp only at hrs
          rw [← HG.out] at hrs
          go_wp2_with fail
          refine hrs.mono ?_
          rintro e w5 ⟨A4, c4, rfl, hown4, hc4, hT5, hf4⟩
          have hsz4 := hf4.size
          have c25 := hf4.cell (p := ⟨g, o + k * 2 + 1, none⟩) (fun h => by have h : g = b := h; omega) c24
          have hS5 : PWin w5 a q := Blk.fr hS4 hf4 (fun h => by have h : a = b := h; omega)
          have hA3 : ∀ y, At A3 y → w3.heap.size ≤ y := fun y hy => hown3.at_ y hy
          have hown35 := (own_self hown3).fr hf4 (fun y _ hy h => by have := hA3 y hy; have h : y = b := h; omega)
          have hsame := same_bytes (w := w5) (c := c3) (d := c4) hown35.rd hown4.rd
          go_wp2_with fail
          refine hsame.mono ?_
          rintro e w6 ⟨rfl, rfl⟩
          go_wp2_with fail
          refine (over_own hown35 hc3).mono ?_
          rintro e w6 ⟨rfl, hf5⟩
          have hsz5 := hf5.size
          have hS6 : PWin w6 a q := Blk.fr hS5 hf5 (fun h => by have := hA3 _ h; omega)
          have hT6 := hT5.fr hf5 (fun y h1 h => by have h1 : y = b := h1; have := hA3 y h; omega)
          have hin6 : RdB w6 (At A2) A2 x.b.length x.b := Rd.fr (Rd.fr hin4 hf4 (fun y _ hy h => by have := (hA2 y hy).1; have h : y = b := h; omega)) hf5 (fun y _ hy h => by have := (hA2 y hy).2; have := hA3 y h; omega)
          have hli6 : RdB w6 (fun y => y < w.heap.size) B x.b.length x.b := Rd.fr (Rd.fr hli4 hf4 (fun y _ hy h => by have h : y = b := h; omega)) hf5 (fun y _ hy h => by have := hA3 y h; omega)
          have hown26 := (((own_self hown2).fr hf3 (fun y _ hy h => by have := (hA2 y hy).1; have h : y = a := h; omega)).fr hf4 (fun y _ hy h => by have := (hA2 y hy).1; have h : y = b := h; omega)).fr hf5 (fun y _ hy h => by have := (hA2 y hy).2; have := hA3 y h; omega)
          have c26 := hf5.cell (p := ⟨g, o + k * 2 + 1, none⟩) (fun h => by have := hA3 g h; omega) c25
          have hF6 : Fr No w w6 := ((hF3.trans_new hf3 (fun y hy => .inr (by have hy : y = a := hy; omega))).trans_new hf4 (fun y hy => .inr (by have hy : y = b := hy; omega))).trans_new hf5 (fun y hy => .inr (by have := hA3 y hy; omega))
          have hT6' := hT6
          obtain ⟨_, _, A9, c9, hB9, _, _, _⟩ := hT6'
          have p1 := hB9.cell 1
          have p3 := hB9.cell 3
          have p4 := hB9.cell 4
          have hlb9 := hB9.lt
          simp [pc0] at p1 p3 p4
          have HF6 := hid hF6
          have HOWN := hid hown26
          have HA2 := hid hA2
          have HS6 := hid hS6
          clear hB9 hF6 hown26 hf3 hf4 hf5 hF3 hS3 hT3 hT4 hS5 hT5 c23 c24 c25 hin3 hin4 hli3 hli4 hS6
          go_wp2
          go_quiet (first
            | (go_at_call 12; exact Calls.quiet_of_same ((same_bytes (w := w6.drewN _) (c := c2x) (d := d) hin6 hli6).mono fun _ _ h => ⟨h.1, h.2.symm⟩))
            | (go_at_call 70; exact Calls.quiet_of_same ((plain_left (w := w6.drewN _)).mono fun _ _ h => ⟨h.1, h.2.symm⟩))
            | (go_at_call 69; exact Calls.quiet_of_same ((plain_ended (w := w6.drewN _)).mono fun _ _ h => ⟨h.1, h.2.symm⟩))
            | (go_at_call 67; exact Calls.quiet_of_same ((plain_broken (w := w6.drewN _)).mono fun _ _ h => ⟨h.1, h.2.symm⟩)))
          go_wp2_with fail
          refine (over_own (w := w6.drewN _) HOWN.out hc2).mono ?_
          rintro e w8 ⟨rfl, hf8⟩
          have hf8' := Fr.of_drewN hf8
          go_wp2
          go_roundw
          case rel => exact ⟨k + 1, q, by omega, by go_num, Blk.fr HS6.out hf8' (fun h => by have := (HA2.out _ h).1; omega), hT6.fr hf8' (fun y h1 h => by have h1 : y = b := h1; have := (HA2.out y h).1; omega), HF6.out.trans_new hf8' (fun y hy => .inr (by have := (HA2.out y hy).1; omega))⟩
          case measure => simp [intOf]; omega
        · go_wp2_with fail
          refine (plain_close hS3).mono ?_
          rintro e w4 ⟨rfl, hS4, hf3⟩
          have hown3 : Ost.Own w4 (Ge w3.heap.size) 5 Byte none 0 0 (([] : List UInt8).map bv) := Ost.Own.nil _ _ _ _
          have hc3 : 0 ≤ maxLen := Nat.zero_le _
          have hsz3 := hf3.size
          have c24 := hf3.cell (p := ⟨g, o + k * 2 + 1, none⟩) (fun h => by have h : g = a := h; omega) c23
          have hT4 := hT3.fr hf3 (fun y h2 h1 => by have h1 : y = a := h1; have h2 : y = b := h2; omega)
          have hli4 := Rd.fr hli3 hf3 (fun y _ hy h => by have h : y = a := h; omega)
          have hin4 := Rd.fr hin3 hf3 (fun y _ hy h => by have := (hA2 y hy).1; have h : y = a := h; omega)
          go_wp2_with fail
          refine (rpclose_any hT4).mono ?_
          rintro e w5 ⟨A4, c4, rfl, hown4, hc4, hT5, hf4⟩
          have hsz4 := hf4.size
          have c25 := hf4.cell (p := ⟨g, o + k * 2 + 1, none⟩) (fun h => by have h : g = b := h; omega) c24
          have hS5 : PWin w5 a true := Blk.fr hS4 hf4 (fun h => by have h : a = b := h; omega)
          have hA3 : ∀ y, At (none : Option Addr) y → w3.heap.size ≤ y := fun y hy => hown3.at_ y hy
          have hown35 := (own_self hown3).fr hf4 (fun y _ hy h => by have := hA3 y hy; have h : y = b := h; omega)
          have hsame := same_bytes (w := w5) (c := 0) (d := c4) hown35.rd hown4.rd
          go_wp2_with fail
          refine hsame.mono ?_
          rintro e w6 ⟨rfl, rfl⟩
          go_wp2_with fail
          refine (over_own hown35 hc3).mono ?_
          rintro e w6 ⟨rfl, hf5⟩
          have hsz5 := hf5.size
          have hS6 : PWin w6 a true := Blk.fr hS5 hf5 (fun h => by have := hA3 _ h; omega)
          have hT6 := hT5.fr hf5 (fun y h1 h => by have h1 : y = b := h1; have := hA3 y h; omega)
          have hin6 : RdB w6 (At A2) A2 x.b.length x.b := Rd.fr (Rd.fr hin4 hf4 (fun y _ hy h => by have := (hA2 y hy).1; have h : y = b := h; omega)) hf5 (fun y _ hy h => by have := (hA2 y hy).2; have := hA3 y h; omega)
          have hli6 : RdB w6 (fun y => y < w.heap.size) B x.b.length x.b := Rd.fr (Rd.fr hli4 hf4 (fun y _ hy h => by have h : y = b := h; omega)) hf5 (fun y _ hy h => by have := hA3 y h; omega)
          have hown26 := (((own_self hown2).fr hf3 (fun y _ hy h => by have := (hA2 y hy).1; have h : y = a := h; omega)).fr hf4 (fun y _ hy h => by have := (hA2 y hy).1; have h : y = b := h; omega)).fr hf5 (fun y _ hy h => by have := (hA2 y hy).2; have := hA3 y h; omega)
          have c26 := hf5.cell (p := ⟨g, o + k * 2 + 1, none⟩) (fun h => by have := hA3 g h; omega) c25
          have hF6 : Fr No w w6 := ((hF3.trans_new hf3 (fun y hy => .inr (by have hy : y = a := hy; omega))).trans_new hf4 (fun y hy => .inr (by have hy : y = b := hy; omega))).trans_new hf5 (fun y hy => .inr (by have := hA3 y hy; omega))
          have hT6' := hT6
          obtain ⟨_, _, A9, c9, hB9, _, _, _⟩ := hT6'
          have p1 := hB9.cell 1
          have p3 := hB9.cell 3
          have p4 := hB9.cell 4
          have hlb9 := hB9.lt
          simp [pc0] at p1 p3 p4
          have HF6 := hid hF6
          have HOWN := hid hown26
          have HA2 := hid hA2
          have HS6 := hid hS6
          clear hB9 hF6 hown26 hf3 hf4 hf5 hF3 hS3 hT3 hT4 hS5 hT5 c23 c24 c25 hin3 hin4 hli3 hli4 hS6
          go_wp2
          go_quiet (first
            | (go_at_call 12; exact Calls.quiet_of_same ((same_bytes (w := w6.drewN _) (c := c2x) (d := d) hin6 hli6).mono fun _ _ h => ⟨h.1, h.2.symm⟩))
            | (go_at_call 70; exact Calls.quiet_of_same ((plain_left (w := w6.drewN _)).mono fun _ _ h => ⟨h.1, h.2.symm⟩))
            | (go_at_call 69; exact Calls.quiet_of_same ((plain_ended (w := w6.drewN _)).mono fun _ _ h => ⟨h.1, h.2.symm⟩))
            | (go_at_call 67; exact Calls.quiet_of_same ((plain_broken (w := w6.drewN _)).mono fun _ _ h => ⟨h.1, h.2.symm⟩)))
          go_wp2_with fail
          refine (over_own (w := w6.drewN _) HOWN.out hc2).mono ?_
          rintro e w8 ⟨rfl, hf8⟩
          have hf8' := Fr.of_drewN hf8
          go_wp2
          go_roundw
          case rel => exact ⟨k + 1, true, by omega, by go_num, Blk.fr HS6.out hf8' (fun h => by have := (HA2.out _ h).1; omega), hT6.fr hf8' (fun y h1 h => by have h1 : y = b := h1; have := (HA2.out y h).1; omega), HF6.out.trans_new hf8' (fun y hy => .inr (by have := (HA2.out y hy).1; omega))⟩
          case measure => simp [intOf]; omega
        · have hop := plain_push (a := a) (c := c2x) hin3 (by omega)
          go_wp2_with fail
          refine hop.mono ?_
          rintro e w4 ⟨A3, c3, rfl, hown3, hc3, hf3n⟩
          have hf3 : Fr (· = a) w3 w4 := hf3n.of_no
          have hS4 : PWin w4 a q := Blk.fr hS3 hf3n (fun h => h)
          have hsz3 := hf3.size
          have c24 := hf3.cell (p := ⟨g, o + k * 2 + 1, none⟩) (fun h => by have h : g = a := h; omega) c23
          have hT4 := hT3.fr hf3 (fun y h2 h1 => by have h1 : y = a := h1; have h2 : y = b := h2; omega)
          have hli4 := Rd.fr hli3 hf3 (fun y _ hy h => by have h : y = a := h; omega)
          have hin4 := Rd.fr hin3 hf3 (fun y _ hy h => by have := (hA2 y hy).1; have h : y = a := h; omega)
          have hrs := rppush_any (d := d) hT4 rfl rfl hli4 (by omega)
          go_wp2_with fail
          refine hrs.mono ?_
          rintro e w5 ⟨A4, c4, rfl, hown4, hc4, hf4n⟩
          have hf4 : Fr (· = b) w4 w5 := hf4n.of_no
          have hT5 := hT4.fr hf4n (fun _ _ h => h)
          have hsz4 := hf4.size
          have c25 := hf4.cell (p := ⟨g, o + k * 2 + 1, none⟩) (fun h => by have h : g = b := h; omega) c24
          have hS5 : PWin w5 a q := Blk.fr hS4 hf4 (fun h => by have h : a = b := h; omega)
          have hA3 : ∀ y, At A3 y → w3.heap.size ≤ y := fun y hy => hown3.at_ y hy
          have hown35 := (own_self hown3).fr hf4 (fun y _ hy h => by have := hA3 y hy; have h : y = b := h; omega)
          have hsame := same_bytes (w := w5) (c := c3) (d := c4) hown35.rd hown4.rd
          go_wp2_with fail
          refine hsame.mono ?_
          rintro e w6 ⟨rfl, rfl⟩
          go_wp2_with fail
          refine (over_own hown35 hc3).mono ?_
          rintro e w6 ⟨rfl, hf5⟩
          have hsz5 := hf5.size
          have hS6 : PWin w6 a q := Blk.fr hS5 hf5 (fun h => by have := hA3 _ h; omega)
          have hT6 := hT5.fr hf5 (fun y h1 h => by have h1 : y = b := h1; have := hA3 y h; omega)
          have hin6 : RdB w6 (At A2) A2 x.b.length x.b := Rd.fr (Rd.fr hin4 hf4 (fun y _ hy h => by have := (hA2 y hy).1; have h : y = b := h; omega)) hf5 (fun y _ hy h => by have := (hA2 y hy).2; have := hA3 y h; omega)
          have hli6 : RdB w6 (fun y => y < w.heap.size) B x.b.length x.b := Rd.fr (Rd.fr hli4 hf4 (fun y _ hy h => by have h : y = b := h; omega)) hf5 (fun y _ hy h => by have := hA3 y h; omega)
          have hown26 := (((own_self hown2).fr hf3 (fun y _ hy h => by have := (hA2 y hy).1; have h : y = a := h; omega)).fr hf4 (fun y _ hy h => by have := (hA2 y hy).1; have h : y = b := h; omega)).fr hf5 (fun y _ hy h => by have := (hA2 y hy).2; have := hA3 y h; omega)
          have c26 := hf5.cell (p := ⟨g, o + k * 2 + 1, none⟩) (fun h => by have := hA3 g h; omega) c25
          have hF6 : Fr No w w6 := ((hF3.trans_new hf3 (fun y hy => .inr (by have hy : y = a := hy; omega))).trans_new hf4 (fun y hy => .inr (by have hy : y = b := hy; omega))).trans_new hf5 (fun y hy => .inr (by have := hA3 y hy; omega))
          have hT6' := hT6
          obtain ⟨_, _, A9, c9, hB9, _, _, _⟩ := hT6'
          have p1 := hB9.cell 1
          have p3 := hB9.cell 3
          have p4 := hB9.cell 4
          have hlb9 := hB9.lt
          simp [pc0] at p1 p3 p4
          have HF6 := hid hF6
          have HOWN := hid hown26
          have HA2 := hid hA2
          have HS6 := hid hS6
          clear hB9 hF6 hown26 hf3 hf4 hf5 hF3 hS3 hT3 hT4 hS5 hT5 c23 c24 c25 hin3 hin4 hli3 hli4 hS6
          go_wp2
          go_quiet (first
            | (go_at_call 12; exact Calls.quiet_of_same ((same_bytes (w := w6.drewN _) (c := c2x) (d := d) hin6 hli6).mono fun _ _ h => ⟨h.1, h.2.symm⟩))
            | (go_at_call 70; exact Calls.quiet_of_same ((plain_left (w := w6.drewN _)).mono fun _ _ h => ⟨h.1, h.2.symm⟩))
            | (go_at_call 69; exact Calls.quiet_of_same ((plain_ended (w := w6.drewN _)).mono fun _ _ h => ⟨h.1, h.2.symm⟩))
            | (go_at_call 67; exact Calls.quiet_of_same ((plain_broken (w := w6.drewN _)).mono fun _ _ h => ⟨h.1, h.2.symm⟩)))
          go_wp2_with fail
          refine (over_own (w := w6.drewN _) HOWN.out hc2).mono ?_
          rintro e w8 ⟨rfl, hf8⟩
          have hf8' := Fr.of_drewN hf8
          go_wp2
          go_roundw
          case rel => exact ⟨k + 1, q, by omega, by go_num, Blk.fr HS6.out hf8' (fun h => by have := (HA2.out _ h).1; omega), hT6.fr hf8' (fun y h1 h => by have h1 : y = b := h1; have := (HA2.out y h).1; omega), HF6.out.trans_new hf8' (fun y hy => .inr (by have := (HA2.out y hy).1; omega))⟩
          case measure => simp [intOf]; omega
      · go_wp2_with fail
        refine (awake_any wr).mono ?_
        rintro e w3 ⟨rfl, hf2⟩
        go_wp2
        go_ret
        exact ⟨rfl, hf.out.trans_no hf2⟩
end Go.Proofs.Ytfkkaalchffgaaa
