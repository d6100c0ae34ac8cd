/- PipeScript, walked (a sealed channel). -/
import Derived.Test.YtfkkaalchffgaaaRplain
import Derived.Test.YtfkkaalchffgaaaTell
import Derived.Test.YtfkkaalchffgaaaPacts
import Derived.Test.YtfkkaalchffgaaaBack
import Derived.Test.YtfkkaalchffgaaaOver
namespace Go.Ost
theorem PC.run_blen : ∀ (f : Nat) (s : PC) (out : List UInt8), (PC.run f s out).2.2.b.length ≤ s.b.length
  | 0, s, out => Nat.le_refl _
  | f + 1, s, out => by
    have hk := (PC.one_keeps s).1
    unfold PC.run
    split
    · simp
    · split
      · simp
      · split
        · simp only [List.length_drop]; rw [hk]; omega
        · refine Nat.le_trans (PC.run_blen f _ _) ?_
          simp only [List.length_drop]; rw [hk]; omega
theorem PC.push_blen (s : PC) (p : List UInt8) : (s.push p).2.2.b.length ≤ s.b.length + p.length ∧ (s.push p).1.length ≤ s.b.length + p.length := by
  unfold PC.push
  split
  · exact ⟨by simp only; omega, by simp⟩
  · refine ⟨?_, ?_⟩
    · have := PC.run_blen (s.b.length + p.length + 1) { s with b := s.b ++ p } []
      simpa using this
    · have := PC.run_len (s.b.length + p.length + 1) { s with b := s.b ++ p } []
      simpa using this
theorem PC.send_b (s : PC) (p : List UInt8) : (s.send p).2.b = s.b := by unfold PC.send; split <;> rfl
theorem PC.close_b (s : PC) : s.close.2.b = s.b := by unfold PC.close; split <;> rfl
end Go.Ost
namespace Go.Proofs.Ytfkkaalchffgaaa
open Go.RowKit Go.Ost

theorem made_true (w : World) : Calls Try.prog 22 #[.bool true] w fun e w' => e = .returned (.iface 54 (.pointer (some ⟨w.heap.size, 0, none⟩))) ∧ SWin w' (fun b => b = w.heap.size) w.heap.size pc0 ∧ Fr No w w' := by
  go_enter Try.func22, Try.ntmps22
  go_wp2_with fail
  refine (sealed_new w).mono ?_
  rintro e w1 ⟨rfl, hS, hf1⟩
  go_wp2
  go_ret
  exact ⟨rfl, hS, hf1⟩
theorem made_false (w : World) : Calls Try.prog 22 #[.bool false] w fun e w' => e = .returned (.iface 58 (.pointer (some ⟨w.heap.size, 0, none⟩))) ∧ PWin w' w.heap.size false ∧ Fr No w w' := by
  go_enter Try.func22, Try.ntmps22
  go_wp2_with fail
  refine (plain_new w).mono ?_
  rintro e w1 ⟨rfl, hS, hf1⟩
  go_wp2
  go_ret
  exact ⟨rfl, hS, hf1⟩

set_option maxRecDepth 100000 in
set_option maxHeartbeats 8000000 in
theorem script_sealed {w : World} {A : Option Addr} {n c : Nat} {l : List PAct} (h : PActs w A n l) (hn : n ≤ 9223372036854775807) :
    Calls Try.prog 7 #[.bool true, .slice A n c] w fun e w' => e = .returned (.bool true) ∧ Fr No w w' := by
  have HL := hid h.1
  have hmade := made_true w
  have hw0 : ∀ w2, Fr No w w2 → PActs w2 A n l := fun w2 hf12 => by
    refine ⟨h.1, fun h0 => ?_⟩
    obtain ⟨b, o, e, hb, hc⟩ := h.2 h0
    refine ⟨b, o, e, Nat.lt_of_lt_of_le hb hf12.size, fun k x hx => ?_⟩
    obtain ⟨c1, c2, B, d, c3, c4, c5⟩ := hc k x hx
    exact ⟨hf12.cell (fun h => h) c1, c2, B, d, hf12.cell (fun h => h) c3, c4, (Rd.fr c5 hf12 (fun _ _ _ h => h)).mono fun b _ hb => Nat.lt_of_lt_of_le hb hf12.size⟩
  obtain ⟨a, ha⟩ : ∃ a, a = w.heap.size := ⟨_, rfl⟩
  rw [← ha] at hmade
  have hwa1 : a ≤ w.heap.size := Nat.le_of_eq ha
  have hwa2 : w.heap.size ≤ a := Nat.le_of_eq ha.symm
  clear ha
  have m1 := sm_Send ⟨a, 0, none⟩
  have m2 := sm_Push ⟨a, 0, none⟩
  have m3 := sm_Close ⟨a, 0, none⟩
  have m4 := sm_Left ⟨a, 0, none⟩
  have m5 := sm_Ended ⟨a, 0, none⟩
  have m6 := sm_Broken ⟨a, 0, none⟩
  have n1 := sn_Send ⟨a, 0, none⟩
  have n2 := sn_Push ⟨a, 0, none⟩
  go_enter Try.func7, Try.ntmps7
  go_wp2_with fail
  refine hmade.mono ?_
  rintro e w1 ⟨rfl, hS, hf1⟩
  have hacts := hw0 w1 hf1
  go_wp2_with fail
  refine (long_any (c := c) hacts hn).mono ?_
  rintro e w2' ⟨q, rfl, rfl, hlong⟩
  cases q with
  | true =>
    go_wp2_with fail
    refine (awake_any w1).mono ?_
    rintro e w3 ⟨rfl, hf2⟩
    go_wp2
    go_ret
    exact ⟨rfl, hf1.trans_no hf2⟩
  | false =>
    obtain ⟨h60, h9⟩ := hlong rfl
    clear hlong
    have HC := hid h.2
    have hla := hS.1 a rfl
    have hT0 : RWin (w1.alloc (.cells #[.bool true, .slice none 0 0, .bool false, .bool false, .bool false, .bool false, .bool false] 52)) (fun y => y = w1.heap.size) w1.heap.size true pc0 :=
      ⟨fun y hy => by subst hy; simp, rfl, none, 0, by simpa [pc0] using Blk.new w1 52 _, Nat.zero_le _, Nat.zero_le _, Rd.nil _ _ _⟩
    have hF0 : Fr No w1 (w1.alloc (.cells #[.bool true, .slice none 0 0, .bool false, .bool false, .bool false, .bool false, .bool false] 52)) := (Fr.refl No w1).alloc _
    have HS0 := hid (hS.fr hF0 (fun _ _ h => h))
    have HF0 := hid (hf1.trans_no hF0)
    have HT0 := hid hT0
    clear h hacts hw0 hS hF0 hT0 hf1 hmade
    go_wp2
    generalize (w1.alloc (.cells #[.bool true, .slice none 0 0, .bool false, .bool false, .bool false, .bool false, .bool false] 52)) = w2 at HS0 HF0 HT0 ⊢
    generalize w1.heap.size = b at HT0 hla ⊢
    go_loopw [7] (fun i wr => ∃ (k : Nat) (s : PC) (O1 O2 : Nat → Prop), k ≤ n ∧ i = .int .i64 k ∧ Hid (SWin wr O1 a s) ∧ Hid (RWin wr O2 b true s) ∧ Hid (∀ y, O1 y → a ≤ y ∧ ¬ O2 y) ∧ Hid (∀ y, O2 y → a ≤ y) ∧ Hid (s.b.length ≤ total (l.take k)) ∧ Hid (Fr No w wr)) (fun i _ => n - (intOf i).toNat)
    case atStart => exact ⟨0, pc0, (fun y => y = a), (fun y => y = b), Nat.zero_le _, rfl, HS0.out, HT0.out, fun y hy => ⟨by omega, by omega⟩, fun y hy => by omega, by simp [Hid, pc0], HF0.out⟩
    case round =>
      clear HS0 HT0 HF0
      obtain ⟨k, s, O1, O2, hk, rfl, hS, hT, hO1, hO2, hsb, hf⟩ := hrel
      by_cases hlt : k < n
      · obtain ⟨g, o, rfl, hgw, hc⟩ := HC.out (by omega)
        have hkl : k < l.length := by have := HL.out; omega
        have hx := List.getElem?_eq_getElem hkl
        obtain ⟨c1, _, B, d, c2, hxd, hr⟩ := hc k _ hx
        have t1 := total_step hx
        have t2 := total_take_le l (k + 1)
        have t3 := hsb.out
        have hx9 : l[k].b.length ≤ 9000 := by omega
        generalize l[k] = x at c1 c2 hxd hr hx9 t1
        have hsx : Hid (s.b.length + x.b.length ≤ total (l.take (k + 1))) := by simp only [Hid]; omega
        have hsx9 : s.b.length + x.b.length ≤ 9000 := by omega
        clear hc hx t1 t2 t3
        have hrw : RdB wr (fun b => b < w.heap.size) B x.b.length x.b := Rd.fr hr hf.out (fun _ _ _ h => h)
        replace c1 := hf.out.cell (p := ⟨g, o + k * 2, none⟩) (fun h => h) c1
        replace c2 := hf.out.cell (p := ⟨g, o + k * 2 + 1, none⟩) (fun h => h) c2
        have g1 := Int.emod_nonneg x.kind (show (4 : Int) ≠ 0 by omega)
        have g2 := Int.emod_lt_of_pos x.kind (show (0 : Int) < 4 by omega)
        have hcopy := copy_bytes (w := wr) (c := d) hrw (by omega)
        go_wp2_with fail
        refine hcopy.mono ?_
        rintro e w3 ⟨A2, c2x, rfl, hown2, hc2, hf2⟩
        replace c1 := hf2.cell (p := ⟨g, o + k * 2, none⟩) (fun h => h) c1
        have c23 := hf2.cell (p := ⟨g, o + k * 2 + 1, none⟩) (fun h => h) c2
        go_wp2_with fail
        refine (pick_any x.kind 4 w3 (by omega) (by omega)).mono ?_
        rintro e w' ⟨rfl, rfl⟩
        generalize x.kind % 4 = m at g1 g2
        have hO1' := hO1.out
        have hO2' := hO2.out
        have hsz2 := hf2.size
        have hswr := hf.out.size
        have hS3 := hS.out.fr hf2 (fun _ _ h => h)
        have hT3 := hT.out.fr hf2 (fun _ _ h => h)
        have hS1l := hS.out.1
        have hT1l := hT.out.1
        have hSa := hS.out.2.1
        have hTb := hT.out.2.1
        have hA2 : ∀ y, At A2 y → wr.heap.size ≤ y ∧ y < w3.heap.size := fun y hy => ⟨hown2.at_ y hy, own_lt hown2 y hy⟩
        have hin3 : RdB w3 (At A2) A2 x.b.length x.b := (own_self hown2).rd
        have hli3 : RdB w3 (fun b => b < w.heap.size) B x.b.length x.b := Rd.fr hrw hf2 (fun _ _ _ h => h)
        have hF3 : Fr No w w3 := hf.out.trans_no hf2
        have hinle := hown2.le
        clear c2 hcopy hrw hr
        rcases (by omega : m = 2 ∨ m = 3 ∨ (m ≠ 2 ∧ m ≠ 3)) with rfl | rfl | ⟨h2, h3⟩
        · have hop := send_any (c := c2x) hS3 hin3 (fun y hy => ⟨by have := (hA2 y hy).1; have := hS1l a hSa; omega, (hA2 y hy).2⟩) hinle hx9
          obtain ⟨r, hr⟩ : ∃ r, r = s.send x.b := ⟨_, rfl⟩
          have hrb0 := PC.send_b s x.b
          rw [← hr] at hop hrb0
          have HR := hid hr
          clear hr
          obtain ⟨out, s'⟩ := r
          simp only at hop hrb0
          have hrb : Hid (s'.b.length ≤ total (l.take (k + 1))) := by have := hsx.out; simp only [Hid]; rw [hrb0]; omega
          clear hrb0
          go_wp2_with fail
          refine hop.mono ?_
          rintro e w4 ⟨A3, c3, rfl, hown3, hc3, hS4, hf3⟩
          obtain ⟨P1, hP1e⟩ : ∃ P1 : Nat → Prop, P1 = O1 := ⟨_, rfl⟩
          have hQ1 : ∀ y, P1 y → O1 y ∨ w3.heap.size ≤ y := fun y hy => .inl (hP1e ▸ hy)
          have hQ1l : ∀ y, P1 y → y < wr.heap.size := fun y hy => hS1l y (hP1e ▸ hy)
          rw [← hP1e] at hS4
          clear hP1e
          have hsz3 := hf3.size
          have c24 := hf3.cell (p := ⟨g, o + k * 2 + 1, none⟩) (fun h => by have h : g = a := h; omega) c23
          have hT4 := hT3.fr hf3 (fun y h2 h1 => by have h1 : y = a := h1; subst h1; exact (hO1' _ hSa).2 h2)
          have hli4 := Rd.fr hli3 hf3 (fun y _ hy h => by omega)
          have hin4 := Rd.fr hin3 hf3 (fun y _ hy h => by have := (hA2 y hy).1; have := hS1l a hSa; omega)
          have hlt3 := own_lt hown3
          have hge3 : ∀ y, At A3 y → w3.heap.size ≤ y := fun y hy => by have := hown3.at_ y hy; exact this
          have hrs := rsend_any (d := d) hT4 hli4 (fun y hy => ⟨by have := hO2' b hTb; omega, by omega⟩) hxd hx9
          rw [← HR.out] at hrs
          go_wp2_with fail
          refine hrs.mono ?_
          rintro e w5 ⟨A4, c4, rfl, hown4x, hc4, hT5, hf4⟩
          have hown4 := hown4x.rd
          obtain ⟨P2, hP2e⟩ : ∃ P2 : Nat → Prop, P2 = O2 := ⟨_, rfl⟩
          have hQ2 : ∀ y, P2 y → O2 y ∨ w4.heap.size ≤ y := fun y hy => .inl (hP2e ▸ hy)
          rw [← hP2e] at hT5
          clear hP2e
          have hsz4 := hf4.size
          have c25 := hf4.cell (p := ⟨g, o + k * 2 + 1, none⟩) (fun h => by have h : g = b := h; have := hO2' b hTb; omega) c24
          have hP1l := hS4.1
          have hP12 : ∀ y, P1 y → ¬ P2 y := fun y h1 h2 => by
            have hy4 := hP1l y h1
            rcases hQ2 y h2 with h2 | h2
            · rcases hQ1 y h1 with h1 | h1
              · exact (hO1' y h1).2 h2
              · have := hT1l y h2; omega
            · omega
          have hb1 : ¬ P1 b := fun h => by
            rcases hQ1 b h with h | h
            · exact (hO1' b h).2 hTb
            · have := hT1l b hTb; omega
          have hS5 := hS4.fr hf4 (fun y h1 h2 => by have h2 : y = b := h2; subst h2; exact hb1 h1)
          have hown35 := (own_self hown3).fr hf4 (fun y _ hy h => by have := hge3 y hy; have := hT1l b hTb; omega)
          have hA3 : ∀ y, At A3 y → w3.heap.size ≤ y ∧ ¬ P1 y ∧ ¬ P2 y := fun y hy => by
            have h3 := hge3 y hy
            have h4 := hlt3 y hy
            refine ⟨h3, fun h => ?_, fun h => ?_⟩
            · have := hQ1l y h; omega
            · rcases hQ2 y h with h | h
              · have := hT1l y h; omega
              · omega
          have hP1 : Hid (∀ y, P1 y → a ≤ y ∧ ¬ P2 y) := fun y hy => ⟨by rcases hQ1 y hy with h | h; exact (hO1' y h).1; omega, hP12 y hy⟩
          have hP2 : Hid (∀ y, P2 y → a ≤ y) := fun y hy => by rcases hQ2 y hy with h | h; exact hO2' y h; omega
          have hPA : ∀ y, At A2 y → ¬ P1 y ∧ ¬ P2 y := fun y hy => by
            have hq := hA2 y hy
            refine ⟨fun h => ?_, fun h => ?_⟩
            · rcases hQ1 y h with h | h
              · have := hS1l y h; omega
              · omega
            · rcases hQ2 y h with h | h
              · have := hT1l y h; omega
              · omega
          have hsame := same_bytes (w := w5) (c := c3) (d := c4) hown35.rd hown4
          clear hop hrs
          go_wp2_with fail
          refine hsame.mono ?_
          rintro e w6 ⟨rfl, rfl⟩
          go_wp2_with fail
          refine (over_own hown35 hc3).mono ?_
          rintro e w6 ⟨rfl, hf5⟩
          have hsz5 := hf5.size
          have hS6 := hS5.fr hf5 (fun y h1 h => (hA3 y h).2.1 h1)
          have hT6 := hT5.fr hf5 (fun y h1 h => (hA3 y h).2.2 h1)
          have hin6 : RdB w6 (At A2) A2 x.b.length x.b := Rd.fr (Rd.fr hin4 hf4 (fun y _ hy h => by have := (hA2 y hy).1; have := hT1l b hTb; omega)) hf5 (fun y _ hy h => by have := (hA2 y hy).2; have := (hA3 y h).1; omega)
          have hli6 : RdB w6 (fun y => y < w.heap.size) B x.b.length x.b := Rd.fr (Rd.fr hli4 hf4 (fun y _ hy h => by have := hO2' b hTb; omega)) hf5 (fun y _ hy h => by have := (hA3 y h).1; omega)
          have hown26 := (((own_self hown2).fr hf3 (fun y _ hy h => by have := (hA2 y hy).1; have := hS1l a hSa; omega)).fr hf4 (fun y _ hy h => by have := (hA2 y hy).1; have := hT1l b hTb; omega)).fr hf5 (fun y _ hy h => by have := (hA2 y hy).2; have := (hA3 y h).1; omega)
          have c26 := hf5.cell (p := ⟨g, o + k * 2 + 1, none⟩) (fun h => by have := (hA3 g h).1; omega) c25
          have hF6 : Fr No w w6 := ((hF3.trans_new hf3 (fun y hy => .inr (by omega))).trans_new hf4 (fun y hy => .inr (by have := hO2' b hTb; omega))).trans_new hf5 (fun y hy => .inr (by have := (hA3 y hy).1; omega))
          have hT6' := hT6
          obtain ⟨_, _, A9, c9, hB9, _, _, _⟩ := hT6'
          have p1 := hB9.cell 1
          have p3 := hB9.cell 3
          have p4 := hB9.cell 4
          have hlb9 := hB9.lt
          simp at p1 p3 p4
          have HF6 := hid hF6
          have HOWN := hid hown26
          have HA2 := hid hA2
          clear hB9 hF6 hown26 hf3 hf4 hf5 hF3 hS3 hT3 hS4 hT4 hS5 hT5 c23 c24 c25 hin3 hin4 hli3 hli4 hown3
          go_wp2
          go_quiet (first
            | (go_at_call 12; exact Calls.quiet_of_same ((same_bytes (w := w6.drewN _) (c := c2x) (d := d) hin6 hli6).mono fun _ _ h => ⟨h.1, h.2.symm⟩))
            | (go_at_call 52; exact Calls.quiet_of_same ((left_any (w := w6.drewN _) hS6).mono fun _ _ h => ⟨h.1, h.2.symm⟩))
            | (go_at_call 51; exact Calls.quiet_of_same ((ended_any (w := w6.drewN _) hS6).mono fun _ _ h => ⟨h.1, h.2.symm⟩))
            | (go_at_call 49; exact Calls.quiet_of_same ((broken_any (w := w6.drewN _) hS6).mono fun _ _ h => ⟨h.1, h.2.symm⟩)))
          go_wp2_with fail
          refine (over_own (w := w6.drewN _) HOWN.out hc2).mono ?_
          rintro e w8 ⟨rfl, hf8⟩
          have hf8' := Fr.of_drewN hf8
          go_wp2
          go_roundw
          case rel => exact ⟨k + 1, s', P1, P2, by omega, by go_num, hS6.fr hf8' (fun y h1 h => (hPA y h).1 h1), hT6.fr hf8' (fun y h1 h => (hPA y h).2 h1), hP1, hP2, hrb, HF6.out.trans_new hf8' (fun y hy => .inr (by have := (HA2.out y hy).1; omega))⟩
          case measure => simp [intOf]; omega
        · have hop := close_any hS3
          obtain ⟨r, hr⟩ : ∃ r, r = s.close := ⟨_, rfl⟩
          have hrb0 := PC.close_b s
          rw [← hr] at hop hrb0
          have HR := hid hr
          clear hr
          obtain ⟨out, s'⟩ := r
          simp only at hop hrb0
          have hrb : Hid (s'.b.length ≤ total (l.take (k + 1))) := by have := hsx.out; simp only [Hid]; rw [hrb0]; omega
          clear hrb0
          go_wp2_with fail
          refine hop.mono ?_
          rintro e w4 ⟨A3, c3, rfl, hown3, hc3, hS4, hf3⟩
          obtain ⟨P1, hP1e⟩ : ∃ P1 : Nat → Prop, P1 = O1 := ⟨_, rfl⟩
          have hQ1 : ∀ y, P1 y → O1 y ∨ w3.heap.size ≤ y := fun y hy => .inl (hP1e ▸ hy)
          have hQ1l : ∀ y, P1 y → y < wr.heap.size := fun y hy => hS1l y (hP1e ▸ hy)
          rw [← hP1e] at hS4
          clear hP1e
          have hsz3 := hf3.size
          have c24 := hf3.cell (p := ⟨g, o + k * 2 + 1, none⟩) (fun h => by have h : g = a := h; omega) c23
          have hT4 := hT3.fr hf3 (fun y h2 h1 => by have h1 : y = a := h1; subst h1; exact (hO1' _ hSa).2 h2)
          have hli4 := Rd.fr hli3 hf3 (fun y _ hy h => by omega)
          have hin4 := Rd.fr hin3 hf3 (fun y _ hy h => by have := (hA2 y hy).1; have := hS1l a hSa; omega)
          have hlt3 := own_lt hown3
          have hge3 : ∀ y, At A3 y → w3.heap.size ≤ y := fun y hy => by have := hown3.at_ y hy; exact this
          have hrs := rclose_any hT4
          rw [← HR.out] at hrs
          go_wp2_with fail
          refine hrs.mono ?_
          rintro e w5 ⟨A4, c4, rfl, hown4x, hc4, hT5, hf4⟩
          have hown4 := hown4x.rd
          obtain ⟨P2, hP2e⟩ : ∃ P2 : Nat → Prop, P2 = O2 := ⟨_, rfl⟩
          have hQ2 : ∀ y, P2 y → O2 y ∨ w4.heap.size ≤ y := fun y hy => .inl (hP2e ▸ hy)
          rw [← hP2e] at hT5
          clear hP2e
          have hsz4 := hf4.size
          have c25 := hf4.cell (p := ⟨g, o + k * 2 + 1, none⟩) (fun h => by have h : g = b := h; have := hO2' b hTb; omega) c24
          have hP1l := hS4.1
          have hP12 : ∀ y, P1 y → ¬ P2 y := fun y h1 h2 => by
            have hy4 := hP1l y h1
            rcases hQ2 y h2 with h2 | h2
            · rcases hQ1 y h1 with h1 | h1
              · exact (hO1' y h1).2 h2
              · have := hT1l y h2; omega
            · omega
          have hb1 : ¬ P1 b := fun h => by
            rcases hQ1 b h with h | h
            · exact (hO1' b h).2 hTb
            · have := hT1l b hTb; omega
          have hS5 := hS4.fr hf4 (fun y h1 h2 => by have h2 : y = b := h2; subst h2; exact hb1 h1)
          have hown35 := (own_self hown3).fr hf4 (fun y _ hy h => by have := hge3 y hy; have := hT1l b hTb; omega)
          have hA3 : ∀ y, At A3 y → w3.heap.size ≤ y ∧ ¬ P1 y ∧ ¬ P2 y := fun y hy => by
            have h3 := hge3 y hy
            have h4 := hlt3 y hy
            refine ⟨h3, fun h => ?_, fun h => ?_⟩
            · have := hQ1l y h; omega
            · rcases hQ2 y h with h | h
              · have := hT1l y h; omega
              · omega
          have hP1 : Hid (∀ y, P1 y → a ≤ y ∧ ¬ P2 y) := fun y hy => ⟨by rcases hQ1 y hy with h | h; exact (hO1' y h).1; omega, hP12 y hy⟩
          have hP2 : Hid (∀ y, P2 y → a ≤ y) := fun y hy => by rcases hQ2 y hy with h | h; exact hO2' y h; omega
          have hPA : ∀ y, At A2 y → ¬ P1 y ∧ ¬ P2 y := fun y hy => by
            have hq := hA2 y hy
            refine ⟨fun h => ?_, fun h => ?_⟩
            · rcases hQ1 y h with h | h
              · have := hS1l y h; omega
              · omega
            · rcases hQ2 y h with h | h
              · have := hT1l y h; omega
              · omega
          have hsame := same_bytes (w := w5) (c := c3) (d := c4) hown35.rd hown4
          clear hop hrs
          go_wp2_with fail
          refine hsame.mono ?_
          rintro e w6 ⟨rfl, rfl⟩
          go_wp2_with fail
          refine (over_own hown35 hc3).mono ?_
          rintro e w6 ⟨rfl, hf5⟩
          have hsz5 := hf5.size
          have hS6 := hS5.fr hf5 (fun y h1 h => (hA3 y h).2.1 h1)
          have hT6 := hT5.fr hf5 (fun y h1 h => (hA3 y h).2.2 h1)
          have hin6 : RdB w6 (At A2) A2 x.b.length x.b := Rd.fr (Rd.fr hin4 hf4 (fun y _ hy h => by have := (hA2 y hy).1; have := hT1l b hTb; omega)) hf5 (fun y _ hy h => by have := (hA2 y hy).2; have := (hA3 y h).1; omega)
          have hli6 : RdB w6 (fun y => y < w.heap.size) B x.b.length x.b := Rd.fr (Rd.fr hli4 hf4 (fun y _ hy h => by have := hO2' b hTb; omega)) hf5 (fun y _ hy h => by have := (hA3 y h).1; omega)
          have hown26 := (((own_self hown2).fr hf3 (fun y _ hy h => by have := (hA2 y hy).1; have := hS1l a hSa; omega)).fr hf4 (fun y _ hy h => by have := (hA2 y hy).1; have := hT1l b hTb; omega)).fr hf5 (fun y _ hy h => by have := (hA2 y hy).2; have := (hA3 y h).1; omega)
          have c26 := hf5.cell (p := ⟨g, o + k * 2 + 1, none⟩) (fun h => by have := (hA3 g h).1; omega) c25
          have hF6 : Fr No w w6 := ((hF3.trans_new hf3 (fun y hy => .inr (by omega))).trans_new hf4 (fun y hy => .inr (by have := hO2' b hTb; omega))).trans_new hf5 (fun y hy => .inr (by have := (hA3 y hy).1; omega))
          have hT6' := hT6
          obtain ⟨_, _, A9, c9, hB9, _, _, _⟩ := hT6'
          have p1 := hB9.cell 1
          have p3 := hB9.cell 3
          have p4 := hB9.cell 4
          have hlb9 := hB9.lt
          simp at p1 p3 p4
          have HF6 := hid hF6
          have HOWN := hid hown26
          have HA2 := hid hA2
          clear hB9 hF6 hown26 hf3 hf4 hf5 hF3 hS3 hT3 hS4 hT4 hS5 hT5 c23 c24 c25 hin3 hin4 hli3 hli4 hown3
          go_wp2
          go_quiet (first
            | (go_at_call 12; exact Calls.quiet_of_same ((same_bytes (w := w6.drewN _) (c := c2x) (d := d) hin6 hli6).mono fun _ _ h => ⟨h.1, h.2.symm⟩))
            | (go_at_call 52; exact Calls.quiet_of_same ((left_any (w := w6.drewN _) hS6).mono fun _ _ h => ⟨h.1, h.2.symm⟩))
            | (go_at_call 51; exact Calls.quiet_of_same ((ended_any (w := w6.drewN _) hS6).mono fun _ _ h => ⟨h.1, h.2.symm⟩))
            | (go_at_call 49; exact Calls.quiet_of_same ((broken_any (w := w6.drewN _) hS6).mono fun _ _ h => ⟨h.1, h.2.symm⟩)))
          go_wp2_with fail
          refine (over_own (w := w6.drewN _) HOWN.out hc2).mono ?_
          rintro e w8 ⟨rfl, hf8⟩
          have hf8' := Fr.of_drewN hf8
          go_wp2
          go_roundw
          case rel => exact ⟨k + 1, s', P1, P2, by omega, by go_num, hS6.fr hf8' (fun y h1 h => (hPA y h).1 h1), hT6.fr hf8' (fun y h1 h => (hPA y h).2 h1), hP1, hP2, hrb, HF6.out.trans_new hf8' (fun y hy => .inr (by have := (HA2.out y hy).1; omega))⟩
          case measure => simp [intOf]; omega
        · have hop := push_any (c := c2x) hS3 hin3 hinle (by omega)
          obtain ⟨r, hr⟩ : ∃ r, r = s.push x.b := ⟨_, rfl⟩
          obtain ⟨hrb0, hrb1⟩ := PC.push_blen s x.b
          rw [← hr] at hop hrb0 hrb1
          have HR := hid hr
          clear hr
          obtain ⟨out, er, s'⟩ := r
          simp only at hop hrb0 hrb1
          have hrb : Hid (s'.b.length ≤ total (l.take (k + 1))) := by have := hsx.out; simp only [Hid]; omega
          clear hrb0
          go_wp2_with fail
          refine hop.mono ?_
          rintro e w4 ⟨A3, c3, P1, rfl, hown3, hc3, hS4, hQ1, hf3⟩
          simp only at hown3 hS4
          have hsz3 := hf3.size
          have c24 := hf3.cell (p := ⟨g, o + k * 2 + 1, none⟩) (fun h => by have h : g = a := h; omega) c23
          have hT4 := hT3.fr hf3 (fun y h2 h1 => by have h1 : y = a := h1; subst h1; exact (hO1' _ hSa).2 h2)
          have hli4 := Rd.fr hli3 hf3 (fun y _ hy h => by omega)
          have hin4 := Rd.fr hin3 hf3 (fun y _ hy h => by have := (hA2 y hy).1; have := hS1l a hSa; omega)
          have hlt3 := own_lt hown3
          have hge3 : ∀ y, At A3 y → w3.heap.size ≤ y := fun y hy => by have := hown3.at_ y hy; exact this.1
          have hrs := rpush_any (c := d) hT4 hli4 (fun y hy => by omega) (by omega)
          rw [← HR.out] at hrs
          go_wp2_with fail
          refine hrs.mono ?_
          rintro e w5 ⟨A4, c4, P2, rfl, hown4, hT5, hQ2, hf4⟩
          simp only at hown4 hT5
          have hsz4 := hf4.size
          have c25 := hf4.cell (p := ⟨g, o + k * 2 + 1, none⟩) (fun h => by have h : g = b := h; have := hO2' b hTb; omega) c24
          have hP1l := hS4.1
          have hP12 : ∀ y, P1 y → ¬ P2 y := fun y h1 h2 => by
            have hy4 := hP1l y h1
            rcases hQ2 y h2 with h2 | h2
            · rcases hQ1 y h1 with h1 | h1
              · exact (hO1' y h1).2 h2
              · have := hT1l y h2; omega
            · omega
          have hb1 : ¬ P1 b := fun h => by
            rcases hQ1 b h with h | h
            · exact (hO1' b h).2 hTb
            · have := hT1l b hTb; omega
          have hS5 := hS4.fr hf4 (fun y h1 h2 => by have h2 : y = b := h2; subst h2; exact hb1 h1)
          have hown35 := (own_self hown3).fr hf4 (fun y _ hy h => by have := hge3 y hy; have := hT1l b hTb; omega)
          have hA3 : ∀ y, At A3 y → w3.heap.size ≤ y ∧ ¬ P1 y ∧ ¬ P2 y := fun y hy => by
            have h3 := hge3 y hy
            have h4 := hlt3 y hy
            refine ⟨h3, fun h => ?_, fun h => ?_⟩
            · exact (hown3.at_ y hy).2 h
            · rcases hQ2 y h with h | h
              · have := hT1l y h; omega
              · omega
          have hP1 : Hid (∀ y, P1 y → a ≤ y ∧ ¬ P2 y) := fun y hy => ⟨by rcases hQ1 y hy with h | h; exact (hO1' y h).1; omega, hP12 y hy⟩
          have hP2 : Hid (∀ y, P2 y → a ≤ y) := fun y hy => by rcases hQ2 y hy with h | h; exact hO2' y h; omega
          have hPA : ∀ y, At A2 y → ¬ P1 y ∧ ¬ P2 y := fun y hy => by
            have hq := hA2 y hy
            refine ⟨fun h => ?_, fun h => ?_⟩
            · rcases hQ1 y h with h | h
              · have := hS1l y h; omega
              · omega
            · rcases hQ2 y h with h | h
              · have := hT1l y h; omega
              · omega
          have hsame := same_bytes (w := w5) (c := c3) (d := c4) hown35.rd hown4
          clear hop hrs
          go_wp2_with fail
          refine hsame.mono ?_
          rintro e w6 ⟨rfl, rfl⟩
          go_wp2_with fail
          refine (over_own hown35 hc3).mono ?_
          rintro e w6 ⟨rfl, hf5⟩
          have hsz5 := hf5.size
          have hS6 := hS5.fr hf5 (fun y h1 h => (hA3 y h).2.1 h1)
          have hT6 := hT5.fr hf5 (fun y h1 h => (hA3 y h).2.2 h1)
          have hin6 : RdB w6 (At A2) A2 x.b.length x.b := Rd.fr (Rd.fr hin4 hf4 (fun y _ hy h => by have := (hA2 y hy).1; have := hT1l b hTb; omega)) hf5 (fun y _ hy h => by have := (hA2 y hy).2; have := (hA3 y h).1; omega)
          have hli6 : RdB w6 (fun y => y < w.heap.size) B x.b.length x.b := Rd.fr (Rd.fr hli4 hf4 (fun y _ hy h => by have := hO2' b hTb; omega)) hf5 (fun y _ hy h => by have := (hA3 y h).1; omega)
          have hown26 := (((own_self hown2).fr hf3 (fun y _ hy h => by have := (hA2 y hy).1; have := hS1l a hSa; omega)).fr hf4 (fun y _ hy h => by have := (hA2 y hy).1; have := hT1l b hTb; omega)).fr hf5 (fun y _ hy h => by have := (hA2 y hy).2; have := (hA3 y h).1; omega)
          have c26 := hf5.cell (p := ⟨g, o + k * 2 + 1, none⟩) (fun h => by have := (hA3 g h).1; omega) c25
          have hF6 : Fr No w w6 := ((hF3.trans_new hf3 (fun y hy => .inr (by omega))).trans_new hf4 (fun y hy => .inr (by have := hO2' b hTb; omega))).trans_new hf5 (fun y hy => .inr (by have := (hA3 y hy).1; omega))
          have hT6' := hT6
          obtain ⟨_, _, A9, c9, hB9, _, _, _⟩ := hT6'
          have p1 := hB9.cell 1
          have p3 := hB9.cell 3
          have p4 := hB9.cell 4
          have hlb9 := hB9.lt
          simp at p1 p3 p4
          have HF6 := hid hF6
          have HOWN := hid hown26
          have HA2 := hid hA2
          clear hB9 hF6 hown26 hf3 hf4 hf5 hF3 hS3 hT3 hS4 hT4 hS5 hT5 c23 c24 c25 hin3 hin4 hli3 hli4 hown3
          go_wp2
          go_quiet (first
            | (go_at_call 12; exact Calls.quiet_of_same ((same_bytes (w := w6.drewN _) (c := c2x) (d := d) hin6 hli6).mono fun _ _ h => ⟨h.1, h.2.symm⟩))
            | (go_at_call 52; exact Calls.quiet_of_same ((left_any (w := w6.drewN _) hS6).mono fun _ _ h => ⟨h.1, h.2.symm⟩))
            | (go_at_call 51; exact Calls.quiet_of_same ((ended_any (w := w6.drewN _) hS6).mono fun _ _ h => ⟨h.1, h.2.symm⟩))
            | (go_at_call 49; exact Calls.quiet_of_same ((broken_any (w := w6.drewN _) hS6).mono fun _ _ h => ⟨h.1, h.2.symm⟩)))
          go_wp2_with fail
          refine (over_own (w := w6.drewN _) HOWN.out hc2).mono ?_
          rintro e w8 ⟨rfl, hf8⟩
          have hf8' := Fr.of_drewN hf8
          go_wp2
          go_roundw
          case rel => exact ⟨k + 1, s', P1, P2, by omega, by go_num, hS6.fr hf8' (fun y h1 h => (hPA y h).1 h1), hT6.fr hf8' (fun y h1 h => (hPA y h).2 h1), hP1, hP2, hrb, HF6.out.trans_new hf8' (fun y hy => .inr (by have := (HA2.out y hy).1; omega))⟩
          case measure => simp [intOf]; omega
      · go_wp2_with fail
        refine (awake_any wr).mono ?_
        rintro e w3 ⟨rfl, hf2⟩
        go_wp2
        go_ret
        exact ⟨rfl, hf.out.trans_no hf2⟩
end Go.Proofs.Ytfkkaalchffgaaa
