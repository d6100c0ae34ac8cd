/- FrameScript, walked. -/
import Derived.Test.YtpbgcjknhegnmaaDoorRfpush
import Derived.Test.YtpbgcjknhegnmaaDoorFlong
import Derived.Test.YtpbgcjknhegnmaaDoorFcuts
import Derived.Test.YtpbgcjknhegnmaaDoorOver
namespace Go.Ost
theorem FC.push_inv (s : FC) (p : List UInt8) (hm : 12 ≤ s.most) (hl : (s.b.length : Int) ≤ s.most + 1) (hbe : s.broken = false → s.err = 0) :
    (s.push p).2.2.most = s.most ∧ ((s.push p).2.2.b.length : Int) ≤ s.most + 1 ∧ ((s.push p).2.2.broken = false → (s.push p).2.2.err = 0) ∧ (s.push p).1.length ≤ s.b.length + p.length := by
  cases hb : s.broken with
  | true =>
    have e : s.push p = ([], 9, s) := by unfold FC.push; rw [if_pos hb]
    rw [e]
    exact ⟨rfl, hl, hbe, by simp⟩
  | false =>
    obtain ⟨q1, q2, q3⟩ := s.push_end p hb (hbe hb) hm
    refine ⟨q1, q2, ?_, s.push_len p hb⟩
    unfold FC.push
    rw [if_neg (by simp [hb])]
    split
    · rename_i hr
      exact fun _ => hr
    · intro h
      simp at h
end Go.Ost
namespace Go.Proofs.YtpbgcjknhegnmaaDoor
open Go.RowKit Go.Ost

/-- The blocks of the first slices. -/
def Ble (vs : List Value) (k : Nat) (y : Nat) : Prop := ∃ i A n c, i < k ∧ vs[i]? = some (.slice A n c) ∧ At A y
theorem Ble.blks {vs : List Value} {k y : Nat} (h : Ble vs k y) : Blks vs y := by
  obtain ⟨i, A, n, c, _, hv, hA⟩ := h
  exact ⟨A, n, c, List.mem_of_getElem? hv, hA⟩
theorem Ble.more {vs : List Value} {k y : Nat} (h : Ble vs k y) : Ble vs (k + 1) y := by
  obtain ⟨i, A, n, c, hi, hv, hA⟩ := h
  exact ⟨i, A, n, c, by omega, hv, hA⟩

set_option maxRecDepth 100000 in
set_option maxHeartbeats 16000000 in
theorem scriptlaw_any {w : World} {A : Option Addr} {n c : Nat} {ls : List (List UInt8)} (most : Int) (h : RdL w (fun b => b < w.heap.size) A n ls) (hlr : ∀ x ∈ ls, x.length ≤ reachBytes) (hn : n ≤ 9223372036854775807) :
    Calls Tryd.prog 5 #[.int .i64 most, .slice A n c] w fun e w' => e = .returned (.bool true) ∧ Fr No w w' := by
  have hlong := flong_any (c := c) h hlr hn
  have H := hid h
  have HN : Hid (ls.length = n) := h.len
  clear h hlr
  go_enter Tryd.func5, Tryd.ntmps5
  go_wp2_with fail
  refine hlong.mono ?_
  rintro e w0 ⟨q, rfl, rfl, hq⟩
  cases q with
  | true =>
    go_wp2_with fail
    refine (awake_any w).mono ?_
    rintro e w1 ⟨rfl, hf1⟩
    go_wp2
    go_ret
    exact ⟨rfl, hf1⟩
  | false =>
    obtain ⟨hn60, htot⟩ := hq rfl
    have hpl : Hid (∀ p ∈ ls, p.length ≤ 70000) := fun p hp => by have := piece_le hp; unfold totB at htot; omega
    clear hq htot
    by_cases gb : most < 12 ∨ 65535 < most
    · go_wp2_with fail
      refine (fnew_bad w gb).mono ?_
      rintro e w1 ⟨rfl, rfl⟩
      go_wp2_with fail
      refine (rnew_bad w gb).mono ?_
      rintro e w1 ⟨rfl, rfl⟩
      go_wp2_with fail
      refine (awake_any w).mono ?_
      rintro e w1 ⟨rfl, hf1⟩
      go_wp2
      go_ret
      exact ⟨rfl, hf1⟩
    · have hm1 : 12 ≤ most := by omega
      have hm2 : most ≤ 65535 := by omega
      clear gb
      go_wp2_with fail
      refine (fnew_ok w hm1 hm2).mono ?_
      rintro e w1 ⟨rfl, hS, hf1⟩
      have hpe := ptr_ne ⟨w.heap.size, 0, none⟩
      have hl1 := hS.mem.2 _ hS.mem.1
      obtain ⟨a, ha⟩ : ∃ a, a = w.heap.size := ⟨_, rfl⟩
      rw [← ha] at hpe hl1 hS
      rw [← ha]
      have HA := hid ha
      clear ha
      go_wp2_with fail
      refine (rnew_ok w1 hm1 hm2).mono ?_
      rintro e w2 ⟨rfl, hT, hf2⟩
      have hS2 := hS.fr hf2 (fun _ _ h => h)
      have HF := hid (hf1.trans_no hf2)
      have HS := hid hS2
      clear hf1 hS hS2
      obtain ⟨b, hb⟩ : ∃ b, b = w1.heap.size := ⟨_, rfl⟩
      rw [← hb] at hT hl1
      rw [← hb]
      have HT := hid hT
      clear hb hf2 hT
      go_wp2
      go_loopw [9] (fun i wr => ∃ (k : Nat) (st : FC) (O1 O2 : Nat → Prop), k ≤ n ∧ i = .int .i64 k ∧ Hid (FR wr O1 a st) ∧ Hid (RFw wr O2 b st) ∧ Hid (∀ y, O1 y → a ≤ y ∧ ¬ O2 y) ∧ Hid (∀ y, O2 y → a ≤ y) ∧
        Hid (st.most = most ∧ (st.broken = false → st.err = 0)) ∧ Hid ((st.b.length : Int) ≤ most + 1) ∧ Hid (Fr No w wr)) (fun i _ => n - (intOf i).toNat)
      case atStart => exact ⟨0, ⟨most, false, 0, []⟩, (fun y => y = a), (fun y => y = b), Nat.zero_le _, rfl, HS.out, HT.out, fun y hy => ⟨Nat.le_of_eq hy.symm, by omega⟩, fun y hy => by omega, ⟨rfl, fun _ => rfl⟩, by simp [Hid]; omega, HF.out⟩
      case round =>
        clear HS HT HF
        obtain ⟨k, st, O1, O2, hk, rfl, hS, hT, hO1, hO2, hst, hbl, hf⟩ := hrel
        by_cases hlt : k < n
        · obtain ⟨us, hus, hul, hue⟩ := H.out
          obtain ⟨g, o, v, rfl, hgO, hv, hcell⟩ := hus.at_ hlt
          have hlk : k < ls.length := by have := HN.out; omega
          obtain ⟨B, m, d, rfl, hmd, hrp⟩ := hue k v ls[k] hv (List.getElem?_eq_getElem hlk)
          have hp7 := hpl.out _ (List.getElem_mem hlk)
          generalize ls[k] = p at hrp hp7
          clear hus hul hue hv hlk
          have hpm : p.length = m := by simpa using hrp.1
          subst hpm
          obtain ⟨hb1, hb2⟩ := hst.out
          obtain ⟨q1, q2, q3, q4⟩ := st.push_inv p (by rw [hb1]; exact hm1) (by rw [hb1]; exact hbl.out) hb2
          replace hcell : wr.cell? ⟨g, o + k, none⟩ = some (.slice B p.length d) := hf.out.cell (p := ⟨g, o + k, none⟩) (fun h => h) hcell
          have hrp' : RdB wr (fun y => y < w.heap.size) B p.length p := Rd.fr hrp hf.out (fun _ _ _ h => h)
          have hbl' := hbl.out
          have hwa1 : a ≤ w.heap.size := Nat.le_of_eq HA.out
          have hwa2 : w.heap.size ≤ a := Nat.le_of_eq HA.out.symm
          have hga : g < a := by have : g < w.heap.size := hgO; omega
          have hcopy := copy_bytes (c := d) hrp' (by omega)
          go_wp2_with fail
          refine hcopy.mono ?_
          rintro e w3 ⟨A2, c2, rfl, hown2, hc2, hf2⟩
          have hsz2 := hf2.size
          have hswr := hf.out.size
          have hS2 := hS.out.fr hf2 (fun _ _ h => h)
          have hT2 := hT.out.fr hf2 (fun _ _ h => h)
          have hS1l := hS.out.mem.2
          have hT1l := hT.out.1
          have hTb := hT.out.2.1
          have hcell2 := hf2.cell (p := ⟨g, o + k, none⟩) (fun h => h) hcell
          have hpush := fpush_any (d := c2) hS2 (by rw [hb1]; omega) hown2.rd (fun y hy h => by have := hS1l y h; simp only [Ge] at hy; omega) (by omega)
          have hO1' := hO1.out
          have hO2' := hO2.out
          have HQ := hid hrp'
          clear hrp hrp' hcopy hcell
          obtain ⟨r, hr⟩ : ∃ r, r = st.push p := ⟨_, rfl⟩
          rw [← hr] at hpush q1 q2 q3 q4
          obtain ⟨x, er, s2⟩ := r
          have HRP := hid hr
          clear hr
          simp only at q1 q2 q3 q4
          rw [hb1] at q1 q2
          have hxl : x.length ≤ 200000 := by omega
          go_wp2_with fail
          refine hpush.mono ?_
          rintro e w4 ⟨A3, c3, vs3, O3, rfl, hown3, hms3, hbd3, hc3, hS3, hO3, hf3⟩
          have hsz3 := hf3.size
          have hcell3 := hf3.cell (p := ⟨g, o + k, none⟩) (fun h => by have := (hO1' g h).1; omega) hcell2
          have hT3 := hT2.fr hf3 (fun y h2 h1 => (hO1' y h1).2 h2)
          have hr3 : RdB w4 (fun y => y < w.heap.size) B p.length p := Rd.fr (Rd.fr HQ.out hf2 (fun _ _ _ h => h)) hf3 (fun y _ hy h => by have := (hO1' y h).1; omega)
          have rpush := rfpush_any (d := d) hT3 hb2 hr3 (fun y hy => by omega) (by omega)
          rw [← HRP.out] at rpush
          simp only at hown3 hms3 hS3
          clear hpush hcell2
          go_wp2_with fail
          refine rpush.mono ?_
          rintro e w5 ⟨A4, c4, O4, rfl, hrl4, hT4, hO4, hf4⟩
          simp only at hrl4 hT4
          have hsz4 := hf4.size
          have hcell4 := hf4.cell (p := ⟨g, o + k, none⟩) (fun h => by have h : g = b := h; have := hO2' b hTb; omega) hcell3
          have hS3l := hS3.mem.2
          have hT4b := hT4.2.1
          have h34 : ∀ y, O3 y → ¬ O4 y := fun y h3 h4 => by
            have hy3 := hS3l y h3
            rcases hO4 y h4 with h4 | h4
            · rcases hO3 y h3 with h3 | h3
              · exact (hO1' y h3).2 h4
              · have := hT1l y h4; omega
            · omega
          have hf35 : Fr (fun y => y = b ∨ At A2 y) w4 w5 := hf4.mono fun y _ hy => .inl hy
          have hbw : b < wr.heap.size := hT1l b hTb
          have hA2 : ∀ y, At A2 y → wr.heap.size ≤ y ∧ y < w3.heap.size := fun y hy => ⟨hown2.at_ y hy, own_lt hown2 y hy⟩
          have hE : ∀ y, w3.heap.size ≤ y → ¬ (y = b ∨ At A2 y) := fun y hy h => by
            rcases h with h | h
            · omega
            · have := (hA2 y h).2; omega
          have hl3 : RdL w5 (fun y => w3.heap.size ≤ y) A3 x.length x := by
            have := hms3.rdl (O3 := fun y => w3.heap.size ≤ y) hown3.rd (fun y hy => hy.1) (fun y hy => hy.1)
            exact this.fr hf4 (fun y _ hy h => by omega)
          have hin5 : RdB w5 (At A2) A2 p.length p := Rd.fr (Rd.fr (own_self hown2).rd hf3 (fun y _ hy h => by have := (hA2 y hy).1; have := hS1l y h; omega)) hf4 (fun y _ hy h => by have := (hA2 y hy).1; omega)
          have hli5 : RdB w5 (fun y => y < w.heap.size) B p.length p := Rd.fr hr3 hf4 (fun y _ hy h => by have := hO2' b hTb; omega)
          have hsl := same_lists (c := c3) (d := c4) hl3 hrl4 (by omega) (by omega)
          have ho5 := (((own_self hown2).fr hf3 (fun y _ hy h => by have := (hA2 y hy).1; have := hS1l y h; omega)).fr hf4 (fun y _ hy h => by have := (hA2 y hy).1; omega))
          have HOWN3 := hid hown3
          have HMS3 := hid hms3
          have HS3 := hid hS3
          have HT4 := hid hT4
          have HIN5 := hid hin5
          have HLI5 := hid hli5
          have HO5 := hid ho5
          have HE := hid hE
          clear hown3 hms3 hS3 hT4 hin5 hli5 ho5 hl3 hrl4 hE rpush hcell3
          go_wp2_with fail
          refine hsl.mono ?_
          rintro e w6 ⟨rfl, k5, rfl⟩
          have hcell5 : (w5.drewN k5).cell? ⟨g, o + k, none⟩ = some (.slice B p.length d) := hcell4
          go_wp2_with fail
          refine (same_bytes (w := w5.drewN k5) (c := c2) (d := d) HIN5.out HLI5.out).mono ?_
          rintro e w6 ⟨rfl, rfl⟩
          go_wp2_with fail
          refine (over_own (w := w5.drewN k5) HO5.out hc2).mono ?_
          rintro e w7 ⟨rfl, hf7⟩
          have hf37 : Fr (fun y => y = b ∨ At A2 y) w4 w7 := (hf35.drewN k5).trans hf7 (fun _ _ h => .inr h)
          have hOwn7 : Hid (Ost.Own w7 (fun y => (w3.heap.size ≤ y ∧ ¬ O3 y) ∧ At A3 y) 22 (fun _ => True) A3 x.length c3 vs3) := (own_and HOWN3.out).fr hf37 (fun y _ hy => HE.out y hy.1.1)
          have hMs7 : Hid (Msgs w7 (fun y => w3.heap.size ≤ y ∧ ¬ O3 y) vs3 x) := HMS3.out.fr hf37 (fun y _ hy => HE.out y hy.1)
          have hS7 : Hid (FR w7 O3 a s2) := HS3.out.fr hf37 (fun y hy h => by
            rcases h with h | h
            · subst h
              rcases hO3 _ hy with h | h
              · exact (hO1' _ h).2 hTb
              · omega
            · have hq := hA2 y h
              rcases hO3 y hy with h | h
              · have := hS1l y h; omega
              · omega)
          have hT7 : Hid (RFw w7 O4 b s2) := (HT4.out.drewN k5).fr hf7 (fun y hy h => by
            have hq := hA2 y h
            rcases hO4 y hy with h | h
            · have := hT1l y h; omega
            · omega)
          have hsz7 := hf7.size
          have hF7 : Hid (Fr No w w7) := by
            have e1 := (hf.out.trans_no hf2).trans_new hf3 (fun y hy => .inr (by have := (hO1' y hy).1; omega))
            have e2 := e1.trans_new hf4 (fun y hy => .inr (by have := hO2' b hTb; omega))
            exact (e2.drewN k5).trans_new hf7 (fun y hy => .inr (by have := (hA2 y hy).1; omega))
          have hBl : Hid (∀ y, Blks vs3 y → w3.heap.size ≤ y ∧ ¬ O3 y ∧ y < w4.heap.size) := fun y hy => ⟨(HMS3.out.blk hy).1.1, (HMS3.out.blk hy).1.2, (HMS3.out.blk hy).2⟩
          have hBD : Hid (∀ y, Blks vs3 y → ¬ At A3 y) := hbd3
          have hO4n : Hid (∀ y, Blks vs3 y → ¬ O4 y) := fun y hy h => by
            obtain ⟨z1, z2, z3⟩ := hBl.out y hy
            rcases hO4 y h with h | h
            · have := hT1l y h; omega
            · omega
          clear hsl hcell4 hcell5 hf35 hf37 HOWN3 HMS3 HS3 HT4 HIN5 HLI5 HO5 HE hf7 hbd3 hf3 hf4 hf2 hown2 hr3 hS2 hT2 hT3
          go_wp2
          go_loopw [15] (fun j w' => ∃ k2, k2 ≤ x.length ∧ j = .int .i64 k2 ∧ Hid (Fr (Ble vs3 k2) w7 w')) (fun j _ => x.length - (intOf j).toNat)
          case atStart => exact ⟨0, Nat.zero_le _, rfl, Fr.refl _ _⟩
          case round =>
            obtain ⟨k2, hk2, rfl, hfr⟩ := hrel
            by_cases hlt2 : k2 < x.length
            · obtain ⟨g3, o3, v3, rfl, hg3, hv3, hc33⟩ := (Rd.fr hOwn7.out.rd hfr.out (fun y _ hy h => hBD.out y h.blks hy.2)).at_ hlt2
              obtain ⟨l3, hl3⟩ : ∃ l3, x[k2]? = some l3 := ⟨_, List.getElem?_eq_getElem hlt2⟩
              obtain ⟨B3, d3, rfl, ho3, hd3⟩ := hMs7.out.2.1 k2 v3 l3 hv3 hl3
              have ho3' := (own_self ho3).fr hfr.out (fun y _ hy h => by
                obtain ⟨i, A, n, c, hi, hv, hA⟩ := h
                exact hMs7.out.2.2 i k2 A n c B3 l3.length d3 hi hv hv3 y hA hy)
              have HV3 := hid hv3
              clear hv3 hl3 ho3
              go_wp2_with fail
              refine (over_own ho3' hd3).mono ?_
              rintro e w9 ⟨rfl, hf9⟩
              have HN9 : Hid (Fr (Ble vs3 (k2 + 1)) w7 w9) := (hfr.out.mono (fun _ _ h => h.more)).trans hf9 (fun y _ h => ⟨k2, B3, _, d3, Nat.lt_succ_self _, HV3.out, h⟩)
              clear hf9 ho3'
              go_wp2
              go_roundw
              case rel => exact ⟨k2 + 1, by omega, by go_num, HN9⟩
              case measure => simp [intOf]; omega
            · obtain rfl : k2 = x.length := by omega
              have hS9 := hS7.out.fr hfr.out (fun y hy h => (hBl.out y h.blks).2.1 hy)
              have hT9 := hT7.out.fr hfr.out (fun y hy h => hO4n.out y h.blks hy)
              have hT9' := hT9
              obtain ⟨t0, ta, A9, c9, hB9, hc9, hc9m, hr9⟩ := hT9'
              have e1 := hB9.cell 1
              have e2 := hB9.cell 2
              have hlb := hB9.lt
              simp at e1 e2
              have hm9 : s2.most ≠ 0 := by omega
              have hb9 : s2.b.length ≤ 1000000 := by omega
              have HQ1 := hid q1
              have HQ2 := hid q2
              have HQ3 := hid q3
              have hF9 : Hid (Fr No w wr) := hF7.out.trans_new hfr.out (fun y hy => .inr (by have := (hBl.out y hy.blks).1; omega))
              clear q1 q2 q3 hB9 hr9
              go_wp2
              go_quiet (first
                | (go_at_call 25; exact Calls.quiet_of (fleft_any (w := wr.drewN _) hS9 hm9))
                | (go_at_call 26; exact Calls.quiet_of (fwant_any (w := wr.drewN _) hS9 hm9 hb9))
                | (go_at_call 27; exact Calls.quiet_of (rwant_any (w := wr.drewN _) hT9 hb9))
                | (go_at_call 28; exact Calls.quiet_of_same ((fbroken_any (w := wr.drewN _) hS9).mono fun _ _ h => ⟨h.1, h.2.symm⟩)))
              go_wp2
              go_roundw
              case rel => exact ⟨k + 1, s2, O3, O4, by omega, by go_num, hS9.drewN _, hT9.drewN _, fun y hy => ⟨by rcases hO3 y hy with h | h; exact (hO1' y h).1; omega, h34 y hy⟩, fun y hy => by rcases hO4 y hy with h | h; exact hO2' y h; omega, ⟨HQ1.out, HQ3.out⟩, HQ2.out, hF9.out.drewN _⟩
              case measure => simp [intOf]; omega
        · go_wp2_with fail
          refine (awake_any wr).mono ?_
          rintro e w1 ⟨rfl, hf1⟩
          go_wp2
          go_ret
          exact ⟨rfl, hf.out.trans_no hf1⟩
end Go.Proofs.YtpbgcjknhegnmaaDoor
