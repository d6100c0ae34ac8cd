/- PipeBack, walked: what one channel sends another one tells. -/
import Derived.Test.YtfkkaalchffgaaaPknown
import Derived.Test.YtfkkaalchffgaaaCuts
import Derived.Test.YtfkkaalchffgaaaSent
namespace Go.Proofs.Ytfkkaalchffgaaa
open Go.RowKit Go.Ost

theorem sn_Send (a : Addr) (w : World) : (nilAhead 204 54 (.pointer (some a)) "Send").run Try.prog w = .ok (some false) w := by kernel_rfl

set_option maxRecDepth 100000 in
set_option maxHeartbeats 8000000 in
theorem backlaw_any {w : World} {A A2 : Option Addr} {n c n2 c2 : Nat} {ls : List (List UInt8)} {zs : List Int} (h : RdL w (fun b => b < w.heap.size) A n ls) (hn : n ≤ 9223372036854775807) (hr : ∀ l ∈ ls, l.length ≤ 140737488351232)
    (hz : Rd w (fun b => b < w.heap.size) A2 n2 (zs.map (Value.int .i64))) :
    Calls Try.prog 3 #[.slice A n c, .slice A2 n2 c2] w fun e w' => e = .returned (.bool true) ∧ Fr No w w' := by
  obtain ⟨i0, hi, hz0, hz1, hz2⟩ := info_parts info_u8
  have H := hid h
  have HZ := hid hz
  have HR := hid hr
  have HN : Hid (ls.length = n) := h.len
  clear h hz hr
  go_enter Try.func3, Try.ntmps3
  go_wp2_with fail
  refine (known_any w).mono ?_
  rintro e w1 ⟨rfl, hf1⟩
  go_wp2_with fail
  refine (sealed_new w1).mono ?_
  rintro e w2 ⟨rfl, hS, hf2⟩
  have m1 := sm_Send ⟨w1.heap.size, 0, none⟩
  have m2 := sm_Close ⟨w1.heap.size, 0, none⟩
  have n1 := sn_Send ⟨w1.heap.size, 0, none⟩
  have hf12 := hf1.trans_no hf2
  have ha0 : w.heap.size ≤ w1.heap.size := hf1.size
  generalize w1.heap.size = a at hS m1 m2 n1 ha0
  have HS := hid hS
  have HF := hid hf12
  clear hS hf1 hf2 hf12
  go_wp2
  go_loopw [7, 8, 9, 10] (fun nv bv' wv i wr => ∃ (k nn : Nat) (A8 : Option Addr) (c8 : Nat) (bb : List UInt8) (A9 : Option Addr) (c9 : Nat) (wt : List UInt8) (st : PC), k ≤ n ∧ i = .int .i64 k ∧ nv = .int .i64 nn ∧ nn ≤ 5000 ∧ Hid (nn = wt.length) ∧
    bv' = .slice A8 bb.length c8 ∧ wv = .slice A9 wt.length c9 ∧ Hid (Row wr a (fun _ => False) A8 c8 bb) ∧ Hid (Row wr a (At A8) A9 c9 wt) ∧ Hid (SWin wr (fun y => y = a) a st) ∧ Hid (Sent st bb wt) ∧ Hid (bb.length ≤ wt.length + 30 * k) ∧ Hid (k = 0 ∨ (n ≤ 20 ∧ n2 ≤ 60)) ∧ Hid (Fr No w wr)) (fun _ _ _ i _ => n - (intOf i).toNat)
  case atStart => exact ⟨0, 0, none, 0, [], none, 0, [], pc0, Nat.zero_le _, rfl, rfl, by omega, rfl, rfl, rfl, Row.nil _ _ _, Row.nil _ _ _, HS, Sent.zero, Nat.zero_le _, .inl rfl, HF.out⟩
  case round =>
    clear HS HF
    obtain ⟨k, nn, A8, c8, bb, A9, c9, wt, st, hk, rfl, rfl, hnn, hnw, rfl, rfl, hr8, hr9, hS, hsent, hbl, hcase, hf⟩ := hrel
    by_cases hlt : k < n
    · obtain ⟨vs, hvs, hvl, hve⟩ := H.out
      obtain ⟨b, o, v, rfl, hbO, hv, hcell⟩ := hvs.at_ hlt
      have hlk : k < ls.length := by have := HN.out; omega
      obtain ⟨B, m, d, rfl, hmd, hrp⟩ := hve k v ls[k] hv (List.getElem?_eq_getElem hlk)
      have hpr := HR.out _ (List.getElem_mem hlk)
      generalize ls[k] = p at hrp hpr
      have hpm : p.length = m := by simpa using hrp.1
      subst hpm
      replace hcell : wr.cell? ⟨b, o + k, none⟩ = some (.slice B p.length d) := hf.out.cell (p := ⟨b, o + k, none⟩) (fun h => h) hcell
      clear hvs hvl hve hv hlk
      by_cases hearly : 5000 < nn + p.length ∨ 20 < n ∨ 60 < n2
      · have hend := hf.out
        have HE := hid hend
        clear hend
        rcases hearly with he | he | he
        · go_wp2
          go_ret
          exact ⟨rfl, HE.out⟩
        · by_cases h5 : 5000 < nn + p.length
          all_goals
            go_wp2
            go_ret
            exact ⟨rfl, HE.out⟩
        · by_cases h5 : 5000 < nn + p.length
          · go_wp2
            go_ret
            exact ⟨rfl, HE.out⟩
          · by_cases h6 : 20 < n
            all_goals
              go_wp2
              go_ret
              exact ⟨rfl, HE.out⟩
      · have h20 : n ≤ 20 := by omega
        have h60 : n2 ≤ 60 := by omega
        have h5 : nn + p.length ≤ 5000 := by omega
        have hp5 : p.length ≤ 5000 := by omega
        clear hearly
        have hsl := st.send_len p hp5
        have hbb : bb.length ≤ 5600 := by have := hbl.out; have := hnw.out; omega
        have hwt : wt.length ≤ 5000 := by have := hnw.out; omega
        have hsz := hf.out.size
        have hrp' : RdB wr (fun y => y < w.heap.size) B p.length p := Rd.fr hrp hf.out (fun _ _ _ h => h)
        have hsend := send_any (w := wr.drew) (c := d) hS.out hrp' (fun y hy => ⟨by omega, by show y < wr.heap.size; omega⟩) hmd (by omega)
        have hse2 := hsent.out.send p
        generalize st.send p = q at hsend hsl hse2
        obtain ⟨snd, st2⟩ := q
        simp only at hsend hsl hse2
        have HSE := hid hse2
        have hba : b < a := by omega
        have HR9 := hr9
        clear hse2 hrp hsent hS
        go_wp2_with fail
        go_region_held3 (fun w' => w'.cell? ⟨b, o + k, none⟩ = some (.slice B p.length d)) (first | assumption | exact k3 | exact k4)
          (first
            | (go_at_call 54; refine hsend.mono ?_; rintro e w3 ⟨A3, c3, rfl, hown3, hc3, hS3, hf3⟩; have k3 := hf3.cell (p := ⟨b, o + k, none⟩) (by show ¬ (b = a); omega) hcell; have R8 := hid (hr8.out.fr (Fr.of_drew hf3) (fun y hy => .inl (Nat.le_of_eq hy))); have R9 := hid (hr9.out.fr (Fr.of_drew hf3) (fun y hy => .inl (Nat.le_of_eq hy))); have R3 := hid hown3.rd; have S3 := hid hS3; have F3 := hid (Fr.of_drew hf3); clear hown3 hS3 hf3)
            | (((refine step_app _ (by rfl) (.tmp 45) (.tmp 54) _ (by rfl) 5 i0 _ 1 1 Try.underlying28 hi hz0 hz1 hz2 rfl (by omega) byte_zero (O := fun y => At A8 y ∨ w3.heap.size ≤ y) (.inr (Nat.le_refl _)) (by rfl) R8.out.own1 (m := snd.length) (by rfl) (by rw [Nat.mul_one]; exact R3.out) (bv_all _) (by simp only [maxLen]; omega) (by omega) ?_; intro A4 c4 w4 hown4 hf4 hc4 hA4; have k4 := hf4.cell (p := ⟨b, o + k, none⟩) (fun hat => absurd (show a < b from (R8.out.2.1 _ hat).1) (by omega)) k3; have O4 := hid hown4; have F4 := hid hf4; have C4 := hid hc4; have A4h := hid hA4; clear hown4 hf4 hc4 hA4))))
        have hA8w : ∀ y, At A8 y → a < y := fun y hy => (R8.out.2.1 y hy).1
        have ha3 : a < w3.heap.size := S3.out.1 _ rfl
        have hg4 := F4.out.size
        have R84 : Row w4 a (fun _ => False) A4 c4 (bb ++ snd) := R8.out.grown (w := w3) O4.out C4.out A4h.out ha3 (fun _ h => h.elim)
        have R94 : Row w4 a (At A4) A9 c9 wt := (R9.out.fr F4.out (fun y hy => .inr hy)).apart (fun y hy h4 => by
          rcases A4h.out y h4 with h | h
          · exact (R9.out.2.1 y hy).2 h
          · have := R9.out.lt y hy; omega)
        have S4 := S3.out.fr F4.out (fun y hy h8 => by have := hA8w y h8; omega)
        have F24 : Fr No w w4 := (hf.out.trans F3.out (fun y hy e => by omega)).trans_new F4.out (fun y hy => .inr (by have := hA8w y hy; omega))
        have hb4 : ∀ y, At A4 y → y < w4.heap.size := R84.lt
        have hrp4 : RdB w4 (fun y => y < w.heap.size) B p.length p := Rd.fr (Rd.fr hrp' F3.out (fun y _ hy e => by omega)) F4.out (fun y _ hy h8 => by have := hA8w y h8; omega)
        have HR84 := hid R84
        have HR94 := hid R94
        have HS4 := hid S4
        have HF24 := hid F24
        have hlen4 : (bb ++ snd).length = bb.length + snd.length := List.length_append
        have HL4 := hid hlen4
        have hbl' := hbl.out
        clear R84 R94 S4 F24 R8 R9 S3 F3 F4 O4 C4 k3 hlen4 hrp' hsend
        go_wp2_with (at_builtin; refine wpList_app _ rfl (.tmp 56) (.tmp 60) _ rfl 5 i0 _ 1 1 Try.underlying28 hi hz0 hz1 hz2 rfl (by omega) byte_zero (O := fun y => At A9 y ∨ w4.heap.size ≤ y) (.inr (Nat.le_refl _)) rfl HR94.out.own1 (m := p.length) rfl (by rw [Nat.mul_one]; exact hrp4) (bv_all _) (by simp only [maxLen]; omega) (by omega) ?_; intro A5 c5 w5 hown5 hf5 hc5 hA5)
        have ha4 : a < w4.heap.size := HS4.out.1 _ rfl
        have hA9w : ∀ y, At A9 y → a < y := fun y hy => (HR94.out.2.1 y hy).1
        have R95 : Row w5 a (At A4) A5 c5 (wt ++ p) := HR94.out.grown (w := w4) hown5 hc5 hA5 ha4 hb4
        have R85 : Row w5 a (fun _ => False) A4 c4 (bb ++ snd) := HR84.out.fr_at hf5 (fun y hy h4 => (HR94.out.2.1 y hy).2 h4)
        have S5 := HS4.out.fr hf5 (fun y hy h9 => by have := hA9w y h9; omega)
        have F25 : Fr No w w5 := HF24.out.trans_new hf5 (fun y hy => .inr (by have := hA9w y hy; omega))
        have HA := hid R95
        have HB := hid R85
        have HC := hid S5
        have HD := hid F25
        have hwl : (wt ++ p).length = wt.length + p.length := List.length_append
        have HWL := hid hwl
        clear R95 R85 S5 F25 hown5 hf5 hc5 hA5 hwl HR84 HR94 HS4 HF24 hrp4
        go_wp2
        go_roundw
        case rel => exact ⟨k + 1, nn + p.length, A4, c4, bb ++ snd, A5, c5, wt ++ p, st2, by omega, by go_num, by go_num, by omega, by simp only [Hid]; rw [HWL.out, hnw.out], by rw [HL4.out], by rw [HWL.out], HB, HA, HC, HSE, by simp only [Hid]; rw [HL4.out, HWL.out]; omega, .inr ⟨h20, h60⟩, HD⟩
        case measure => simp [intOf]; omega
    · obtain rfl : k = n := by omega
      have hsz := hf.out.size
      have hwt : wt.length ≤ 5000 := by have := hnw.out; omega
      have hbb : bb.length ≤ 5600 := by have := hbl.out; rcases hcase.out with h | h; omega; omega
      have hclose := close_any hS.out
      have htold := hsent.out.told
      have hcs := hsent.out.close
      have hc7 := st.close_len
      generalize st.close = q at hclose htold hcs hc7
      obtain ⟨cl, st2⟩ := q
      obtain ⟨recs, hcs1, hcs2, hcs3, hcs4⟩ := hcs
      simp only at hclose htold hcs1 hcs4 hc7
      have HT := hid htold
      have hsnd := st2.send_shut [1] hcs4
      have HSN := hid hsnd
      clear hcs1 hcs2 hcs3 hcs4 htold hsent hsnd
      go_wp2_with fail
      refine hclose.mono ?_
      rintro e w3 ⟨A3, c3, rfl, hown3, hc3, hS3, hf3⟩
      have R8 := hr8.out.fr hf3 (fun y hy => .inl (Nat.le_of_eq hy))
      have R9 := hr9.out.fr hf3 (fun y hy => .inl (Nat.le_of_eq hy))
      have F3 := hf.out.trans hf3 (fun y hy e => by omega)
      have hA8w : ∀ y, At A8 y → a < y := fun y hy => (R8.2.1 y hy).1
      have ha3 : a < w3.heap.size := hS3.1 _ rfl
      have hr3 := hown3.rd
      have HR8 := hid R8
      have HR9 := hid R9
      have HS3 := hid hS3
      have HF3 := hid F3
      clear R8 R9 hS3 F3 hf3 hown3 hclose hS
      go_wp2_with (at_builtin; go_must (refine wpList_app _ rfl (.tmp 62) (.tmp 64) _ rfl 5 i0 _ 1 1 Try.underlying28 hi hz0 hz1 hz2 rfl (by omega) byte_zero (O := fun y => At A8 y ∨ w3.heap.size ≤ y) (.inr (Nat.le_refl _)) rfl HR8.out.own1 (m := cl.length) rfl (by rw [Nat.mul_one]; exact hr3) (bv_all _) (by simp only [maxLen]; omega) (by omega) ?_; intro A4 c4 w4 hown4 hf4 hc4 hA4))
      have R84 : Row w4 a (fun _ => False) A4 c4 (bb ++ cl) := HR8.out.grown (w := w3) hown4 hc4 hA4 ha3 (fun _ h => h.elim)
      have R94 : Row w4 a (fun _ => False) A9 c9 wt := (HR9.out.fr hf4 (fun y hy => .inr hy)).apart (fun _ _ h => h)
      have S4 := HS3.out.fr hf4 (fun y hy h8 => by have := hA8w y h8; omega)
      have F4 : Fr No w w4 := HF3.out.trans_new hf4 (fun y hy => .inr (by have := hA8w y hy; omega))
      have HR84 := hid R84
      have HR94 := hid R94
      have HS4 := hid S4
      have HF4 := hid F4
      have ha4 : a < w4.heap.size := S4.1 _ rfl
      clear R84 R94 S4 F4 hown4 hf4 hc4 hA4 HR8 HR9 HS3 HF3 hr3
      go_wp2_with fail
      have r1 : RdB (w4.alloc (.cells #[.int .u8 1] 5)) _ (some ⟨w4.heap.size, 0, none⟩) 1 [1] := rdb_new w4 [1] 5
      have fa := (Fr.refl No w4).alloc (.cells #[.int .u8 1] 5)
      refine (send_any (c := 1) (HS4.out.fr fa (fun _ _ h => h)) r1 (fun y hy => ⟨by omega, by simp; omega⟩) (by omega) (by omega)).mono ?_
      rw [HSN.out]
      rintro e w5 ⟨A5, c5, rfl, -, -, hS5, hf5⟩
      have hf45 : Fr (· = a) w4 w5 := (fa.of_no (S := (· = a))).trans hf5 (fun _ _ h => h)
      have R85 := HR84.out.fr hf45 (fun y hy => .inl (Nat.le_of_eq hy))
      have R95 := HR94.out.fr hf45 (fun y hy => .inl (Nat.le_of_eq hy))
      have F5 := HF4.out.trans hf45 (fun y hy e => by omega)
      have HR85 := hid R85
      have HR95 := hid R95
      have HF5 := hid F5
      have hl4 : (bb ++ cl).length = bb.length + cl.length := List.length_append
      have HL4 := hid hl4
      clear r1 fa hf5 hf45 hS5 R85 R95 F5 HR84 HR94 HS4 HF4 hl4
      by_cases h60 : 60 < n2
      · go_wp2
        go_ret
        exact ⟨rfl, HF5.out⟩
      · have hz5 : Rd w5 (fun y => y < w.heap.size) A2 n2 (zs.map (Value.int .i64)) := Rd.fr HZ.out HF5.out (fun _ _ _ h => h)
        have hcl : (bb ++ cl).length ≤ c4 := by have := HR85.out.1.le; exact this
        have hcut := cut_any (c := c4) (c3 := c2) (HR85.out.1.rd) HR85.out.lt hcl (by rw [HL4.out]; omega) hz5 (by omega)
        rw [HL4.out] at hcut
        go_wp2_with fail
        refine hcut.mono ?_
        intro e w6 hcut
        obtain ⟨A6, c6, ls2, rfl, hr6, hfl6, hl6, hf6⟩ := cutR_rdl hcut
        have hfl2 := hid hfl6
        clear hcut hfl6
        go_wp2_with fail
        refine (pushed_any (c := c6) hr6 (fun _ h => h) (by omega) (by rw [hfl2.out, HL4.out]; omega)).mono ?_
        rw [HT.out ls2 hfl2.out]
        rintro e w7 ⟨A7, c7, rfl, hc7, hr7, hf7⟩
        have hw7 := Rd.fr (Rd.fr HR95.out.1.rd hf6 (fun _ _ _ h => h)) hf7 (fun _ _ _ h => h)
        have hF := (HF5.out.trans_no hf6).trans_no hf7
        have HF7 := hid hF
        clear hF hf6 hf7 hr6 hl6
        simp only at hr7 hc7
        go_wp2_with fail
        refine (same_bytes (c := c7) (d := c9) hr7 hw7).mono ?_
        rintro e w8 ⟨rfl, rfl⟩
        go_wp2_with fail
        go_ret
        exact ⟨by simp, HF7.out⟩
end Go.Proofs.Ytfkkaalchffgaaa
