/- FrameBack, walked: frames are read as their messages. -/
import Derived.Test.YtpbgcjknhegnmaaDoorFcuts
namespace Go.Ost
/-- The stream of some messages. -/
def stream (l : List (List UInt8)) : List UInt8 := (l.map fun x => be2 x.length ++ x).flatten
theorem stream_snoc (l : List (List UInt8)) (x : List UInt8) : stream (l ++ [x]) = stream l ++ (be2 x.length ++ x) := by simp [stream]
theorem stream_len (l : List (List UInt8)) (h : ∀ x ∈ l, x.length ≤ 600) : (stream l).length ≤ 602 * l.length := by
  induction l with
  | nil => simp [stream]
  | cons x l ih =>
    have h1 := h x (List.mem_cons_self ..)
    have h2 := ih fun z hz => h z (List.mem_cons_of_mem _ hz)
    have hl2 : (be2 x.length).length = 2 := rfl
    have e : stream (x :: l) = be2 x.length ++ x ++ stream l := by simp [stream]
    rw [e]
    simp only [List.length_append, List.length_cons, hl2]
    omega
theorem short_snoc (most : Int) (l : List (List UInt8)) (x : List UInt8) : short most (l ++ [x]) = if toolong most l = 0 ∧ ¬ most < x.length then short most l ++ [x] else short most l := by
  induction l with
  | nil => by_cases h : most < x.length <;> simp [short, toolong, h]
  | cons z l ih =>
    by_cases h : most < z.length
    · simp [short, toolong, h]
    · have e : toolong most (z :: l) = toolong most l := by simp [toolong, h]
      simp only [List.cons_append, short, h, if_false, e, ih]
      split <;> rfl
theorem toolong_snoc (most : Int) (l : List (List UInt8)) (x : List UInt8) : toolong most (l ++ [x]) = if toolong most l = 0 ∧ most < x.length then 3 else toolong most l := by
  unfold toolong
  rw [List.any_append]
  by_cases h1 : l.any (fun x => decide (most < x.length)) = true
  · simp [h1]
  · by_cases h2 : most < x.length
    · simp [h1, h2]
    · simp [h1, h2]
theorem short_take (most : Int) (l : List (List UInt8)) : short most l = l.take (short most l).length := by
  induction l with
  | nil => rfl
  | cons x l ih =>
    by_cases h : most < x.length
    · simp [short, h]
    · simp only [short, h, if_false, List.length_cons, List.take_succ_cons]
      rw [← ih]
theorem short_le (most : Int) (l : List (List UInt8)) : (short most l).length ≤ l.length := by
  rw [short_take]; exact List.length_take_le' _ _
theorem toolong_or (most : Int) (l : List (List UInt8)) : toolong most l = 0 ∨ toolong most l = 3 := by
  unfold toolong; split <;> simp
theorem feed_back {most : Int} {l ls : List (List UInt8)} (hl : ∀ x ∈ l, 12 ≤ x.length ∧ x.length ≤ 600) (h : ls.flatten = stream l) : FC.feed ⟨most, false, 0, []⟩ [] ls = (short most l, toolong most l) := by
  rw [FC.feed_new]
  have := FC.run_frames l (ls.flatten.length + 1) ⟨most, false, 0, ls.flatten⟩ [] (by rw [h]; rfl) rfl hl (by simp)
  simp only [List.nil_append] at this
  rw [this.1, this.2]
end Go.Ost
namespace Go.Proofs.YtpbgcjknhegnmaaDoor
open Go.RowKit Go.Ost

theorem rdl_take {w : World} {O : Nat → Prop} {A : Option Addr} {n m : Nat} {ls : List (List UInt8)} (h : RdL w O A n ls) (hm : m ≤ n) : RdL w O A m (ls.take m) := by
  obtain ⟨vs, h1, h2, h3⟩ := h
  refine ⟨vs.take m, h1.take hm, by simp [h2], fun i v l hv hl => ?_⟩
  rw [List.getElem?_take] at hv hl
  split at hv
  · rename_i hi
    rw [if_pos hi] at hl
    exact h3 i v l hv hl
  · cases hv

set_option maxRecDepth 100000 in
set_option maxHeartbeats 8000000 in
theorem backlaw_go {w : World} {A A2 : Option Addr} {n c n2 c2 : Nat} {ls : List (List UInt8)} {zs : List Int} (most : Int) (g1 : ¬ most < 12) (g2 : ¬ 65535 < most) (g3 : ¬ 20 < n) (g4 : ¬ 60 < n2) (h : RdL w (fun b => b < w.heap.size) A n ls) (hnc : n ≤ c)
    (hz : Rd w (fun b => b < w.heap.size) A2 n2 (zs.map (Value.int .i64))) (hr : ∀ l ∈ ls, l.length ≤ 140737488351232) :
    Calls Tryd.prog 4 #[.int .i64 most, .slice A n c, .slice A2 n2 c2] w fun e w' => e = .returned (.bool true) ∧ Fr No w w' := by
  obtain ⟨i0, hi, hz0, hz1, hz2⟩ := info_parts info_u8
  have H := hid h
  have HZ := hid hz
  have HR := hid hr
  have HN : Hid (ls.length = n) := h.len
  clear h hz hr
  go_enter Tryd.func4, Tryd.ntmps4
  go_wp2_with fail
  refine (awake_any w).mono ?_
  rintro e w1 ⟨rfl, hf1⟩
  have HF := hid hf1
  clear hf1
  go_wp2
  go_loopw [8, 9, 10, 11] (fun bv' nv wv i wr => ∃ (k m : Nat) (t : Int) (A8 : Option Addr) (c8 len : Nat), k ≤ n ∧ i = .int .i64 k ∧ nv = .int .i64 m ∧ wv = .int .i64 t ∧ bv' = .slice A8 len c8 ∧ Hid (m = (short most (ls.take k)).length) ∧ m ≤ k ∧ Hid (t = toolong most (ls.take k)) ∧ len ≤ 602 * k ∧ Hid (len = (stream (ls.take k)).length) ∧ len ≤ c8 ∧
    Hid (Ost.Own wr (fun y => w.heap.size ≤ y) 5 Byte A8 len c8 ((stream (ls.take k)).map bv)) ∧ Hid (∀ x ∈ ls.take k, 12 ≤ x.length ∧ x.length ≤ 600) ∧ Hid (Fr No w wr)) (fun _ _ _ i _ => n - (intOf i).toNat)
  case atStart => exact ⟨0, 0, 0, none, 0, 0, Nat.zero_le _, rfl, rfl, rfl, rfl, rfl, Nat.le_refl _, by simp [Hid, toolong], Nat.le_refl _, rfl, Nat.le_refl _, Ost.Own.nil _ _ _ _, by simp [Hid], HF.out⟩
  case round =>
    clear HF
    obtain ⟨k, m, t, A8, c8, len, hk, rfl, rfl, rfl, rfl, hm, hmk, ht, hlen, hlenq, hlc, hown, hall, hf⟩ := hrel
    by_cases hlt : k < n
    · obtain ⟨vs, hvs, hvl, hve⟩ := H.out
      obtain ⟨b, o, v, rfl, hbO, hv, hcell⟩ := hvs.at_ hlt
      have hlk : k < ls.length := by have := HN.out; omega
      obtain ⟨B, q, d, rfl, hmd, hrp⟩ := hve k v ls[k] hv (List.getElem?_eq_getElem hlk)
      have hpr := HR.out _ (List.getElem_mem hlk)
      have htk : ls.take (k + 1) = ls.take k ++ [ls[k]] := List.take_succ_eq_append_getElem hlk
      have HTK := hid htk
      generalize ls[k] = p at hrp hpr HTK
      have hpm : p.length = q := by simpa using hrp.1
      subst hpm
      replace hcell : wr.cell? ⟨b, o + k, none⟩ = some (.slice B p.length d) := hf.out.cell (p := ⟨b, o + k, none⟩) (fun h => h) hcell
      have hrp' : RdB wr (fun y => y < w.heap.size) B p.length p := Rd.fr hrp hf.out (fun _ _ _ h => h)
      clear hvs hvl hve hv hlk htk hrp
      by_cases h6 : 600 < p.length
      · go_wp2
        go_ret
        exact ⟨rfl, hf.out⟩
      · have hput := fput_any (c := d) hrp' (by omega)
        by_cases h12 : p.length < 12
        · have hfo : frameOf p = ([], 4) := by unfold frameOf; rw [if_pos h12]
          rw [hfo] at hput
          clear hfo
          go_wp2_with fail
          refine hput.mono ?_
          rintro e w3 ⟨A3, c3, rfl, -, -, hf3⟩
          replace hcell := hf3.cell (p := ⟨b, o + k, none⟩) (fun h => h) hcell
          have HF3 := hid (hf.out.trans_no hf3)
          clear hf3 hput
          go_wp2
          go_ret
          exact ⟨rfl, HF3.out⟩
        · have h12i : decide ((12 : Int) ≤ (p.length : Int)) = true := by simp; omega
          have h12' : 12 ≤ p.length := by omega
          have hfo : frameOf p = (be2 p.length ++ p, 0) := by unfold frameOf; rw [if_neg h12, if_neg (by omega)]
          rw [hfo] at hput
          obtain ⟨fb, hfb⟩ : ∃ fb, fb = be2 p.length ++ p := ⟨_, rfl⟩
          rw [← hfb] at hput
          have hfl : fb.length = p.length + 2 := by rw [hfb, List.length_append]; show 2 + p.length = _; omega
          have HFB := hid hfb
          have hfl1 : fb.length ≤ 602 := by omega
          have HFL := hid hfl
          clear hfo hfb hfl
          go_wp2_with fail
          refine hput.mono ?_
          rintro e w3 ⟨A3, c3, rfl, hown3, hc3, hf3⟩
          replace hcell := hf3.cell (p := ⟨b, o + k, none⟩) (fun h => h) hcell
          have HF3 := hid (hf.out.trans_no hf3)
          have hown8 := hown.out.fr hf3 (fun _ _ _ h => h)
          have HO8 := hid hown8
          have hr3 := hown3.rd
          have hws := HF3.out.size
          clear hf3 hput hown8 hown3 hown
          have htt : t = 0 ∨ t = 3 := by rw [ht.out]; exact toolong_or _ _
          rcases htt with rfl | rfl
          · by_cases hmo : most < (p.length : Int)
            · skip
              have e1 : Hid (3 = toolong most (ls.take (k + 1))) := by simp only [Hid]; rw [HTK.out, toolong_snoc, if_pos ⟨ht.out.symm, hmo⟩]
              have e2 : Hid (m = (short most (ls.take (k + 1))).length) := by simp only [Hid]; rw [HTK.out, short_snoc, if_neg (by simp [hmo]), hm.out]
              go_wp2_with (at_builtin; go_must (refine wpList_app _ rfl (.tmp 68) (.tmp 69) _ rfl 5 i0 _ 1 1 Tryd.underlying22 hi hz0 hz1 hz2 rfl (by omega) byte_zero (O := fun y => w.heap.size ≤ y) hws rfl (by simpa using HO8.out) (m := fb.length) rfl (by rw [Nat.mul_one]; exact hr3) (bv_all _) (by simp only [maxLen]; omega) (by omega) ?_; intro A4 c4 w4 hown4 hf4 hc4 hA4; replace hcell := hf4.cell (p := ⟨b, o + k, none⟩) (fun hat => absurd (show w.heap.size ≤ b from HO8.out.at_ _ hat) (by have h0 : b < w.heap.size := hbO; omega)) hcell))
              have hst : stream (ls.take (k + 1)) = stream (ls.take k) ++ fb := by rw [HTK.out, stream_snoc, HFB.out]
              have HO4 : Hid (Ost.Own w4 (fun y => w.heap.size ≤ y) 5 Byte A4 (len + fb.length) c4 ((stream (ls.take (k + 1))).map bv)) := hid (by rw [hst, List.map_append]; simpa using hown4)
              have HLEN : Hid (len + fb.length = (stream (ls.take (k + 1))).length) := by simp only [Hid]; rw [hst, List.length_append, ← hlenq.out]
              have HALL : Hid (∀ x ∈ ls.take (k + 1), 12 ≤ x.length ∧ x.length ≤ 600) := fun x hx => by
                rw [HTK.out] at hx
                rcases List.mem_append.1 hx with hx | hx
                · exact hall.out x hx
                · simp at hx; subst hx; omega
              have hlc4 : len + fb.length ≤ c4 := HO4.out.le
              have HF4 : Hid (Fr No w w4) := HF3.out.trans_new hf4 (fun y hy => .inr (HO8.out.at_ y hy))
              clear hst hown4 hf4 hc4 hA4 HO8 hr3
              go_wp2
              go_roundw
              case rel => exact ⟨k + 1, m, 3, A4, c4, len + fb.length, by omega, by go_num, rfl, rfl, by go_num, e2, by omega, e1, by omega, HLEN, hlc4, HO4, HALL, HF4⟩
              case measure => simp [intOf]; omega
            · skip
              have e1 : Hid (0 = toolong most (ls.take (k + 1))) := by simp only [Hid]; rw [HTK.out, toolong_snoc, if_neg (by simp [hmo]), ← ht.out]
              have e2 : Hid (m + 1 = (short most (ls.take (k + 1))).length) := by simp only [Hid]; rw [HTK.out, short_snoc, if_pos ⟨ht.out.symm, hmo⟩, List.length_append, ← hm.out]; rfl
              go_wp2_with (at_builtin; go_must (refine wpList_app _ rfl (.tmp 68) (.tmp 69) _ rfl 5 i0 _ 1 1 Tryd.underlying22 hi hz0 hz1 hz2 rfl (by omega) byte_zero (O := fun y => w.heap.size ≤ y) hws rfl (by simpa using HO8.out) (m := fb.length) rfl (by rw [Nat.mul_one]; exact hr3) (bv_all _) (by simp only [maxLen]; omega) (by omega) ?_; intro A4 c4 w4 hown4 hf4 hc4 hA4; replace hcell := hf4.cell (p := ⟨b, o + k, none⟩) (fun hat => absurd (show w.heap.size ≤ b from HO8.out.at_ _ hat) (by have h0 : b < w.heap.size := hbO; omega)) hcell))
              have hst : stream (ls.take (k + 1)) = stream (ls.take k) ++ fb := by rw [HTK.out, stream_snoc, HFB.out]
              have HO4 : Hid (Ost.Own w4 (fun y => w.heap.size ≤ y) 5 Byte A4 (len + fb.length) c4 ((stream (ls.take (k + 1))).map bv)) := hid (by rw [hst, List.map_append]; simpa using hown4)
              have HLEN : Hid (len + fb.length = (stream (ls.take (k + 1))).length) := by simp only [Hid]; rw [hst, List.length_append, ← hlenq.out]
              have HALL : Hid (∀ x ∈ ls.take (k + 1), 12 ≤ x.length ∧ x.length ≤ 600) := fun x hx => by
                rw [HTK.out] at hx
                rcases List.mem_append.1 hx with hx | hx
                · exact hall.out x hx
                · simp at hx; subst hx; omega
              have hlc4 : len + fb.length ≤ c4 := HO4.out.le
              have HF4 : Hid (Fr No w w4) := HF3.out.trans_new hf4 (fun y hy => .inr (HO8.out.at_ y hy))
              clear hst hown4 hf4 hc4 hA4 HO8 hr3
              go_wp2
              go_roundw
              case rel => exact ⟨k + 1, m + 1, 0, A4, c4, len + fb.length, by omega, by go_num, by go_num, rfl, by go_num, e2, by omega, e1, by omega, HLEN, hlc4, HO4, HALL, HF4⟩
              case measure => simp [intOf]; omega
          · have hne : ¬ toolong most (ls.take k) = 0 := by rw [← ht.out]; decide
            have e1 : Hid (3 = toolong most (ls.take (k + 1))) := by simp only [Hid]; rw [HTK.out, toolong_snoc, if_neg (fun h => hne h.1), ← ht.out]
            have e2 : Hid (m = (short most (ls.take (k + 1))).length) := by simp only [Hid]; rw [HTK.out, short_snoc, if_neg (fun h => hne h.1), hm.out]
            clear hne
            go_wp2_with (at_builtin; go_must (refine wpList_app _ rfl (.tmp 68) (.tmp 69) _ rfl 5 i0 _ 1 1 Tryd.underlying22 hi hz0 hz1 hz2 rfl (by omega) byte_zero (O := fun y => w.heap.size ≤ y) hws rfl (by simpa using HO8.out) (m := fb.length) rfl (by rw [Nat.mul_one]; exact hr3) (bv_all _) (by simp only [maxLen]; omega) (by omega) ?_; intro A4 c4 w4 hown4 hf4 hc4 hA4; replace hcell := hf4.cell (p := ⟨b, o + k, none⟩) (fun hat => absurd (show w.heap.size ≤ b from HO8.out.at_ _ hat) (by have h0 : b < w.heap.size := hbO; omega)) hcell))
            have hst : stream (ls.take (k + 1)) = stream (ls.take k) ++ fb := by rw [HTK.out, stream_snoc, HFB.out]
            have HO4 : Hid (Ost.Own w4 (fun y => w.heap.size ≤ y) 5 Byte A4 (len + fb.length) c4 ((stream (ls.take (k + 1))).map bv)) := hid (by rw [hst, List.map_append]; simpa using hown4)
            have HLEN : Hid (len + fb.length = (stream (ls.take (k + 1))).length) := by simp only [Hid]; rw [hst, List.length_append, ← hlenq.out]
            have HALL : Hid (∀ x ∈ ls.take (k + 1), 12 ≤ x.length ∧ x.length ≤ 600) := fun x hx => by
              rw [HTK.out] at hx
              rcases List.mem_append.1 hx with hx | hx
              · exact hall.out x hx
              · simp at hx; subst hx; omega
            have hlc4 : len + fb.length ≤ c4 := HO4.out.le
            have HF4 : Hid (Fr No w w4) := HF3.out.trans_new hf4 (fun y hy => .inr (HO8.out.at_ y hy))
            clear hst hown4 hf4 hc4 hA4 HO8 hr3
            go_wp2
            go_roundw
            case rel => exact ⟨k + 1, m, 3, A4, c4, len + fb.length, by omega, by go_num, rfl, rfl, by go_num, e2, by omega, e1, by omega, HLEN, hlc4, HO4, HALL, HF4⟩
            case measure => simp [intOf]; omega
    · obtain rfl : k = n := by omega
      have hall2 : ls.take k = ls := List.take_of_length_le (by rw [HN.out]; exact Nat.le_refl _)
      rw [hall2] at hm ht hlenq hall hown
      have hws := hf.out.size
      have hz5 : Rd wr (fun y => y < w.heap.size) A2 n2 (zs.map (Value.int .i64)) := Rd.fr HZ.out hf.out (fun _ _ _ h => h)
      have hrb : RdB wr (fun y => y < wr.heap.size) A8 (stream ls).length (stream ls) := by rw [← hlenq.out]; exact hown.out.rd.mono fun y hy _ => hy
      have hcut := cut_any (c := c8) (c3 := c2) hrb (fun b hb => hb) (by rw [← hlenq.out]; exact hlc) (by rw [← hlenq.out]; omega) hz5 (by omega)
      rw [← hlenq.out] at hcut
      have hmc : m ≤ c := by have := short_le most ls; have := hm.out; have := HN.out; omega
      clear hrb hz5 hall2
      go_wp2_with fail
      refine hcut.mono ?_
      intro e w6 hcut
      obtain ⟨A6, c6, ls2, rfl, hr6, hfl6, hl6, hf6⟩ := cutR_rdl hcut
      have hfl2 := hid hfl6
      clear hcut hfl6
      go_wp2_with fail
      refine (fpushed_any (c := c6) (by omega) (by omega) hr6 (fun _ h => h) (by omega) (fun p hp => by have := piece_le hp; rw [hfl2.out, ← hlenq.out] at this; omega)).mono ?_
      rw [feed_back hall.out hfl2.out]
      rintro e w7 ⟨A7, c7, rfl, hc7, hr7, hf7⟩
      have hF := (hf.out.trans_no hf6).trans_no hf7
      have HF7 := hid hF
      have hrl : RdL w7 (fun b => b < w.heap.size) A m (ls.take m) := rdl_take (H.out.fr hF (fun _ _ _ h => h)) (by have := short_le most ls; have := hm.out; have := HN.out; omega)
      have htk : ls.take m = short most ls := by rw [hm.out]; exact (short_take most ls).symm
      rw [htk] at hrl
      have hsame := same_lists (c := c7) (d := c) hr7 hrl (Nat.le_trans hc7 (by omega)) (by omega)
      have hte := ht.out
      clear hF hf6 hf7 hr6 hl6 htk hrl hr7
      simp only at hsame
      rw [← hte, ← hm.out] at *
      go_wp2_with fail
      refine hsame.mono ?_
      rintro e w8 ⟨rfl, k2, rfl⟩
      go_wp2_with fail
      go_ret
      exact ⟨by simp, HF7.out.drewN _⟩

set_option maxHeartbeats 4000000 in
theorem backlaw_any {w : World} {A A2 : Option Addr} {n c n2 c2 : Nat} {ls : List (List UInt8)} {zs : List Int} (most : Int) (h : RdL w (fun b => b < w.heap.size) A n ls) (hnc : n ≤ c)
    (hz : Rd w (fun b => b < w.heap.size) A2 n2 (zs.map (Value.int .i64))) (hr : ∀ l ∈ ls, l.length ≤ 140737488351232) :
    Calls Tryd.prog 4 #[.int .i64 most, .slice A n c, .slice A2 n2 c2] w fun e w' => e = .returned (.bool true) ∧ Fr No w w' := by
  by_cases g1 : most < 12
  · clear h hz hr
    go_enter Tryd.func4, Tryd.ntmps4
    go_wp2_with fail
    refine (awake_any w).mono ?_
    rintro e w1 ⟨rfl, hf1⟩
    go_wp2
    go_ret
    exact ⟨rfl, hf1⟩
  · by_cases g2 : 65535 < most
    · clear h hz hr
      go_enter Tryd.func4, Tryd.ntmps4
      go_wp2_with fail
      refine (awake_any w).mono ?_
      rintro e w1 ⟨rfl, hf1⟩
      go_wp2
      go_ret
      exact ⟨rfl, hf1⟩
    · by_cases g3 : 20 < n
      · clear h hz hr
        go_enter Tryd.func4, Tryd.ntmps4
        go_wp2_with fail
        refine (awake_any w).mono ?_
        rintro e w1 ⟨rfl, hf1⟩
        go_wp2
        go_ret
        exact ⟨rfl, hf1⟩
      · by_cases g4 : 60 < n2
        · clear h hz hr
          go_enter Tryd.func4, Tryd.ntmps4
          go_wp2_with fail
          refine (awake_any w).mono ?_
          rintro e w1 ⟨rfl, hf1⟩
          go_wp2
          go_ret
          exact ⟨rfl, hf1⟩
        · exact backlaw_go most g1 g2 g3 g4 h hnc hz hr
end Go.Proofs.YtpbgcjknhegnmaaDoor
