/- slices.Grow at a nil slice, slices.Concat, octet.Put16: each for every input that its premises let in. -/
import Derived.Test.YtfkkaalchffgaaaKit
import Derived.Test.YtfkkaalchffgaaaSlice
import Derived.Lib.AppendZeros
import Derived.Deep.LoopGhost
namespace Go.Proofs.Ytfkkaalchffgaaa
open Go.RowKit Go.Ost

/-- A row of zeros and no element yet: a row of the call's own. -/
theorem own_zeros {w : World} {n m : Nat} :
    Own (w.drew.alloc (.cells (Builtin.zeroCells (Value.int .u8 0).cells n ++ Builtin.zeroCells (Value.int .u8 0).cells m) 5)) (Ge w.heap.size) 5 Byte (some ⟨w.heap.size, 0, none⟩) 0 (n + m) [] := by
  refine ⟨rfl, .inr ⟨w.heap.size, (Builtin.zeroCells (Value.int .u8 0).cells n ++ Builtin.zeroCells (Value.int .u8 0).cells m).toList, rfl, Nat.le_refl _, ?_, ?_, ?_⟩⟩
  · simp only [List.nil_append, Array.toArray_toList]
    exact Blk.new w.drew 5 _
  · simp [size_zeroCells, Value.cells]
  · intro v hv
    rw [Array.toList_append, List.mem_append] at hv
    rcases hv with hv | hv <;> exact zero_mem byte_zero v hv

set_option maxHeartbeats 400000 in
theorem grow_nil {w : World} {n : Nat} (hn : n ≤ 140737488355328) :
    Calls Try.prog 32 #[.slice none 0 0, .int .i64 n] w fun e w' => ∃ A c, e = .returned (.slice A 0 c) ∧ Own w' (Ge w.heap.size) 5 Byte A 0 c [] ∧ c ≤ maxLen ∧ Fr No w w' := by
  obtain ⟨i0, hi, hz0, hz1, hz2⟩ := info_parts info_u8
  rcases Nat.eq_zero_or_pos n with h0 | h0
  · subst h0
    go_enter Try.func32, Try.ntmps32
    go_wp2
    go_ret
    exact ⟨none, 0, rfl, Own.nil _ _ _ _, Nat.zero_le _, Fr.refl _ _⟩
  · have hrun := Lib.run_append_nil_zeros (P := Try.prog) w 28 3 28 5 i0 _ .i64 .i64 Try.underlying28 Try.underlying3 hi hz0 n h0 (by rw [hz1]; omega) (by omega) (by rw [hz2]; omega)
    have hcap : grownCap w n 0 5 ≤ maxLen := grownCap_le_maxLen w n 0 _ (by simp only [maxLen]; omega)
    have hge := grownCap_ge w n 0 5
    generalize grownCap w n 0 5 = gc at hrun hcap hge
    go_enter Try.func32, Try.ntmps32
    go_wp2_with (at_builtin; refine Lib.wpList_append_run _ rfl _ _ _ _ rfl _ _ rfl rfl _ _ hrun ?_)
    go_ret
    refine ⟨_, n + (gc - n), by rw [Nat.add_sub_of_le hge]; first | done | rfl, own_zeros, by omega, ?_⟩
    exact ((Fr.refl No w).drew).alloc _

theorem flat_step {ls : List (List UInt8)} {k : Nat} {l : List UInt8} (h : ls[k]? = some l) : (ls.take (k + 1)).flatten = (ls.take k).flatten ++ l := by
  obtain ⟨hk, e⟩ := List.getElem?_eq_some_iff.1 h
  rw [List.take_succ_eq_append_getElem hk, List.flatten_append, e]
  simp
theorem flat_le (ls : List (List UInt8)) (k : Nat) : (ls.take k).flatten.length ≤ ls.flatten.length := by
  conv => rhs; rw [← List.take_append_drop k ls, List.flatten_append, List.length_append]
  omega

set_option maxHeartbeats 1600000 in
theorem concat {w : World} {O : Nat → Prop} {A : Option Addr} {n c : Nat} {ls : List (List UInt8)} (h : RdL w O A n ls) (hn : n ≤ 1000) (hl : ls.flatten.length ≤ 100000000) :
    Calls Try.prog 28 #[.slice A n c] w (NewB w ls.flatten) := by
  obtain ⟨i0, hi, hz0, hz1, hz2⟩ := info_parts info_u8
  have lx : ls.length = n := h.len
  have HL := hid lx
  have HF := hid hl
  have HD : Hid (∀ k, k < n → ∃ A1 n1 c1 l, ls[k]? = some l ∧ (∃ b o, A = some ⟨b, o, none⟩ ∧ w.cell? ⟨b, o + k, none⟩ = some (.slice A1 n1 c1) ∧ n1 ≤ c1) ∧ RdB w O A1 n1 l) := fun k hk => by
    obtain ⟨b, o, e, hc⟩ := h.head (by omega)
    obtain ⟨A1, n1, c1, l, e1, e2, e3, e4⟩ := hc k hk
    exact ⟨A1, n1, c1, l, e1, ⟨b, o, e, e2, e3⟩, e4⟩
  clear lx hl
  go_enter Try.func28, Try.ntmps28
  go_wp2
  go_loopw [3, 11] (fun s i wr => ∃ k : Nat, k ≤ n ∧ i = .int .i64 k ∧ s = .int .i64 ((ls.take k).flatten.length : Nat) ∧ w = wr) (fun _ i _ => n - (intOf i).toNat)
  case atStart => exact ⟨0, Nat.zero_le _, by first | rfl | trivial, by first | rfl | trivial, by first | rfl | trivial⟩
  case round =>
    obtain ⟨k, hk, rfl, rfl, rfl⟩ := hrel
    by_cases hlt : k < n
    · obtain ⟨A1, n1, c1, l, hll, ⟨b, o, rfl, hcell, hle⟩, hr⟩ := HD.out k hlt
      have hln : l.length = n1 := by simpa using hr.1
      have hs := flat_step hll
      have hb1 := flat_le ls (k + 1)
      have hsum : (ls.take (k + 1)).flatten.length = (ls.take k).flatten.length + n1 := by rw [hs, List.length_append, hln]
      have hb2 := HF.out
      have HS := hid hsum
      generalize hsk : (ls.take k).flatten.length = sk at hsum
      have hbig : sk + n1 ≤ 100000000 := by omega
      have HSK := hid hsk
      clear hsk hs hb1 hb2 hsum hln hll hle
      go_wp2
      go_roundw
      case rel => exact ⟨k + 1, by omega, by go_num, by rw [HS.out, HSK.out]; go_num, by first | rfl | trivial⟩
      case measure => simp [intOf]; omega
    · obtain rfl : n = k := by omega
      have hall : ls.take n = ls := List.take_of_length_le (by rw [HL.out]; exact Nat.le_refl _)
      rw [hall]
      generalize hsk : ls.flatten.length = sk
      have hbig : sk ≤ 100000000 := by rw [← hsk]; exact HF.out
      have HSK := hid hsk
      clear hsk hall
      go_wp2_with fail
      refine (grow_nil (w := _) (n := sk) (by omega)).mono ?_
      rintro e w1 ⟨A1, c1, rfl, hown, hc1, hf1⟩
      go_wp2_with fail
      go_loopw [6, 27] (fun s i wr => ∃ (k : Nat) (A2 : Option Addr) (c2 : Nat), k ≤ n ∧ i = .int .i64 k ∧ s = .slice A2 (ls.take k).flatten.length c2 ∧ Hid (Own wr (Ge w.heap.size) 5 Byte A2 (ls.take k).flatten.length c2 ((ls.take k).flatten.map bv)) ∧ c2 ≤ maxLen ∧ Hid (Fr No w wr)) (fun _ i _ => n - (intOf i).toNat)
      case atStart => exact ⟨0, A1, c1, Nat.zero_le _, rfl, rfl, hown, hc1, hf1⟩
      case round =>
        clear hown hc1 hf1
        obtain ⟨k, A2, c2, hk, rfl, rfl, hown, hc2, hf2⟩ := hrel
        by_cases hlt : k < n
        · obtain ⟨A1, n1, c1, l, hll, ⟨b, o, rfl, hcell, hle⟩, hr⟩ := HD.out k hlt
          have hln : l.length = n1 := by simpa using hr.1
          have hs := flat_step hll
          have hb1 := flat_le ls (k + 1)
          have hsum : (ls.take (k + 1)).flatten.length = (ls.take k).flatten.length + n1 := by rw [hs, List.length_append, hln]
          have hb2 := HF.out
          have HS := hid hsum
          have HSV := hid hs
          generalize hsk : (ls.take k).flatten.length = sk at hsum hown
          have hbig : sk + n1 ≤ 100000000 := by omega
          have HSK := hid hsk
          have hcell2 : wr.cell? ⟨b, o + k, none⟩ = some (.slice A1 n1 c1) := hf2.out.cell (fun h => h) hcell
          have hr2 : RdB wr O A1 n1 l := Rd.fr hr hf2.out (fun _ _ _ h => h)
          clear hsk hs hb1 hb2 hsum hln hll hcell hr
          have hsz := hf2.out.size
          go_wp2_with (at_builtin; refine wpList_app _ rfl (.tmp 31) (.tmp 32) _ rfl 5 i0 _ 1 1 Try.underlying28 hi hz0 hz1 hz2 rfl (by omega) byte_zero (O := Ge w.heap.size) (by simpa [Ge] using hsz) rfl (by simpa using hown.out) (m := n1) rfl (by rw [Nat.mul_one]; exact hr2) (bv_all _) (by simp only [maxLen]; omega) (by omega) ?_; intro A3 c3 w3 hown3 hf3 hc3 hA3)
          go_roundw
          case rel =>
            refine ⟨k + 1, A3, c3, by omega, by go_num, by rw [HS.out, HSK.out], ?_, hc3 hc2, ?_⟩
            · rw [HS.out, HSV.out, HSK.out, List.map_append]
              simpa [Hid] using hown3
            · exact (hf2.out.trans_new hf3 fun b hb => .inr (hown.out.at_ b hb))
          case measure => simp [intOf]; omega
        · obtain rfl : n = k := by omega
          have hall : ls.take n = ls := List.take_of_length_le (by rw [HL.out]; exact Nat.le_refl _)
          rw [hall] at hown
          go_wp2
          go_ret
          refine ⟨A2, c2, by rw [hall]; first | done | rfl, hown.out, hc2, hf2.out⟩
set_option maxHeartbeats 400000 in
theorem grow_nil_rec {w : World} {n : Nat} (hn : n ≤ 140737488355328) :
    Calls Try.prog 59 #[.slice none 0 0, .int .i64 n] w fun e w' => ∃ A c, e = .returned (.slice A 0 c) ∧ Own w' (Ge w.heap.size) 5 Byte A 0 c [] ∧ c ≤ maxLen ∧ Fr No w w' := by
  obtain ⟨i0, hi, hz0, hz1, hz2⟩ := info_parts info_u8
  rcases Nat.eq_zero_or_pos n with h0 | h0
  · subst h0
    go_enter Try.func59, Try.ntmps59
    go_wp2
    go_ret
    exact ⟨none, 0, rfl, Own.nil _ _ _ _, Nat.zero_le _, Fr.refl _ _⟩
  · have hrun := Lib.run_append_nil_zeros (P := Try.prog) w 55 3 55 5 i0 _ .i64 .i64 Try.underlying55 Try.underlying3 hi hz0 n h0 (by rw [hz1]; omega) (by omega) (by rw [hz2]; omega)
    have hcap : grownCap w n 0 5 ≤ maxLen := grownCap_le_maxLen w n 0 _ (by simp only [maxLen]; omega)
    have hge := grownCap_ge w n 0 5
    generalize grownCap w n 0 5 = gc at hrun hcap hge
    go_enter Try.func59, Try.ntmps59
    go_wp2_with (at_builtin; refine Lib.wpList_append_run _ rfl _ _ _ _ rfl _ _ rfl rfl _ _ hrun ?_)
    go_ret
    refine ⟨_, n + (gc - n), by rw [Nat.add_sub_of_le hge]; first | done | rfl, own_zeros, by omega, ?_⟩
    exact ((Fr.refl No w).drew).alloc _

set_option maxHeartbeats 1600000 in
theorem concat_rec {w : World} {O : Nat → Prop} {A : Option Addr} {n c : Nat} {ls : List (List UInt8)} (h : RdL w O A n ls) (hn : n ≤ 1000) (hl : ls.flatten.length ≤ 100000000) :
    Calls Try.prog 56 #[.slice A n c] w (NewB w ls.flatten) := by
  obtain ⟨i0, hi, hz0, hz1, hz2⟩ := info_parts info_u8
  have lx : ls.length = n := h.len
  have HL := hid lx
  have HF := hid hl
  have HD : Hid (∀ k, k < n → ∃ A1 n1 c1 l, ls[k]? = some l ∧ (∃ b o, A = some ⟨b, o, none⟩ ∧ w.cell? ⟨b, o + k, none⟩ = some (.slice A1 n1 c1) ∧ n1 ≤ c1) ∧ RdB w O A1 n1 l) := fun k hk => by
    obtain ⟨b, o, e, hc⟩ := h.head (by omega)
    obtain ⟨A1, n1, c1, l, e1, e2, e3, e4⟩ := hc k hk
    exact ⟨A1, n1, c1, l, e1, ⟨b, o, e, e2, e3⟩, e4⟩
  clear lx hl
  go_enter Try.func56, Try.ntmps56
  go_wp2
  go_loopw [3, 11] (fun s i wr => ∃ k : Nat, k ≤ n ∧ i = .int .i64 k ∧ s = .int .i64 ((ls.take k).flatten.length : Nat) ∧ w = wr) (fun _ i _ => n - (intOf i).toNat)
  case atStart => exact ⟨0, Nat.zero_le _, by first | rfl | trivial, by first | rfl | trivial, by first | rfl | trivial⟩
  case round =>
    obtain ⟨k, hk, rfl, rfl, rfl⟩ := hrel
    by_cases hlt : k < n
    · obtain ⟨A1, n1, c1, l, hll, ⟨b, o, rfl, hcell, hle⟩, hr⟩ := HD.out k hlt
      have hln : l.length = n1 := by simpa using hr.1
      have hs := flat_step hll
      have hb1 := flat_le ls (k + 1)
      have hsum : (ls.take (k + 1)).flatten.length = (ls.take k).flatten.length + n1 := by rw [hs, List.length_append, hln]
      have hb2 := HF.out
      have HS := hid hsum
      generalize hsk : (ls.take k).flatten.length = sk at hsum
      have hbig : sk + n1 ≤ 100000000 := by omega
      have HSK := hid hsk
      clear hsk hs hb1 hb2 hsum hln hll hle
      go_wp2
      go_roundw
      case rel => exact ⟨k + 1, by omega, by go_num, by rw [HS.out, HSK.out]; go_num, by first | rfl | trivial⟩
      case measure => simp [intOf]; omega
    · obtain rfl : n = k := by omega
      have hall : ls.take n = ls := List.take_of_length_le (by rw [HL.out]; exact Nat.le_refl _)
      rw [hall]
      generalize hsk : ls.flatten.length = sk
      have hbig : sk ≤ 100000000 := by rw [← hsk]; exact HF.out
      have HSK := hid hsk
      clear hsk hall
      go_wp2_with fail
      refine (grow_nil_rec (w := _) (n := sk) (by omega)).mono ?_
      rintro e w1 ⟨A1, c1, rfl, hown, hc1, hf1⟩
      go_wp2_with fail
      go_loopw [6, 27] (fun s i wr => ∃ (k : Nat) (A2 : Option Addr) (c2 : Nat), k ≤ n ∧ i = .int .i64 k ∧ s = .slice A2 (ls.take k).flatten.length c2 ∧ Hid (Own wr (Ge w.heap.size) 5 Byte A2 (ls.take k).flatten.length c2 ((ls.take k).flatten.map bv)) ∧ c2 ≤ maxLen ∧ Hid (Fr No w wr)) (fun _ i _ => n - (intOf i).toNat)
      case atStart => exact ⟨0, A1, c1, Nat.zero_le _, rfl, rfl, hown, hc1, hf1⟩
      case round =>
        clear hown hc1 hf1
        obtain ⟨k, A2, c2, hk, rfl, rfl, hown, hc2, hf2⟩ := hrel
        by_cases hlt : k < n
        · obtain ⟨A1, n1, c1, l, hll, ⟨b, o, rfl, hcell, hle⟩, hr⟩ := HD.out k hlt
          have hln : l.length = n1 := by simpa using hr.1
          have hs := flat_step hll
          have hb1 := flat_le ls (k + 1)
          have hsum : (ls.take (k + 1)).flatten.length = (ls.take k).flatten.length + n1 := by rw [hs, List.length_append, hln]
          have hb2 := HF.out
          have HS := hid hsum
          have HSV := hid hs
          generalize hsk : (ls.take k).flatten.length = sk at hsum hown
          have hbig : sk + n1 ≤ 100000000 := by omega
          have HSK := hid hsk
          have hcell2 : wr.cell? ⟨b, o + k, none⟩ = some (.slice A1 n1 c1) := hf2.out.cell (fun h => h) hcell
          have hr2 : RdB wr O A1 n1 l := Rd.fr hr hf2.out (fun _ _ _ h => h)
          clear hsk hs hb1 hb2 hsum hln hll hcell hr
          have hsz := hf2.out.size
          go_wp2_with (at_builtin; refine wpList_app _ rfl (.tmp 31) (.tmp 32) _ rfl 5 i0 _ 1 1 Try.underlying55 hi hz0 hz1 hz2 rfl (by omega) byte_zero (O := Ge w.heap.size) (by simpa [Ge] using hsz) rfl (by simpa using hown.out) (m := n1) rfl (by rw [Nat.mul_one]; exact hr2) (bv_all _) (by simp only [maxLen]; omega) (by omega) ?_; intro A3 c3 w3 hown3 hf3 hc3 hA3)
          go_roundw
          case rel =>
            refine ⟨k + 1, A3, c3, by omega, by go_num, by rw [HS.out, HSK.out], ?_, hc3 hc2, ?_⟩
            · rw [HS.out, HSV.out, HSK.out, List.map_append]
              simpa [Hid] using hown3
            · exact (hf2.out.trans_new hf3 fun b hb => .inr (hown.out.at_ b hb))
          case measure => simp [intOf]; omega
        · obtain rfl : n = k := by omega
          have hall : ls.take n = ls := List.take_of_length_le (by rw [HL.out]; exact Nat.le_refl _)
          rw [hall] at hown
          go_wp2
          go_ret
          refine ⟨A2, c2, by rw [hall]; first | done | rfl, hown.out, hc2, hf2.out⟩
end Go.Proofs.Ytfkkaalchffgaaa
