/- The reference's channel that does not seal; made. -/
import Derived.Test.YtfkkaalchffgaaaRsendS
import Derived.Test.YtfkkaalchffgaaaRpush
import Derived.Test.YtfkkaalchffgaaaPlain
namespace Go.Proofs.Ytfkkaalchffgaaa
open Go.RowKit Go.Ost

section
variable {w : World} {O : Nat → Prop} {a : Nat} {s : PC}
set_option maxHeartbeats 1600000 in
theorem rpclose_any (h : RWin w O a false s) : Calls Try.prog 25 #[.pointer (some ⟨a, 0, none⟩)] w (RPutR w O a false [] { s with shut := true }) := by
  have h' := h
  obtain ⟨h0, ha, A1, c1, hB, hc1, hc2, hr1⟩ := h'
  have c0 := hB.cell 0
  have c6 := hB.cell 6
  have f6 := hB.frozen 6
  have hlt := hB.lt
  simp at c0 c6
  cases hs : s.shut with
  | true =>
    rw [hs] at c6
    have e : ({ s with shut := true } : PC) = s := by cases s; simp at hs; simp [hs]
    rw [e]
    go_enter Try.func25, Try.ntmps25
    go_wp2
    go_ret
    exact rputR_nil h
  | false =>
    rw [hs] at c6
    have hf1 : Fr (· = a) w (w.setCell ⟨a, 6, none⟩ (.bool true)) := (Fr.refl (· = a) w).setCell (p := ⟨a, 6, none⟩) (.inl rfl) _
    have hS1 : RWin (w.setCell ⟨a, 6, none⟩ (.bool true)) O a false { s with shut := true } :=
      ⟨fun b hb => Nat.lt_of_lt_of_le (h0 b hb) hf1.size, ha, A1, c1, by simpa using hB.set_ 6 (.bool true), hc1, hc2, Rd.fr hr1 hf1 fun b _ hb => hb.2⟩
    go_enter Try.func25, Try.ntmps25
    go_wp2
    go_ret
    exact ⟨none, 0, rfl, Ost.Own.nil _ _ _ _, Nat.zero_le _, hS1, hf1⟩

set_option maxHeartbeats 1600000 in
theorem rpsend_any {O3 : Nat → Prop} {B : Option Addr} {n d : Nat} {bs : List UInt8} (h : RWin w O a false s) (hr : RdB w O3 B n bs) (hlen : n ≤ 140737488355328) :
    Calls Try.prog 24 #[.pointer (some ⟨a, 0, none⟩), .slice B n d] w (RPutR w O a false (if s.shut then [] else bs) s) := by
  obtain ⟨i0, hi, hz0, hz1, hz2⟩ := info_parts info_u8
  have h' := h
  obtain ⟨h0, ha, A1, c1, hB, hc1, hc2, hr1⟩ := h'
  have c0 := hB.cell 0
  have c6 := hB.cell 6
  have hlt := hB.lt
  simp at c0 c6
  have hbl : bs.length = n := by simpa using hr.1
  rcases Nat.eq_zero_or_pos n with hn | hn
  · subst hn
    have hb : bs = [] := List.eq_nil_of_length_eq_zero hbl
    subst hb
    have e : (if s.shut = true then ([] : List UInt8) else []) = [] := by split <;> rfl
    rw [e]
    clear hbl
    go_enter Try.func24, Try.ntmps24
    go_wp2
    go_ret
    exact rputR_nil h
  · have hnz : decide ((n : Int) = 0) = false := by simp; omega
    have HBL := hid hbl
    clear hbl
    cases hs : s.shut with
    | true =>
      rw [hs] at c6
      simp only [if_true]
      go_enter Try.func24, Try.ntmps24
      go_wp2
      go_ret
      exact rputR_nil h
    | false =>
      rw [hs] at c6
      simp only [Bool.false_eq_true, if_false]
      go_enter Try.func24, Try.ntmps24
      go_wp2_with (at_builtin; refine wpList_app _ rfl (.tmp 23) (.tmp 24) _ rfl 5 i0 _ 1 1 Try.underlying28 hi hz0 hz1 hz2 rfl (by omega) byte_zero (O := Ge w.heap.size) (by simp [Ge]) rfl own_lit (m := n) rfl (by rw [Nat.mul_one]; exact Rd.alloc hr _) (bv_all _) (by simp only [maxLen]; omega) (by omega) ?_; intro A2 c2 w1 hown1 hf1 hcc1 hA1)
      go_ret
      have hF : Fr No w w1 := ((Fr.refl No w).alloc _).trans_new hf1 (fun b hb => by obtain ⟨o, e⟩ := hb; injection e with e; injection e with e; omega)
      rw [← HBL.out] at hown1
      exact ⟨A2, c2, by rw [HBL.out]; simp, by simpa using hown1, hcc1 (Nat.zero_le _), h.fr hF (fun _ _ h => h), hF.of_no⟩

set_option maxHeartbeats 1600000 in
theorem rppush_any {O3 : Nat → Prop} {B : Option Addr} {n d : Nat} {bs : List UInt8} (h : RWin w O a false s) (hbk : s.broken = false) (hen : s.ended = false) (hr : RdB w O3 B n bs) (hlen : n ≤ 140737488355328) :
    Calls Try.prog 26 #[.pointer (some ⟨a, 0, none⟩), .slice B n d] w (NewE w bs 0) := by
  obtain ⟨i0, hi, hz0, hz1, hz2⟩ := info_parts info_u8
  obtain ⟨h0, ha, A1, c1, hB, hc1, hc2, hr1⟩ := h
  have c0 := hB.cell 0
  have c3 := hB.cell 3
  have c4 := hB.cell 4
  have hlt := hB.lt
  rw [hbk] at c3
  rw [hen] at c4
  simp at c0 c3 c4
  have hbl : bs.length = n := by simpa using hr.1
  have HBL := hid hbl
  clear hbl
  go_enter Try.func26, Try.ntmps26
  go_wp2_with (at_builtin; refine wpList_app _ rfl (.tmp 26) (.tmp 27) _ rfl 5 i0 _ 1 1 Try.underlying28 hi hz0 hz1 hz2 rfl (by omega) byte_zero (O := Ge w.heap.size) (by simp [Ge]) rfl own_lit (m := n) rfl (by rw [Nat.mul_one]; exact Rd.alloc hr _) (bv_all _) (by simp only [maxLen]; omega) (by omega) ?_; intro A2 c2 w1 hown1 hf1 hcc1 hA1)
  go_ret2
  have hF : Fr No w w1 := ((Fr.refl No w).alloc _).trans_new hf1 (fun b hb => by obtain ⟨o, e⟩ := hb; injection e with e; injection e with e; omega)
  rw [← HBL.out] at hown1
  exact ⟨A2, c2, by rw [HBL.out]; simp, by simpa using hown1, hcc1 (Nat.zero_le _), hF⟩
end
end Go.Proofs.Ytfkkaalchffgaaa
