/- The reference's hello, Close; Send. -/
import Derived.Test.YtfkkaalchffgaaaRtwo
import Derived.Test.YtfkkaalchffgaaaRrec
import Derived.Test.YtfkkaalchffgaaaFeed
import Derived.Test.YtfkkaalchffgaaaSent
namespace Go.Proofs.Ytfkkaalchffgaaa
open Go.RowKit Go.Ost

/-- What a call of the reference hands back, and which channel it leaves. -/
def RPutR (w : World) (O : Nat → Prop) (a : Nat) (seals : Bool) (out : List UInt8) (s : PC) (e : Ending) (w' : World) : Prop :=
  ∃ A c, e = .returned (.slice A out.length c) ∧ Ost.Own w' (Ge w.heap.size) 5 Byte A out.length c (out.map bv) ∧ c ≤ maxLen ∧ RWin w' O a seals s ∧ Fr (· = a) w w'
theorem own_four {w : World} {x y z u : UInt8} : Ost.Own (w.alloc (.cells #[bv x, bv y, bv z, bv u] 5)) (Ge w.heap.size) 5 Byte (some ⟨w.heap.size, 0, none⟩) 4 4 ([x, y, z, u].map bv) :=
  ⟨rfl, .inr ⟨w.heap.size, [], rfl, Nat.le_refl _, by simpa using Blk.new w 5 #[bv x, bv y, bv z, bv u], by simp, by simp⟩⟩

section
variable {w : World} {O : Nat → Prop} {a : Nat} {s : PC} {seals : Bool}
theorem rputR_nil (h : RWin w O a seals s) : RPutR w O a seals [] s (.returned (.slice none 0 0)) w := ⟨none, 0, rfl, Ost.Own.nil _ _ _ _, Nat.zero_le _, h, Fr.refl _ _⟩

set_option maxHeartbeats 800000 in
theorem rhello_any (h : RWin w O a seals s) : Calls Try.prog 29 #[.pointer (some ⟨a, 0, none⟩)] w (RPutR w O a seals s.greet { s with greeted := true }) := by
  have h' := h
  obtain ⟨h0, ha, A, c, hB, hc1, hc2, hr⟩ := h'
  have c5 := hB.cell 5
  have f5 := hB.frozen 5
  have hlt := hB.lt
  simp at c5
  cases hg : s.greeted with
  | true =>
    rw [hg] at c5
    go_enter Try.func29, Try.ntmps29
    go_wp2
    go_ret
    refine ⟨none, 0, by simp [PC.greet, hg], by simpa [PC.greet, hg] using Ost.Own.nil _ _ _ _, Nat.zero_le _, ?_, Fr.refl _ _⟩
    have e : ({ s with greeted := true } : PC) = s := by cases s; simp at hg; simp [hg]
    rw [e]
    exact h
  | false =>
    rw [hg] at c5
    go_enter Try.func29, Try.ntmps29
    go_wp2
    go_ret
    have hf1 : Fr (· = a) w ((w.setCell ⟨a, 5, none⟩ (.bool true)).alloc (.cells #[.int .u8 1, .int .u8 0, .int .u8 1, .int .u8 1] 5)) := ((Fr.refl (· = a) w).setCell (p := ⟨a, 5, none⟩) (.inl rfl) _).alloc _
    have hB1 := (hB.set_ 5 (.bool true)).alloc (.cells #[.int .u8 1, .int .u8 0, .int .u8 1, .int .u8 1] 5)
    have hown := own_four (w := w.setCell ⟨a, 5, none⟩ (.bool true)) (x := 1) (y := 0) (z := 1) (u := 1)
    have eg : s.greet = [1, 0, 1, 1] := by simp [PC.greet, hg]
    rw [eg]
    refine ⟨some ⟨w.heap.size, 0, none⟩, 4, by simp, ?_, by simp [maxLen], ⟨fun b hb => Nat.lt_of_lt_of_le (h0 b hb) hf1.size, ha, A, c, by simpa using hB1, hc1, hc2, Rd.fr hr hf1 fun b _ hb => hb.2⟩, hf1⟩
    have := hown
    simp only [World.size_setCell] at this
    exact this

set_option maxHeartbeats 1600000 in
theorem rclose_any (h : RWin w O a true s) : Calls Try.prog 25 #[.pointer (some ⟨a, 0, none⟩)] w (RPutR w O a true s.close.1 s.close.2) := by
  obtain ⟨i0, hi, hz0, hz1, hz2⟩ := info_parts info_u8
  have h' := h
  obtain ⟨h0, ha, A1, c1, hB, hc1, hc2, hr1⟩ := h'
  have c0 := hB.cell 0
  have c6 := hB.cell 6
  have f6 := hB.frozen 6
  have hlt := hB.lt
  simp at c0 c6
  cases hs : s.shut with
  | true =>
    rw [hs] at c6
    simp only [PC.close, hs, if_true]
    go_enter Try.func25, Try.ntmps25
    go_wp2
    go_ret
    exact rputR_nil h
  | false =>
    rw [hs] at c6
    simp only [PC.close, hs, Bool.false_eq_true, if_false]
    have hf1 : Fr (· = a) w (w.setCell ⟨a, 6, none⟩ (.bool true)) := (Fr.refl (· = a) w).setCell (p := ⟨a, 6, none⟩) (.inl rfl) _
    have hS1 : RWin (w.setCell ⟨a, 6, none⟩ (.bool true)) O a true { s with shut := true } :=
      ⟨fun b hb => Nat.lt_of_lt_of_le (h0 b hb) hf1.size, ha, A1, c1, by simpa using hB.set_ 6 (.bool true), hc1, hc2, Rd.fr hr1 hf1 fun b _ hb => hb.2⟩
    go_enter Try.func25, Try.ntmps25
    go_wp2_with fail
    refine (rhello_any hS1).mono ?_
    rintro e w2 ⟨A2, c2, rfl, hown2, hc22, hS2, hf2⟩
    have eg : PC.greet { s with shut := true } = s.greet := rfl
    rw [eg] at hown2 ⊢
    have gl : s.greet.length ≤ 4 := by simp only [PC.greet]; split <;> simp
    have hsz2 := hf2.size
    have hsz1 := hf1.size
    have HS2 := hid hS2
    clear hS1 hB hr1
    have h3 : RdB (w2.alloc (.cells #[.int .u8 3, .int .u8 0, .int .u8 0] 5)) (Ge w2.heap.size) (some ⟨w2.heap.size, 0, none⟩) 3 [3, 0, 0] := (own_three (w := w2) (x := 3) (y := 0) (z := 0)).rd
    have hownA : Ost.Own (w2.alloc (.cells #[.int .u8 3, .int .u8 0, .int .u8 0] 5)) (Ge w.heap.size) 5 Byte A2 (s.greet.length * 1) (c2 * 1) (s.greet.map bv) := by
      rw [Nat.mul_one, Nat.mul_one]
      exact (hown2.fr ((Fr.refl No w2).alloc _) (fun _ _ _ h => h)).mono fun b _ hb => by simp only [Ge, World.size_setCell] at hb ⊢; omega
    go_wp2_with (at_builtin; go_must (refine wpList_app _ rfl (.tmp 16) (.tmp 17) _ rfl 5 i0 _ 1 1 Try.underlying28 hi hz0 hz1 hz2 rfl (by omega) byte_zero (O := Ge w.heap.size) (by simp [Ge]; omega) rfl hownA (m := 3) rfl (by rw [Nat.mul_one]; exact h3) (bv_all _) (by simp only [maxLen]; omega) (by omega) ?_; intro A4 c4 w4 hown4 hf4 hc4 hA4))
    go_ret
    have hF4 : Fr (fun y => At A2 y) w2 w4 := ((Fr.refl (fun y => At A2 y) w2).alloc _).trans hf4 (fun _ _ h => h)
    refine ⟨A4, c4, by simp, by simpa using hown4, hc4 hc22, HS2.out.fr hF4 (fun y hy h => ?_), ?_⟩
    · have := h0 y hy
      have := hown2.at_ y h
      simp only [Ge] at this
      omega
    · exact (hf1.trans hf2 (fun _ _ h => h)).trans_new hF4 (fun y hy => .inr (by have := hown2.at_ y hy; simp only [Ge] at this; omega))
end
end Go.Proofs.Ytfkkaalchffgaaa
