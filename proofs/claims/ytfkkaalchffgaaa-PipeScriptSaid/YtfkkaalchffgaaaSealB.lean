/- A sealed channel: Send at whatever is handed in, Close, and what it tells of itself; made anew. -/
import Derived.Test.YtfkkaalchffgaaaSeal
namespace Go.Proofs.Ytfkkaalchffgaaa
open Go.RowKit Go.Ost

section
variable {w w' : World} {O S : Nat → Prop} {a : Nat} {s : PC}
theorem putR_nil (h : SWin w O a s) : PutR w O a [] s (.returned (.slice none 0 0)) w := ⟨none, 0, rfl, Ost.Own.nil _ _ _ _, Nat.zero_le _, h, Fr.refl _ _⟩

set_option maxHeartbeats 800000 in
theorem send_any {O' : Nat → Prop} {A : Option Addr} {n c : Nat} {bs : List UInt8} (h : SWin w O a s) (hr : RdB w O' A n bs) (hO' : ∀ b, O' b → b ≠ a ∧ b < w.heap.size) (hnc : n ≤ c) (hlen : n ≤ 9000) :
    Calls Try.prog 54 #[.pointer (some ⟨a, 0, none⟩), .slice A n c] w (PutR w O a (s.send bs).1 (s.send bs).2) := by
  have h' := h
  obtain ⟨h0, ha, A1, c1, hB, hc1, hc2, hr1⟩ := h'
  have c5 := hB.cell 5
  have hlt := hB.lt
  simp at c5
  have hl : bs.length = n := by simpa using hr.1
  cases hs : s.shut with
  | true =>
    rw [hs] at c5
    simp only [PC.send, hs, true_or, if_true]
    clear hl
    go_enter Try.func54, Try.ntmps54
    go_wp2
    go_ret
    exact putR_nil h
  | false =>
    rw [hs] at c5
    rcases Nat.eq_zero_or_pos n with hn | hn
    · subst hn
      have : bs = [] := List.eq_nil_of_length_eq_zero hl
      subst this
      simp only [PC.send, or_true, if_true]
      clear hl
      go_enter Try.func54, Try.ntmps54
      go_wp2
      go_ret
      exact putR_nil h
    · have hne : bs ≠ [] := by intro e; subst e; simp at hl; omega
      obtain ⟨b, o, rfl, _, _⟩ := hr.2 hn
      subst hl
      have := send_go (c := c) h hs hr hO' hnc hlen hn
      simp only [hs] at this
      simp only [PC.send, hs, hne, Bool.false_eq_true, or_self, if_false]
      exact this

set_option maxHeartbeats 1600000 in
theorem close_any (h : SWin w O a s) : Calls Try.prog 50 #[.pointer (some ⟨a, 0, none⟩)] w (PutR w O a s.close.1 s.close.2) := by
  have h' := h
  obtain ⟨h0, ha, A1, c1, hB, hc1, hc2, hr1⟩ := h'
  have c5 := hB.cell 5
  have f5 := hB.frozen 5
  have hlt := hB.lt
  simp at c5
  cases hs : s.shut with
  | true =>
    rw [hs] at c5
    simp only [PC.close, hs, if_true]
    go_enter Try.func50, Try.ntmps50
    go_wp2
    go_ret
    exact putR_nil h
  | false =>
    rw [hs] at c5
    simp only [PC.close, hs, Bool.false_eq_true, if_false]
    have hf1 : Fr (· = a) w (w.setCell ⟨a, 5, none⟩ (.bool true)) := (Fr.refl (· = a) w).setCell (p := ⟨a, 5, none⟩) (.inl rfl) _
    have hS1 : SWin (w.setCell ⟨a, 5, none⟩ (.bool true)) O a { s with shut := true } :=
      ⟨fun b hb => Nat.lt_of_lt_of_le (h0 b hb) hf1.size, ha, A1, c1, by simpa using hB.set_ 5 (.bool true), hc1, hc2, Rd.fr hr1 hf1 fun b _ hb => hb.2⟩
    go_enter Try.func50, Try.ntmps50
    go_wp2_with fail
    refine (record_any (O := No) (n := 0) (c := 0) (bs := []) 3 (Rd.nil _ _ _) (Nat.le_refl _) (by omega)).mono ?_
    have er : recOf 3 [] = ([3, 0, 0], 0) := by decide
    rw [er]
    rintro e w2 ⟨A2, c2, rfl, hown2, hc22, hf2⟩
    have hS2 := hS1.fr hf2 (fun _ _ h => h)
    go_wp2_with fail
    refine (greet_any hS2).mono ?_
    rintro e w3 ⟨A3, c3, rfl, hown3, hc33, hS3, hf3⟩
    have hown2' := hown2.fr hf3 (fun b _ hb e => by subst e; simp only [Ge, World.size_setCell] at hb; omega)
    go_wp2_with fail
    have h3 := rdl_two (t := 28) (Rd.val (c := c3) hown3.rd hown3.le) (Rd.val (c := c2) hown2'.rd hown2'.le)
    refine (concat (c := 2) h3 (by omega) (by simp [PC.greet]; split <;> simp)).mono ?_
    rintro e w4 ⟨A4, c4, rfl, hown4, hc44, hf4⟩
    go_wp2_with fail
    go_ret
    have hfl : ([PC.greet { s with shut := true }, [3, 0, 0]] : List (List UInt8)).flatten = s.greet ++ [3, 0, 0] := by simp [PC.greet]
    have s2 := hf2.size
    have s3 := hf3.size
    have s4 := hf4.size
    have s1 := hf1.size
    rw [hfl] at hown4
    refine ⟨A4, c4, by simp [PC.greet], hown4.mono (fun b _ hb => ?_), hc44, (hS3.fr (((Fr.refl No w3).alloc _).trans hf4 (fun _ _ h => h)) (fun _ _ h => h)), ?_⟩
    · simp only [Ge, World.size_alloc] at hb ⊢
      omega
    · exact ((hf1.trans_no hf2).trans hf3 (fun _ _ h => h)).trans_no (((Fr.refl No w3).alloc _).trans hf4 (fun _ _ h => h))
end
end Go.Proofs.Ytfkkaalchffgaaa
