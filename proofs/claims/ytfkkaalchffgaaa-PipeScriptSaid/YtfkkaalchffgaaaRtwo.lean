/- The reference's one, at every state. -/
import Derived.Test.YtfkkaalchffgaaaRone
namespace Go.Proofs.Ytfkkaalchffgaaa
open Go.RowKit Go.Ost

theorem rone_any {w : World} {O : Nat → Prop} {a : Nat} {s : PC} {seals : Bool} (h : RWin w O a seals s) (hs : s.b.length ≤ 100000000) :
    Calls Try.prog 30 #[.pointer (some ⟨a, 0, none⟩)] w (RoneR w O a seals s.one) := by
  obtain ⟨bs, hello, ended, broken, greeted, shut⟩ := s
  match bs, h, hs with
  | [], h, _ => exact rone_empty h rfl
  | z :: t, h, hs =>
    by_cases hk : z.toNat < 1 ∨ 3 < z.toNat ∨ decide (z.toNat = 1) = hello
    · have e : PC.one ⟨z :: t, hello, ended, broken, greeted, shut⟩ = ([], 0, 4, ⟨z :: t, hello, ended, broken, greeted, shut⟩) := by simp only [PC.one]; rw [if_pos hk]
      rw [e]
      exact rone_badkind h rfl hk
    · simp only [not_or] at hk
      obtain ⟨hk1, hk2, hk3⟩ := hk
      match t, h, hs with
      | [], h, hs =>
        have e : PC.one ⟨[z], hello, ended, broken, greeted, shut⟩ = ([], 0, 0, ⟨[z], hello, ended, broken, greeted, shut⟩) := by simp only [PC.one]; rw [if_neg (by simp only [not_or]; exact ⟨hk1, hk2, hk3⟩)]
        rw [e]
        rcases u8_kind hk1 hk2 with hz | hz | hz
        · exact rone_none1 h rfl hz (by simp only; revert hk3; cases hello <;> simp [hz]) hs (by simp)
        · exact rone_none2 h rfl hz (by simp only; revert hk3; cases hello <;> simp [hz]) hs (by simp)
        · exact rone_none3 h rfl hz (by simp only; revert hk3; cases hello <;> simp [hz]) hs (by simp)
      | [x], h, hs =>
        have e : PC.one ⟨[z, x], hello, ended, broken, greeted, shut⟩ = ([], 0, 0, ⟨[z, x], hello, ended, broken, greeted, shut⟩) := by simp only [PC.one]; rw [if_neg (by simp only [not_or]; exact ⟨hk1, hk2, hk3⟩)]
        rw [e]
        rcases u8_kind hk1 hk2 with hz | hz | hz
        · exact rone_none1 h rfl hz (by simp only; revert hk3; cases hello <;> simp [hz]) hs (by simp)
        · exact rone_none2 h rfl hz (by simp only; revert hk3; cases hello <;> simp [hz]) hs (by simp)
        · exact rone_none3 h rfl hz (by simp only; revert hk3; cases hello <;> simp [hz]) hs (by simp)
      | x :: y :: r, h, hs =>
        have e : PC.one ⟨z :: x :: y :: r, hello, ended, broken, greeted, shut⟩ =
            (if (z.toNat = 1 ∧ 256 * x.toNat + y.toNat ≠ 1) ∨ (z.toNat = 3 ∧ 256 * x.toNat + y.toNat ≠ 0) then ([], 0, 4, ⟨z :: x :: y :: r, hello, ended, broken, greeted, shut⟩)
            else if 1024 < 256 * x.toNat + y.toNat then ([], 0, 3, ⟨z :: x :: y :: r, hello, ended, broken, greeted, shut⟩)
            else if r.length < 256 * x.toNat + y.toNat then ([], 0, 0, ⟨z :: x :: y :: r, hello, ended, broken, greeted, shut⟩)
            else if z.toNat = 1 then (if r.head? ≠ some 1 then ([], 0, 4, ⟨z :: x :: y :: r, hello, ended, broken, greeted, shut⟩) else ([], 4, 0, ⟨z :: x :: y :: r, true, ended, broken, greeted, shut⟩))
            else if z.toNat = 3 then ([], 3, 0, ⟨z :: x :: y :: r, hello, true, broken, greeted, shut⟩)
            else (r.take (256 * x.toNat + y.toNat), 3 + (256 * x.toNat + y.toNat), 0, ⟨z :: x :: y :: r, hello, ended, broken, greeted, shut⟩)) := by
          simp only [PC.one]; rw [if_neg (by simp only [not_or]; exact ⟨hk1, hk2, hk3⟩)]
        rw [e]
        clear e
        generalize hn : 256 * x.toNat + y.toNat = m
        have hlen : (z :: x :: y :: r).length = r.length + 3 := by simp
        rcases u8_kind hk1 hk2 with hz | hz | hz
        · have hh : hello = false := by revert hk3; cases hello <;> simp [hz]
          by_cases hm : m = 1
          · subst hm
            simp only [hz, ne_eq, not_true_eq_false, and_false, if_true, show ¬ ((1 : Nat) = 3) by omega, false_and, or_self, if_false, show ¬ (1024 < 1) by omega]
            by_cases hsh : r.length < 1
            · rw [if_pos hsh]
              exact rone_short1 h rfl hz hh hs rfl hn (by simp only [List.length_cons] at hlen ⊢; omega)
            · rw [if_neg hsh]
              match r, h, hs, hlen, hsh with
              | v :: r', h, hs, hlen, _ =>
                by_cases hv : v = 1
                · subst hv
                  simp only [List.head?_cons, not_true_eq_false, if_false]
                  exact rone_hello h rfl hz hh hs rfl hn rfl
                · have hv' : ¬ (some v = some (1 : UInt8)) := fun e => hv (by injection e)
                  simp only [List.head?_cons, hv', not_false_eq_true, if_true]
                  exact rone_nohello h rfl hz hh hs rfl hn rfl hv
          · rw [if_pos (.inl ⟨hz, hm⟩)]
            exact rone_size1 h rfl hz hh hs rfl hn hm
        · have hh : hello = true := by revert hk3; cases hello <;> simp [hz]
          rw [if_neg (by omega)]
          by_cases hm : 1024 < m
          · rw [if_pos hm]
            exact rone_long2 h rfl hz hh hs rfl hn hm
          · rw [if_neg hm]
            by_cases hsh : r.length < m
            · rw [if_pos hsh]
              exact rone_short2 h rfl hz hh hs rfl hn (by omega) (by simp only [List.length_cons] at hlen ⊢; omega)
            · rw [if_neg hsh, if_neg (by omega), if_neg (by omega)]
              exact rone_data h rfl hz hh hs rfl hn (by omega) (by simp only [List.length_cons] at hlen ⊢; omega)
        · have hh : hello = true := by revert hk3; cases hello <;> simp [hz]
          by_cases hm : m = 0
          · subst hm
            rw [if_neg (by omega), if_neg (by omega), if_neg (by omega), if_neg (by omega), if_pos hz]
            exact rone_close h rfl hz hh hs rfl hn
          · rw [if_pos (.inr ⟨hz, hm⟩)]
            exact rone_size3 h rfl hz hh hs rfl hn hm
end Go.Proofs.Ytfkkaalchffgaaa
