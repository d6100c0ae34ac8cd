/- sealed.one, at every state. -/
import Derived.Test.YtfkkaalchffgaaaOneB
namespace Go.Proofs.Ytfkkaalchffgaaa
open Go.RowKit Go.Ost

theorem u8_kind {z : UInt8} (h1 : ¬ z.toNat < 1) (h3 : ¬ 3 < z.toNat) : z.toNat = 1 ∨ z.toNat = 2 ∨ z.toNat = 3 := by omega

theorem one_any {w : World} {O : Nat → Prop} {a : Nat} {s : PC} (h : SWin w O a s) (hs : s.b.length ≤ 100000000) :
    Calls Try.prog 57 #[.pointer (some ⟨a, 0, none⟩)] w (OneR w O a s.one) := by
  obtain ⟨bs, hello, ended, broken, greeted, shut⟩ := s
  match bs, h, hs with
  | [], h, _ => exact one_empty h rfl
  | z :: t, h, hs =>
    by_cases hk : z.toNat < 1 ∨ 3 < z.toNat ∨ decide (z.toNat = 1) = hello
    · have e : PC.one ⟨z :: t, hello, ended, broken, greeted, shut⟩ = ([], 0, 4, ⟨z :: t, hello, ended, broken, greeted, shut⟩) := by simp only [PC.one]; rw [if_pos hk]
      rw [e]
      exact one_badkind h rfl hk
    · simp only [not_or] at hk
      obtain ⟨hk1, hk2, hk3⟩ := hk
      match t, h, hs with
      | [], h, hs =>
        have e : PC.one ⟨[z], hello, ended, broken, greeted, shut⟩ = ([], 0, 0, ⟨[z], hello, ended, broken, greeted, shut⟩) := by simp only [PC.one]; rw [if_neg (by simp only [not_or]; exact ⟨hk1, hk2, hk3⟩)]
        rw [e]
        rcases u8_kind hk1 hk2 with hz | hz | hz
        · exact one_none1 h rfl hz (by simp only; revert hk3; cases hello <;> simp [hz]) hs rfl
        · exact one_none2 h rfl hz (by simp only; revert hk3; cases hello <;> simp [hz]) hs rfl
        · exact one_none3 h rfl hz (by simp only; revert hk3; cases hello <;> simp [hz]) hs rfl
      | [x], h, hs =>
        have e : PC.one ⟨[z, x], hello, ended, broken, greeted, shut⟩ = ([], 0, 0, ⟨[z, x], hello, ended, broken, greeted, shut⟩) := by simp only [PC.one]; rw [if_neg (by simp only [not_or]; exact ⟨hk1, hk2, hk3⟩)]
        rw [e]
        rcases u8_kind hk1 hk2 with hz | hz | hz
        · exact one_none1 h rfl hz (by simp only; revert hk3; cases hello <;> simp [hz]) hs rfl
        · exact one_none2 h rfl hz (by simp only; revert hk3; cases hello <;> simp [hz]) hs rfl
        · exact one_none3 h rfl hz (by simp only; revert hk3; cases hello <;> simp [hz]) hs rfl
      | x :: y :: r, h, hs =>
        have hsz : sizeOfRec (z :: x :: y :: r) = some (256 * x.toNat + y.toNat) := rfl
        have e : PC.one ⟨z :: x :: y :: r, hello, ended, broken, greeted, shut⟩ =
            (if (z.toNat = 1 ∧ 256 * x.toNat + y.toNat ≠ 1) ∨ (z.toNat = 3 ∧ 256 * x.toNat + y.toNat ≠ 0) then ([], 0, 4, ⟨z :: x :: y :: r, hello, ended, broken, greeted, shut⟩)
            else if 1024 < 256 * x.toNat + y.toNat then ([], 0, 3, ⟨z :: x :: y :: r, hello, ended, broken, greeted, shut⟩)
            else if r.length < 256 * x.toNat + y.toNat then ([], 0, 0, ⟨z :: x :: y :: r, hello, ended, broken, greeted, shut⟩)
            else if z.toNat = 1 then (if r.head? ≠ some 1 then ([], 0, 4, ⟨z :: x :: y :: r, hello, ended, broken, greeted, shut⟩) else ([], 4, 0, ⟨z :: x :: y :: r, true, ended, broken, greeted, shut⟩))
            else if z.toNat = 3 then ([], 3, 0, ⟨z :: x :: y :: r, hello, true, broken, greeted, shut⟩)
            else (r.take (256 * x.toNat + y.toNat), 3 + (256 * x.toNat + y.toNat), 0, ⟨z :: x :: y :: r, hello, ended, broken, greeted, shut⟩)) := by
          simp only [PC.one]; rw [if_neg (by simp only [not_or]; exact ⟨hk1, hk2, hk3⟩)]
        rw [e]
        clear e
        generalize 256 * x.toNat + y.toNat = m at hsz
        have hlen : (z :: x :: y :: r).length = r.length + 3 := by simp
        rcases u8_kind hk1 hk2 with hz | hz | hz
        · have hh : hello = false := by revert hk3; cases hello <;> simp [hz]
          by_cases hm : m = 1
          · subst hm
            simp only [hz, ne_eq, not_true_eq_false, and_false, if_true, show ¬ ((1 : Nat) = 3) by omega, false_and, or_self, if_false, show ¬ (1024 < 1) by omega]
            by_cases hsh : r.length < 1
            · rw [if_pos hsh]
              exact one_short1 h rfl hz hh hs hsz (by simp only; omega)
            · rw [if_neg hsh]
              match r, h, hs, hsz, hlen, hsh with
              | v :: r', h, hs, hsz, hlen, _ =>
                by_cases hv : v = 1
                · subst hv
                  simp only [List.head?_cons, not_true_eq_false, if_false]
                  exact one_hello h rfl hz hh hs hsz (by simp) rfl
                · have hv' : ¬ (some v = some (1 : UInt8)) := fun e => hv (by injection e)
                  simp only [List.head?_cons, hv', not_false_eq_true, if_true]
                  exact one_nohello h rfl hz hh hs hsz (by simp) rfl hv
          · rw [if_pos (.inl ⟨hz, hm⟩)]
            exact one_size1 h rfl hz hh hs hsz hm
        · have hh : hello = true := by revert hk3; cases hello <;> simp [hz]
          rw [if_neg (by omega)]
          by_cases hm : 1024 < m
          · rw [if_pos hm]
            exact one_long2 h rfl hz hh hs hsz hm
          · rw [if_neg hm]
            by_cases hsh : r.length < m
            · rw [if_pos hsh]
              exact one_short2 h rfl hz hh hs hsz (by omega) (by simp only; omega)
            · rw [if_neg hsh, if_neg (by omega), if_neg (by omega)]
              exact one_data h rfl hz hh hs hsz (by omega) (by simp only; omega)
        · have hh : hello = true := by revert hk3; cases hello <;> simp [hz]
          by_cases hm : m = 0
          · subst hm
            rw [if_neg (by omega), if_neg (by omega), if_neg (by omega), if_neg (by omega), if_pos hz]
            exact one_close h rfl hz hh hs hsz (by simp)
          · rw [if_pos (.inr ⟨hz, hm⟩)]
            exact one_size3 h rfl hz hh hs hsz hm
end Go.Proofs.Ytfkkaalchffgaaa
