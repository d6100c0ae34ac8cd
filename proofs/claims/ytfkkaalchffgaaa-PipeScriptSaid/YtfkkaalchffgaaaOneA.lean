/- sealed.one: what the first record carries, and how long that is. -/
import Derived.Test.YtfkkaalchffgaaaGet
import Derived.Test.YtfkkaalchffgaaaSeal
namespace Go.Ost
/-- What the first record carries, how many bytes it has, the error, the state behind. -/
def PC.one (s : PC) : List UInt8 × Nat × Int × PC :=
  match s.b with
  | [] => ([], 0, 0, s)
  | z :: t =>
    if z.toNat < 1 ∨ 3 < z.toNat ∨ decide (z.toNat = 1) = s.hello then ([], 0, 4, s) else
    match t with
    | x :: y :: r =>
      let n := 256 * x.toNat + y.toNat
      if (z.toNat = 1 ∧ n ≠ 1) ∨ (z.toNat = 3 ∧ n ≠ 0) then ([], 0, 4, s)
      else if 1024 < n then ([], 0, 3, s)
      else if r.length < n then ([], 0, 0, s)
      else if z.toNat = 1 then (if r.head? ≠ some 1 then ([], 0, 4, s) else ([], 4, 0, { s with hello := true }))
      else if z.toNat = 3 then ([], 3, 0, { s with ended := true })
      else (r.take n, 3 + n, 0, s)
    | _ => ([], 0, 0, s)
end Go.Ost
namespace Go.Proofs.Ytfkkaalchffgaaa
open Go.RowKit Go.Ost

/-- What 'one' hands back, and which channel it leaves. -/
def OneR (w : World) (O : Nat → Prop) (a : Nat) (r : List UInt8 × Nat × Int × PC) (e : Ending) (w' : World) : Prop :=
  ∃ A n c, e = .returned (.tuple #[.slice A n c, .int .i64 (r.2.1 : Nat), .int .i64 r.2.2.1]) ∧ n ≤ c ∧ RdB w' (fun b => O b ∧ b ≠ a) A n r.1 ∧ SWin w' O a r.2.2.2 ∧ Fr (· = a) w w'

section
variable {w : World} {O : Nat → Prop} {a : Nat} {s : PC}
theorem oneR_nil {w' : World} (h : SWin w O a s) (hf : Fr No w w') (err : Int) : OneR w O a ([], 0, err, s) (.returned (.tuple #[.slice none 0 0, .int .i64 0, .int .i64 err])) w' :=
  ⟨none, 0, 0, rfl, Nat.le_refl _, Rd.nil _ _ _, h.fr hf (fun _ _ h => h), hf.of_no⟩

set_option maxHeartbeats 4000000 in
theorem one_empty (h : SWin w O a s) (hb : s.b = []) : Calls Try.prog 57 #[.pointer (some ⟨a, 0, none⟩)] w (OneR w O a ([], 0, 0, s)) := by
  have h' := h
  obtain ⟨h0, ha, A, c, hB, hc1, hc2, hr⟩ := h'
  have c0 := hB.cell 0
  have hlt := hB.lt
  rw [hb] at c0
  simp at c0
  go_enter Try.func57, Try.ntmps57
  go_wp2
  refine bodyPost_ret (v := .tuple #[.slice none 0 0, .int .i64 0, .int .i64 0]) (by simp [results, Try.results57, go_sem]) rfl ?_
  exact oneR_nil h (Fr.refl _ _) 0

set_option maxHeartbeats 4000000 in
theorem one_badkind {z : UInt8} {t : List UInt8} (h : SWin w O a s) (hb : s.b = z :: t) (hbad : z.toNat < 1 ∨ 3 < z.toNat ∨ decide (z.toNat = 1) = s.hello) : Calls Try.prog 57 #[.pointer (some ⟨a, 0, none⟩)] w (OneR w O a ([], 0, 4, s)) := by
  have h' := h
  obtain ⟨h0, ha, A, c, hB, hc1, hc2, hr⟩ := h'
  have c0 := hB.cell 0
  have c1 := hB.cell 1
  have hlt := hB.lt
  have hl : 0 < s.b.length := by rw [hb]; simp
  obtain ⟨b, o, rfl, _, hc⟩ := hr.2 hl
  have hz := hc 0 (bv z) (by rw [hb]; rfl)
  rw [Nat.add_zero] at hz
  simp at c0 c1
  generalize s.b.length = n at hl c0
  generalize hq : s.hello = q at c1 hbad
  have hzl := z.toNat_lt
  have HR := hid hr
  clear hr hc hB
  have hsp : z.toNat < 1 ∨ 3 < z.toNat ∨ (1 ≤ z.toNat ∧ z.toNat ≤ 3 ∧ decide (z.toNat = 1) = q) := by
    rcases hbad with h | h | h
    · exact .inl h
    · exact .inr (.inl h)
    · rcases (by omega : z.toNat < 1 ∨ 3 < z.toNat ∨ (1 ≤ z.toNat ∧ z.toNat ≤ 3)) with h1 | h1 | h1
      · exact .inl h1
      · exact .inr (.inl h1)
      · exact .inr (.inr ⟨h1.1, h1.2, h⟩)
  clear hbad
  rcases hsp with h1 | h1 | ⟨h1, h2, h3⟩
  · go_enter Try.func57, Try.ntmps57
    go_wp2_with fail
    refine (kind_any hz (by omega)).mono ?_
    rintro e w' ⟨rfl, rfl⟩
    go_wp2
    refine bodyPost_ret (v := .tuple #[.slice none 0 0, .int .i64 0, .int .i64 4]) (by simp [results, Try.results57, go_sem]) rfl ?_
    exact oneR_nil h (Fr.refl _ _) 4
  · go_enter Try.func57, Try.ntmps57
    go_wp2_with fail
    refine (kind_any hz (by omega)).mono ?_
    rintro e w' ⟨rfl, rfl⟩
    go_wp2
    refine bodyPost_ret (v := .tuple #[.slice none 0 0, .int .i64 0, .int .i64 4]) (by simp [results, Try.results57, go_sem]) rfl ?_
    exact oneR_nil h (Fr.refl _ _) 4
  · subst h3
    have h4 : ((z.toNat : Int) == 1) = decide (z.toNat = 1) := by
      by_cases e : z.toNat = 1
      · simp [e]
      · simp [e]; omega
    generalize decide (z.toNat = 1) = q at c1 h4
    go_enter Try.func57, Try.ntmps57
    go_wp2_with fail
    refine (kind_any hz (by omega)).mono ?_
    rintro e w' ⟨rfl, rfl⟩
    go_wp2
    refine bodyPost_ret (v := .tuple #[.slice none 0 0, .int .i64 0, .int .i64 4]) (by simp [results, Try.results57, go_sem]) rfl ?_
    exact oneR_nil h (Fr.refl _ _) 4
end
end Go.Proofs.Ytfkkaalchffgaaa
