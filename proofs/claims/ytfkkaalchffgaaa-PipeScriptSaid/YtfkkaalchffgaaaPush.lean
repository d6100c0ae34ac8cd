/- sealed.Push: the machine's push, and the walk. -/
import Derived.Test.YtfkkaalchffgaaaOneC
import Derived.Test.YtfkkaalchffgaaaSealB
namespace Go.Ost
/-- The loop of Push: record by record. -/
def PC.run : Nat → PC → List UInt8 → List UInt8 × Int × PC
  | 0, s, out => (out, 0, s)
  | f + 1, s, out =>
    if s.one.2.2.1 ≠ 0 then (out, s.one.2.2.1, { s.one.2.2.2 with broken := true, b := [] })
    else if s.one.2.2.2.ended then (out ++ s.one.1, 0, { s.one.2.2.2 with b := [] })
    else if s.one.2.1 = 0 then (out ++ s.one.1, 0, { s.one.2.2.2 with b := s.one.2.2.2.b.drop s.one.2.1 })
    else PC.run f { s.one.2.2.2 with b := s.one.2.2.2.b.drop s.one.2.1 } (out ++ s.one.1)
def PC.push (s : PC) (bs : List UInt8) : List UInt8 × Int × PC :=
  if s.broken = true ∨ s.ended = true then ([], 9, s) else PC.run (s.b.length + bs.length + 1) { s with b := s.b ++ bs } []

/-- What 'one' keeps and how long a record is. -/
theorem PC.one_keeps (s : PC) : s.one.2.2.2.b = s.b ∧ s.one.2.1 ≤ s.b.length ∧ s.one.1.length ≤ s.one.2.1 ∧ s.one.2.2.2.broken = s.broken ∧ s.one.2.2.2.greeted = s.greeted ∧ s.one.2.2.2.shut = s.shut := by
  unfold PC.one
  split
  · rename_i hb; simp [hb]
  · rename_i z t hb
    split
    · simp
    · split
      · rename_i x y r
        have hlen : s.b.length = r.length + 3 := by simp [hb]
        have hrn : r.head? = some 1 → 1 ≤ r.length := fun e => by cases r with | nil => simp at e | cons v r' => simp
        dsimp only
        repeat' split
        all_goals refine ⟨rfl, ?_, ?_, rfl, rfl, rfl⟩
        all_goals first
          | exact Nat.zero_le _
          | (dsimp only; omega)
          | (rename_i hhd; have := hrn (Decidable.byContradiction hhd); omega)
          | (dsimp only; rw [List.length_take]; omega)
      · simp
end Go.Ost
namespace Go.Proofs.Ytfkkaalchffgaaa
open Go.RowKit Go.Ost

/-- What Push hands back, and which channel it leaves: its blocks are the old ones and new ones. -/
def PushR (w : World) (O : Nat → Prop) (a : Nat) (r : List UInt8 × Int × PC) (e : Ending) (w' : World) : Prop :=
  ∃ A c O', e = .returned (.tuple #[.slice A r.1.length c, .int .i64 r.2.1]) ∧ Ost.Own w' (fun b => w.heap.size ≤ b ∧ ¬ O' b) 5 Byte A r.1.length c (r.1.map bv) ∧ c ≤ maxLen ∧
    SWin w' O' a r.2.2 ∧ (∀ b, O' b → O b ∨ w.heap.size ≤ b) ∧ Fr (· = a) w w'

/-- How many bytes are kept (the loop's measure). -/
def kept (w : World) (a : Nat) : Nat := match w.cell? ⟨a, 0, none⟩ with | some (.slice _ n _) => n | _ => 0

section
variable {w : World} {O : Nat → Prop} {a : Nat} {s : PC}
theorem kept_eq (h : SWin w O a s) : kept w a = s.b.length := by
  obtain ⟨h0, ha, A, c, hB, _⟩ := h
  have c0 := hB.cell 0
  simp at c0
  simp [kept, c0]

set_option maxHeartbeats 4000000 in
theorem push_done {A : Option Addr} {n c : Nat} (h : SWin w O a s) (hd : s.broken = true ∨ s.ended = true) :
    Calls Try.prog 53 #[.pointer (some ⟨a, 0, none⟩), .slice A n c] w (PushR w O a ([], 9, s)) := by
  have h' := h
  obtain ⟨h0, ha, A1, c1, hB, hc1, hc2, hr⟩ := h'
  have d2 := hB.cell 2
  have d3 := hB.cell 3
  have hlt := hB.lt
  simp at d2 d3
  have fin : PushR w O a ([], 9, s) (.returned (.tuple #[.slice none 0 0, .int .i64 9])) w := ⟨none, 0, O, rfl, Ost.Own.nil _ _ _ _, Nat.zero_le _, h, fun _ h => .inl h, Fr.refl _ _⟩
  cases hb : s.broken with
  | true =>
    rw [hb] at d3
    go_enter Try.func53, Try.ntmps53
    go_wp2
    go_ret2
    exact fin
  | false =>
    have he : s.ended = true := by rcases hd with hd | hd; rw [hb] at hd; cases hd; exact hd
    rw [hb] at d3
    rw [he] at d2
    go_enter Try.func53, Try.ntmps53
    go_wp2
    go_ret2
    exact fin
end
end Go.Proofs.Ytfkkaalchffgaaa
