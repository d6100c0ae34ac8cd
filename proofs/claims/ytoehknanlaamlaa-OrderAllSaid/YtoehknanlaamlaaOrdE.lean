/- The contracts of package order's functions in the words of the machine (OW): what each answers and which window it leaves. -/
import Derived.Test.YtoehknanlaamlaaOrdC
namespace Go.Proofs.Ytoehknanlaamlaa
open Go.RowKit Go.Ost

section
variable {w : World} {a : Nat} {O : Nat → Prop} {s : OW}

theorem new_win (m : Int) (w : World) (h1 : 1 ≤ m) (h2 : m ≤ 64) :
    Calls Try.prog 10 #[.int .i64 m] w fun e w' => e = .returned (.tuple #[.pointer (some ⟨w.heap.size + 1, 0, none⟩), .int .i64 0]) ∧
      OWin w' (fun b => w.heap.size ≤ b ∧ b < w'.heap.size) (w.heap.size + 1) ⟨m.toNat, 1, []⟩ ∧ Fr No w w' := by
  refine (new_ok m w h1 h2).mono ?_
  rintro e w' ⟨rfl, rfl⟩
  refine ⟨rfl, ⟨fun b hb => hb.2, ⟨by simp only; omega, by simp only; omega, by simp⟩, by simp, by simp, w.heap.size, [], ⟨by omega, by simp⟩, ⟨by omega, by simp; omega⟩, ?_, ?_, Ents.empty _ _ _⟩, ((Fr.refl _ _).alloc _).alloc _⟩
  · have e1 : ((m.toNat : Nat) : Int) = m := by omega
    have h := Blk.new (w.alloc (.map #[] 0)) 53 #[.int .i64 m, .int .i64 1, .int .i64 1, .map (some w.heap.size)]
    simp only [World.size_alloc] at h
    simp only [e1]
    exact h
  · exact (MapI.new w).fr ((Fr.refl No _).alloc _) fun h => h

/-- What Open leaves. -/
def OpenR (w : World) (O : Nat → Prop) (a : Nat) (s : OW) (e : Ending) (w' : World) : Prop :=
  e = .returned (.tuple #[.int .i64 s.open_.1.1, .int .i64 s.open_.1.2]) ∧ OWin w' O a s.open_.2 ∧ Fr O w w'

theorem open_win (h : OWin w O a s) (hb : s.least + s.L.length < 4611686018427387903) :
    Calls Try.prog 11 #[.pointer (some ⟨a, 0, none⟩)] w (OpenR w O a s) := by
  have h' := h
  obtain ⟨hO, hm, hl0, hl1, r, es, ha, hr, hW, he, hE⟩ := h'
  have hf : Fits s.least (s.least + s.L.length) := ⟨by omega, by omega, by omega⟩
  by_cases hx : s.most ≤ s.L.length
  · refine (open_full hW (by omega) hf (by omega)).mono ?_
    rintro e w' ⟨rfl, k, rfl⟩
    refine ⟨by simp [OW.open_, hx], ?_, (Fr.refl _ _).drewN k⟩
    simp only [OW.open_, hx, if_true]
    exact h.fr ((Fr.refl No w).drewN k) fun _ _ hb => hb
  · refine (open_ok hW (by omega) hf (by omega)).mono ?_
    rintro e w' ⟨rfl, k, rfl⟩
    have F : Fr (· = a) w ((w.drewN k).setCell ⟨a, 2, none⟩ (.int .i64 ((s.least + s.L.length : Int) + 1))) := ((Fr.refl (· = a) w).drewN k).setCell (p := ⟨a, 2, none⟩) (.inl rfl) _
    refine ⟨by simp [OW.open_, hx], ?_, F.mono fun b _ hb => by rw [hb]; exact ha⟩
    simp only [OW.open_, hx, if_false]
    refine ⟨fun b hb => Nat.lt_of_lt_of_le (hO b hb) F.size, ⟨hm.1, hm.2.1, by simp [OW.opened]; omega⟩, hl0, by simp [OW.opened]; omega, r, es, ha, hr, ?_, he.fr F fun e => hW.ne he e.symm, (hE.fr F fun b _ hb => hb.2.1).open_⟩
    have e1 : (((s.opened).least : Nat) : Int) + ((s.opened).L.length : Nat) = (s.least + s.L.length : Int) + 1 := by simp [OW.opened]; omega
    rw [e1]
    exact hW.opened k _

theorem len_win (h : OWin w O a s) :
    Calls Try.prog 15 #[.pointer (some ⟨a, 0, none⟩)] w fun e w' => e = .returned (.int .i64 s.L.length) ∧ ∃ k, w' = w.drewN k := by
  obtain ⟨hO, hm, hl0, hl1, r, es, ha, hr, hW, he, hE⟩ := h
  refine (len_any hW (by omega) ⟨by omega, by omega, by omega⟩).mono ?_
  rintro e w' ⟨rfl, k⟩
  exact ⟨by congr 2; omega, k⟩

theorem first_win (h : OWin w O a s) :
    Calls Try.prog 13 #[.pointer (some ⟨a, 0, none⟩)] w fun e w' => e = .returned (.int .i64 s.first) ∧ ∃ k, w' = w.drewN k := by
  obtain ⟨hO, hm, hl0, hl1, r, es, ha, hr, hW, he, hE⟩ := h
  refine (first_any hW (by omega) ⟨by omega, by omega, by omega⟩).mono ?_
  rintro e w' ⟨rfl, k⟩
  refine ⟨?_, k⟩
  unfold OW.first
  congr 2
  rcases hL : s.L with _ | ⟨x, t⟩
  · simp
  · have : (((s.least : Int) + ((x :: t).length : Nat) - s.least) == 0) = false := beq_eq_false_iff_ne.2 (by simp; omega)
    rw [this]
    simp

theorem ready_win (h : OWin w O a s) :
    Calls Try.prog 24 #[.pointer (some ⟨a, 0, none⟩)] w fun e w' => e = .returned (.int .i64 s.ready) ∧ w = w' := by
  obtain ⟨hO, hm, hl0, hl1, r, es, ha, hr, hW, he, hE⟩ := h
  refine (ready_any hW (by omega) he).mono ?_
  rintro e w' ⟨rfl, rfl⟩
  exact ⟨by rw [hE.count]; rfl, rfl⟩

theorem done_win {O' : Nat → Prop} {A : Option Addr} {c : Nat} {bs : Bs} (h : OWin w O a s) (n : Int) (hb : RdB w O' A bs.length bs) (hlb : bs.length ≤ 140737488355328) :
    Calls Try.prog 12 #[.pointer (some ⟨a, 0, none⟩), .int .i64 n, .slice A bs.length c] w (DoneR w O a (s.done n bs).1.1 (s.done n bs).1.2 (s.done n bs).2) := by
  have none_ : ∀ err, OWin w O a s → DoneR w O a [] err s (.returned (.tuple #[.slice none 0 0, .int .i64 err])) w := fun err h =>
    ⟨none, 0, O, rfl, ⟨[], Rd.nil _ _ _, rfl, by simp⟩, h, Fr.refl _ _, fun b hb => .inl hb⟩
  have h' := h
  obtain ⟨hO, hm, hl0, hl1, r, es, ha, hr, hW, he, hE⟩ := h'
  by_cases hx : n < s.least ∨ (s.least + s.L.length : Int) ≤ n
  · refine (done_missing hW (by omega) n _ hx).mono ?_
    rintro e w' ⟨rfl, rfl⟩
    simp only [OW.done, hx, if_true]
    exact none_ 6 h
  · obtain ⟨i, hi⟩ : ∃ i : Nat, n = s.least + i := ⟨(n - s.least).toNat, by omega⟩
    have hi' : (n - s.least).toNat = i := by omega
    have hil : i < s.L.length := by omega
    have hget : s.L[i]? = some s.L[i] := List.getElem?_eq_getElem hil
    cases hv : s.L[i] with
    | none =>
      rw [hv] at hget
      have := done_ok h n hb hlb (c := c) hget hi
      simp only [OW.done, hx, if_false, hi', hget]
      exact this
    | some l =>
      rw [hv] at hget
      obtain ⟨v, hat, _⟩ := hE.at_some hget
      rw [← hi] at hat
      refine (done_there hW he (by omega) n _ (by omega) (by omega) hat).mono ?_
      rintro e w' ⟨rfl, rfl⟩
      simp only [OW.done, hx, if_false, hi', hget]
      exact none_ 7 h
end
end Go.Proofs.Ytoehknanlaamlaa
