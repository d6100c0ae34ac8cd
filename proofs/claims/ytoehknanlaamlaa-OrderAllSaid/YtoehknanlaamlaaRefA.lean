/- The reference's window (ostiaryref17) in the words of the machine; its New, Open, First, Ready. -/
import Derived.Test.YtoehknanlaamlaaOrdE
import Derived.Test.YtoehknanlaamlaaSlice
import Derived.Deep.RegionHeld3
namespace Go.Proofs.Ytoehknanlaamlaa
open Go.RowKit Go.Ost

/-- The cells of the slots: whether each is done, and its bytes. -/
def Slots (w : World) (C : Nat → Prop) (L : List (Option Bs)) (vals : List Value) : Prop :=
  vals.length = L.length * 2 ∧ ∀ i x, L[i]? = some x → vals[i * 2]? = some (.bool x.isSome) ∧ ∃ B k d, vals[i * 2 + 1]? = some (.slice B k d) ∧ ∀ l, x = some l → BVal w C (.slice B k d) l

section
variable {w w' : World} {a : Nat} {O S C C' : Nat → Prop} {s : OW} {L : List (Option Bs)} {vals : List Value}
theorem Slots.fr (h : Slots w C L vals) (hf : Fr S w w') (hd : ∀ b, b < w.heap.size → C b → ¬ S b) : Slots w' C L vals :=
  ⟨h.1, fun i x hx => by obtain ⟨h1, B, k, d, h2, h3⟩ := h.2 i x hx; exact ⟨h1, B, k, d, h2, fun l hl => (h3 l hl).fr hf hd⟩⟩
theorem Slots.mono (h : Slots w C L vals) (hC : ∀ b, b < w.heap.size → C b → C' b) : Slots w C' L vals :=
  ⟨h.1, fun i x hx => by obtain ⟨h1, B, k, d, h2, h3⟩ := h.2 i x hx; exact ⟨h1, B, k, d, h2, fun l hl => (h3 l hl).mono hC⟩⟩
theorem Slots.one (h : Slots w C L vals) : ∀ u ∈ vals, u.oneCell' = true := by
  intro u hu
  obtain ⟨j, hj, rfl⟩ := List.mem_iff_getElem.1 hu
  have hi : j / 2 < L.length := by have := h.1; omega
  obtain ⟨h1, B, k, d, h2, _⟩ := h.2 (j / 2) _ (List.getElem?_eq_getElem hi)
  rcases Nat.mod_two_eq_zero_or_one j with h0 | h0
  · have e : j / 2 * 2 = j := by omega
    rw [e, List.getElem?_eq_getElem hj] at h1
    injection h1 with h1
    rw [h1]; rfl
  · have e : j / 2 * 2 + 1 = j := by omega
    rw [e, List.getElem?_eq_getElem hj] at h2
    injection h2 with h2
    rw [h2]; rfl
theorem Slots.snoc (h : Slots w C L vals) : Slots w C (L ++ [none]) (vals ++ [.bool false, .slice none 0 0]) := by
  refine ⟨by simp [h.1]; omega, fun i x hx => ?_⟩
  rcases Nat.lt_or_ge i L.length with hi | hi
  · rw [List.getElem?_append_left hi] at hx
    obtain ⟨h1, B, k, d, h2, h3⟩ := h.2 i x hx
    exact ⟨by rw [List.getElem?_append_left (by have := h.1; omega)]; exact h1, B, k, d, by rw [List.getElem?_append_left (by have := h.1; omega)]; exact h2, h3⟩
  · rw [List.getElem?_append_right hi] at hx
    have hl := h.1
    cases hj : i - L.length with
    | zero =>
      rw [hj] at hx
      simp at hx
      subst hx
      have e : i = L.length := by omega
      subst e
      refine ⟨by rw [List.getElem?_append_right (by omega)]; simp [hl], none, 0, 0, by rw [List.getElem?_append_right (by omega), show L.length * 2 + 1 - vals.length = 1 by omega]; rfl, fun l hl => by cases hl⟩
    | succ j => rw [hj] at hx; simp at hx

/-- The struct of the reference's window at block a. -/
def RefS (w : World) (a : Nat) (m f : Int) (A : Option Addr) (n c : Nat) : Prop := Blk w a 49 #[.int .i64 m, .int .i64 f, .slice A n c]
theorem RefS.c0 {m f : Int} {A : Option Addr} {n c : Nat} (h : RefS w a m f A n c) : w.cell? ⟨a, 0, none⟩ = some (.int .i64 m) := Blk.cell h 0
theorem RefS.c1 {m f : Int} {A : Option Addr} {n c : Nat} (h : RefS w a m f A n c) : w.cell? ⟨a, 1, none⟩ = some (.int .i64 f) := Blk.cell h 1
theorem RefS.c2 {m f : Int} {A : Option Addr} {n c : Nat} (h : RefS w a m f A n c) : w.cell? ⟨a, 2, none⟩ = some (.slice A n c) := Blk.cell h 2
theorem RefS.fr {m f : Int} {A : Option Addr} {n c : Nat} (h : RefS w a m f A n c) (hf : Fr S w w') (ha : ¬ S a) : RefS w' a m f A n c := Blk.fr h hf ha

/-- The row of slots: a block of them, from some cell on. -/
def Row (w : World) (O : Nat → Prop) (A : Option Addr) (n : Nat) (vals : List Value) : Prop :=
  0 < n → ∃ b o cs, A = some ⟨b, o, none⟩ ∧ O b ∧ Blk w b 59 cs ∧ ∀ j v, vals[j]? = some v → cs[o + j]? = some v
theorem Row.fr {A : Option Addr} {n : Nat} (h : Row w O A n vals) (hf : Fr S w w') (hd : ∀ b, b < w.heap.size → O b → ¬ S b) : Row w' O A n vals := fun hn => by
  obtain ⟨b, o, cs, e, hO, hb, hc⟩ := h hn
  exact ⟨b, o, cs, e, hO, hb.fr hf (hd b hb.lt hO), hc⟩
theorem Row.mono {A : Option Addr} {n : Nat} (h : Row w O A n vals) (hO : ∀ b, b < w.heap.size → O b → C b) : Row w C A n vals := fun hn => by
  obtain ⟨b, o, cs, e, h1, hb, hc⟩ := h hn
  exact ⟨b, o, cs, e, hO b hb.lt h1, hb, hc⟩
theorem Row.rd {A : Option Addr} {n : Nat} (h : Row w O A n vals) (hl : vals.length = n * 2) : Rd w O A (n * 2) vals := ⟨hl, fun hn => by
  obtain ⟨b, o, cs, e, h1, hb, hc⟩ := h (by omega)
  exact ⟨b, o, e, h1, fun j v hv => by rw [hb.cell]; exact hc j v hv⟩⟩

/-- A window of the reference at block a, of the machine's state s. -/
def RWin (w : World) (O : Nat → Prop) (a : Nat) (s : OW) : Prop :=
  (∀ b, O b → b < w.heap.size) ∧ (1 ≤ s.most ∧ s.most ≤ 64 ∧ s.L.length ≤ s.most) ∧ 1 ≤ s.least ∧ s.least + s.L.length < 4611686018427387904 ∧ O a ∧
  ∃ A c vals, s.L.length ≤ c ∧ c ≤ maxLen ∧ RefS w a s.most s.least A s.L.length c ∧ Row w O A s.L.length vals ∧ Slots w (fun b => O b ∧ b ≠ a ∧ ¬ At A b) s.L vals

theorem RWin.fr (h : RWin w O a s) (hf : Fr S w w') (hd : ∀ b, O b → ¬ S b) : RWin w' O a s := by
  obtain ⟨h0, h1, h2, h3, ha, A, c, vals, h4, h5, h6, h7, h8⟩ := h
  exact ⟨fun b hb => Nat.lt_of_lt_of_le (h0 b hb) hf.size, h1, h2, h3, ha, A, c, vals, h4, h5, h6.fr hf (hd a ha), h7.fr hf fun b _ hb => hd b hb, h8.fr hf fun b _ hb => hd b hb.1⟩
end

theorem rnew_bad (m : Int) (w : World) (h : m < 1 ∨ 64 < m) :
    Calls Try.prog 17 #[.int .i64 m] w fun e w' => e = .returned (.tuple #[.pointer none, .int .i64 2]) ∧ w = w' := by
  by_cases h' : m < 1
  · go_enter Try.func17, Try.ntmps17
    go_wp2
    go_ret2
    exact ⟨rfl, rfl⟩
  · have h2 : 64 < m := by omega
    go_enter Try.func17, Try.ntmps17
    go_wp2
    go_ret2
    exact ⟨rfl, rfl⟩

theorem rnew_win (m : Int) (w : World) (h1 : 1 ≤ m) (h2 : m ≤ 64) :
    Calls Try.prog 17 #[.int .i64 m] w fun e w' => e = .returned (.tuple #[.pointer (some ⟨w.heap.size, 0, none⟩), .int .i64 0]) ∧
      RWin w' (fun b => w.heap.size ≤ b ∧ b < w'.heap.size) w.heap.size ⟨m.toNat, 1, []⟩ ∧ Fr No w w' := by
  have h1' : ¬ m < 1 := by omega
  have h2' : ¬ 64 < m := by omega
  go_enter Try.func17, Try.ntmps17
  go_wp2
  go_ret2
  refine ⟨rfl, ⟨fun b hb => hb.2, ⟨by simp only; omega, by simp only; omega, by simp⟩, by simp, by simp, ⟨by omega, by simp⟩, none, 0, [], by simp, Nat.zero_le _, ?_, fun h => by simp at h, ⟨rfl, fun i x hx => by simp at hx⟩⟩, (Fr.refl _ _).alloc _⟩
  have e1 : ((m.toNat : Nat) : Int) = m := by omega
  simp only [e1]
  exact Blk.new w _ _
end Go.Proofs.Ytoehknanlaamlaa
