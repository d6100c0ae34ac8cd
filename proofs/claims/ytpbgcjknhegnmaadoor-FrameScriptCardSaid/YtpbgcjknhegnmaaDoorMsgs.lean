/- A list of rows of bytes, each of its own; the machine's push. -/
import Derived.Test.YtpbgcjknhegnmaaDoorWhole
namespace Go.Ost
/-- A piece is handed in. -/
def FC.push (s : FC) (p : List UInt8) : List (List UInt8) × Int × FC :=
  if s.broken = true then ([], 9, s)
  else if (FC.run (s.b.length + p.length + 1) { s with b := s.b ++ p } []).2.err = 0 then ((FC.run (s.b.length + p.length + 1) { s with b := s.b ++ p } []).1, 0, (FC.run (s.b.length + p.length + 1) { s with b := s.b ++ p } []).2)
  else ((FC.run (s.b.length + p.length + 1) { s with b := s.b ++ p } []).1, (FC.run (s.b.length + p.length + 1) { s with b := s.b ++ p } []).2.err, { (FC.run (s.b.length + p.length + 1) { s with b := s.b ++ p } []).2 with broken := true, b := [] })
end Go.Ost
namespace Go.Proofs.YtpbgcjknhegnmaaDoor
open Go.RowKit Go.Ost

theorem own_and {w : World} {O : Nat → Prop} {e : TypeId} {T : Value → Prop} {A : Option Addr} {n c : Nat} {vs : List Value} (h : Ost.Own w O e T A n c vs) : Ost.Own w (fun y => O y ∧ At A y) e T A n c vs := by
  obtain ⟨h1, h2⟩ := h
  refine ⟨h1, ?_⟩
  rcases h2 with h2 | ⟨b, ts, rfl, hb, h3⟩
  · exact .inl h2
  · exact .inr ⟨b, ts, rfl, ⟨hb, 0, rfl⟩, h3⟩

/-- The blocks of slices. -/
def Blks (vs : List Value) (y : Nat) : Prop := ∃ A n c, Value.slice A n c ∈ vs ∧ At A y
/-- Rows of bytes, each of its own, in blocks of E. -/
def Msgs (w : World) (E : Nat → Prop) (vs : List Value) (ls : List (List UInt8)) : Prop :=
  vs.length = ls.length ∧ (∀ (i : Nat) (v : Value) (l : List UInt8), vs[i]? = some v → ls[i]? = some l → ∃ A c, v = .slice A l.length c ∧ Ost.Own w E 5 Byte A l.length c (l.map bv) ∧ c ≤ maxLen) ∧
  (∀ (i j : Nat) A n c A2 n2 c2, i < j → vs[i]? = some (.slice A n c) → vs[j]? = some (.slice A2 n2 c2) → ∀ y, At A y → ¬ At A2 y)

section
variable {w w' : World} {E S : Nat → Prop} {vs : List Value} {ls : List (List UInt8)}
theorem Msgs.nil (w : World) (E : Nat → Prop) : Msgs w E [] [] := ⟨rfl, fun i v l hv => by simp at hv, fun i j A n c A2 n2 c2 _ hv => by simp at hv⟩
theorem Msgs.fr (h : Msgs w E vs ls) (hf : Fr S w w') (hd : ∀ y, Blks vs y → E y → ¬ S y) : Msgs w' E vs ls := by
  obtain ⟨h1, h2, h3⟩ := h
  refine ⟨h1, fun i v l hv hl => ?_, h3⟩
  obtain ⟨A, c, rfl, ho, hc⟩ := h2 i v l hv hl
  exact ⟨A, c, rfl, ((own_and ho).fr hf (fun y _ hy => hd y ⟨A, _, c, List.mem_of_getElem? hv, hy.2⟩ hy.1)).mono fun y _ hy => hy.1, hc⟩
theorem Msgs.blk (h : Msgs w E vs ls) {y : Nat} (hy : Blks vs y) : E y ∧ y < w.heap.size := by
  obtain ⟨A, n, c, hm, hA⟩ := hy
  obtain ⟨i, hi⟩ := List.mem_iff_getElem?.1 hm
  have hil : i < ls.length := by rw [← h.1]; exact (List.getElem?_eq_some_iff.1 hi).1
  obtain ⟨A', c', e, ho, _⟩ := h.2.1 i _ _ hi (List.getElem?_eq_getElem hil)
  injection e with e1 e2 e3
  subst e1
  exact ⟨ho.at_ y hA, own_lt ho y hA⟩
theorem Msgs.mono (h : Msgs w E vs ls) {E2 : Nat → Prop} (hE : ∀ y, y < w.heap.size → E y → E2 y) : Msgs w E2 vs ls :=
  ⟨h.1, fun i v l hv hl => by obtain ⟨A, c, e, ho, hc⟩ := h.2.1 i v l hv hl; exact ⟨A, c, e, ho.mono hE, hc⟩, h.2.2⟩
theorem Msgs.snoc (h : Msgs w E vs ls) {A : Option Addr} {c : Nat} {l : List UInt8} (ho : Ost.Own w E 5 Byte A l.length c (l.map bv)) (hc : c ≤ maxLen) (hnew : ∀ y, At A y → ¬ Blks vs y) : Msgs w E (vs ++ [.slice A l.length c]) (ls ++ [l]) := by
  obtain ⟨h1, h2, h3⟩ := h
  refine ⟨by simp [h1], fun i v x hv hx => ?_, fun i j A1 n1 c1 A2 n2 c2 hij hi hj => ?_⟩
  · rcases Nat.lt_or_ge i vs.length with hi | hi
    · rw [List.getElem?_append_left hi] at hv
      rw [List.getElem?_append_left (by omega)] at hx
      exact h2 i v x hv hx
    · rw [List.getElem?_append_right hi] at hv
      rw [List.getElem?_append_right (by omega), ← h1] at hx
      cases hj : i - vs.length with
      | zero => rw [hj] at hv hx; simp at hv hx; subst hv hx; exact ⟨A, c, rfl, ho, hc⟩
      | succ k => rw [hj] at hv; simp at hv
  · have hjl : j < (vs ++ [Value.slice A l.length c]).length := (List.getElem?_eq_some_iff.1 hj).1
    simp only [List.length_append, List.length_cons, List.length_nil] at hjl
    have hil : i < vs.length := by omega
    rw [List.getElem?_append_left hil] at hi
    rcases Nat.lt_or_ge j vs.length with hjv | hjv
    · rw [List.getElem?_append_left hjv] at hj
      exact h3 i j A1 n1 c1 A2 n2 c2 hij hi hj
    · rw [List.getElem?_append_right hjv] at hj
      have e0 : j - vs.length = 0 := by omega
      rw [e0] at hj
      simp at hj
      obtain ⟨rfl, _, _⟩ := hj
      exact fun y hy hA => hnew y hA ⟨A1, n1, c1, List.mem_of_getElem? hi, hy⟩
theorem Blks.snoc {A : Option Addr} {n c y : Nat} (h : Blks (vs ++ [.slice A n c]) y) : Blks vs y ∨ At A y := by
  obtain ⟨A1, n1, c1, hm, hA⟩ := h
  rcases List.mem_append.1 hm with hm | hm
  · exact .inl ⟨A1, n1, c1, hm, hA⟩
  · simp at hm
    obtain ⟨rfl, _, _⟩ := hm
    exact .inr hA
/-- It reads as the lists. -/
theorem Msgs.rdl {O2 O3 : Nat → Prop} {A : Option Addr} {n : Nat} (h : Msgs w E vs ls) (hr : Rd w O2 A n vs) (h1 : ∀ y, E y → O3 y) (h2 : ∀ y, O2 y → O3 y) : RdL w O3 A n ls :=
  ⟨vs, hr.mono fun b _ => h2 b, h.1, fun i v l hv hl => by
    obtain ⟨A', c, rfl, ho, _⟩ := h.2.1 i v l hv hl
    exact ⟨A', _, c, rfl, ho.le, (Rd.mono ho.rd fun b _ => h1 b)⟩⟩
end

/-- What a reader's Push hands back, and which reader it leaves. -/
def FPushR (w : World) (O : Nat → Prop) (a : Nat) (r : List (List UInt8) × Int × FC) (e : Ending) (w' : World) : Prop :=
  ∃ A c vs O', e = .returned (.tuple #[.slice A r.1.length c, .int .i64 r.2.1]) ∧ Ost.Own w' (fun y => w.heap.size ≤ y ∧ ¬ O' y) 22 (fun _ => True) A r.1.length c vs ∧
    Msgs w' (fun y => w.heap.size ≤ y ∧ ¬ O' y) vs r.1 ∧ (∀ y, Blks vs y → ¬ At A y) ∧ c ≤ maxLen ∧ FR w' O' a r.2.2 ∧ (∀ y, O' y → O y ∨ w.heap.size ≤ y) ∧ Fr O w w'

section
variable {w : World} {O : Nat → Prop} {a : Nat} {s : FC}
theorem fpush_broken {A : Option Addr} {n c : Nat} {p : List UInt8} (h : FR w O a s) (hm : s.most ≠ 0) (hb : s.broken = true) :
    Calls Tryd.prog 23 #[.pointer (some ⟨a, 0, none⟩), .slice A n c] w (FPushR w O a (s.push p)) := by
  have hn := none_is h.cells.1 hm
  have hc := h.cells.2.1
  have hlt := h.mem.2 a h.mem.1
  rw [hb] at hc
  have e : s.push p = ([], 9, s) := by unfold FC.push; rw [if_pos hb]
  rw [e]
  go_enter Tryd.func23, Tryd.ntmps23
  go_wp2_with fail
  refine hn.mono ?_
  rintro e w' ⟨rfl, rfl⟩
  go_wp2
  go_ret2
  exact ⟨none, 0, [], O, rfl, Ost.Own.nil _ _ _ _, Msgs.nil _ _, fun y ⟨_, _, _, hm, _⟩ => by simp at hm, Nat.zero_le _, h, fun y hy => .inl hy, Fr.refl _ _⟩

theorem whole_any : Calls Tryd.prog 33 #[.pointer (some ⟨a, 0, none⟩)] w fun e w' =>
    e = .returned (.func (.func 39) #[] #[.pointer (some ⟨w.heap.size, 0, none⟩)]) ∧ w' = w.alloc (.cells #[.pointer (some ⟨a, 0, none⟩)] 39) := by
  go_enter Tryd.func33, Tryd.ntmps33
  go_wp2
  go_ret
  exact ⟨rfl, rfl⟩
end
end Go.Proofs.YtpbgcjknhegnmaaDoor
