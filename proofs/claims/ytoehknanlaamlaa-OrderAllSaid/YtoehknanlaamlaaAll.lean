/- OrderAll's state in memory: the window, and the list of the numbers that are left. -/
import Derived.Test.YtoehknanlaamlaaAllP
import Derived.Test.YtoehknanlaamlaaKnown
import Derived.Test.YtoehknanlaamlaaRefE
namespace Go.Proofs.Ytoehknanlaamlaa
open Go.RowKit Go.Ost

theorem info_int : (Try.prog.info? 3).map (fun i => (i.zero, i.size, i.bytes)) = some (some (.int .i64 0), 1, 8) := by kernel_rfl

/-- What is free for the list: new since the law began, and not the window's. -/
def Pm (W : World) (O : Nat → Prop) : Nat → Prop := fun b => W.heap.size ≤ b ∧ ¬ O b
def ivs (l : List Nat) : List Value := l.map fun v => .int .i64 (v : Nat)
theorem ivs_one (l : List Nat) : ∀ u ∈ ivs l, Value.oneCell' u = true := by
  intro u hu
  obtain ⟨x, _, rfl⟩ := List.mem_map.1 hu
  rfl

structure InvA (W w : World) (O : Nat → Prop) (a : Nat) (s : OW) (A : Option Addr) (c : Nat) (left : List Nat) : Prop where
  o : OWin w O a s
  own : Own w (Pm W O) 3 (fun _ => True) A (left.length * 1) (c * 1) (ivs left)
  cap : c ≤ maxLen
  g : ∀ b, O b → W.heap.size ≤ b
  fr : Fr No W w

section
variable {W w w' : World} {O O' : Nat → Prop} {a : Nat} {s s' : OW} {A A' : Option Addr} {c c' : Nat} {left left' : List Nat}

theorem InvA.o_step (h : InvA W w O a s A c left) (hf : Fr O w w') (ho : OWin w' O' a s') (hO : ∀ b, O' b → O b ∨ (w.heap.size ≤ b ∧ b < w'.heap.size)) : InvA W w' O' a s' A c left where
  o := ho
  own := (h.own.fr (w' := w') hf fun b _ hb hc => hb.2 hc) |> fun h1 => by
    rcases h.own.2 with h0 | ⟨b, ts, e, hb, hk, hl, ht⟩
    · exact ⟨h1.1, .inl h0⟩
    · refine ⟨h1.1, .inr ⟨b, ts, e, ⟨hb.1, fun hc => ?_⟩, hk.fr hf hb.2, hl, ht⟩⟩
      rcases hO b hc with h2 | h2
      · exact hb.2 h2
      · have := hk.lt; omega
  cap := h.cap
  g := fun b hb => by
    rcases hO b hb with h2 | h2
    · exact h.g b h2
    · have := h.fr.size; omega
  fr := h.fr.trans_new hf fun b hb => .inr (h.g b hb)
theorem InvA.n_step (h : InvA W w O a s A c left) (hf : Fr No w w') : InvA W w' O a s A c left :=
  h.o_step hf.of_no (h.o.fr hf fun _ _ h => h) fun _ hb => .inl hb
theorem InvA.at_ (h : InvA W w O a s A c left) : ∀ b, At A b → Pm W O b := by
  rintro b ⟨o, rfl⟩
  rcases h.own.2 with ⟨e, _⟩ | ⟨b', ts, e, hb, _⟩
  · cases e
  · injection e with e
    injection e with e1 _
    rw [e1]
    exact hb
/-- The list is a new one. -/
theorem InvA.list (h : InvA W w O a s A c left) {S : Nat → Prop} (hf : Fr S w w') (hS : ∀ b, S b → Pm W O b) (ho : Own w' (Pm W O) 3 (fun _ => True) A' (left'.length * 1) (c' * 1) (ivs left')) (hc : c' ≤ maxLen) : InvA W w' O a s A' c' left' where
  o := h.o.fr hf fun b hb hc => (hS b hc).2 hb
  own := ho
  cap := hc
  g := h.g
  fr := h.fr.trans_new hf fun b hb => .inr (hS b hb).1
theorem InvA.new (h : InvA W w O a s A c left) {b : Nat} (hb : w.heap.size ≤ b) : Pm W O b :=
  ⟨by have := h.fr.size; omega, fun hc => by have := h.o.1 b hc; omega⟩

theorem InvA.open1 (h : InvA W w O a s A c left) {r : Int × Int} (he : s.open_ = (r, s')) (hb : s.least + s.L.length < 4611686018427387903) :
    Calls Try.prog 11 #[.pointer (some ⟨a, 0, none⟩)] w fun e w' => e = .returned (.tuple #[.int .i64 r.1, .int .i64 r.2]) ∧ InvA W w' O a s' A c left := by
  refine (open_win h.o hb).mono ?_
  rintro e w' ⟨h4, h5, h6⟩
  rw [he] at h4 h5
  exact ⟨h4, h.o_step h6 h5 fun _ hb => .inl hb⟩

/-- What Done leaves beside the list. -/
def DoneA (W : World) (a : Nat) (s : OW) (A : Option Addr) (c : Nat) (left : List Nat) (ls : List Bs) (err : Int) (e : Ending) (w' : World) : Prop :=
  ∃ X d O, e = .returned (.tuple #[.slice X ls.length d, .int .i64 err]) ∧ RdL w' O X ls.length ls ∧ InvA W w' O a s A c left
theorem InvA.done1 {P : Nat → Prop} {B : Option Addr} {d : Nat} {bs : Bs} (h : InvA W w O a s A c left) (n : Int) (hb : RdB w P B bs.length bs) (hl : bs.length ≤ 140737488355328) {ls : List Bs} {err : Int} (he : s.done n bs = ((ls, err), s')) :
    Calls Try.prog 12 #[.pointer (some ⟨a, 0, none⟩), .int .i64 n, .slice B bs.length d] w (DoneA W a s' A c left ls err) := by
  refine (done_win h.o n hb hl).mono ?_
  rintro e w' ⟨X, d, O', h4, h5, h6, h7, h8⟩
  rw [he] at h4 h5 h6
  exact ⟨X, d, O', h4, h5, h.o_step h7 h6 h8⟩
theorem InvA.len1 (h : InvA W w O a s A c left) :
    Calls Try.prog 15 #[.pointer (some ⟨a, 0, none⟩)] w fun e w' => e = .returned (.int .i64 s.L.length) ∧ Hid (∃ k, w' = w.drewN k) ∧ InvA W w' O a s A c left := by
  refine (len_win h.o).mono ?_
  rintro e w' ⟨rfl, k, rfl⟩
  exact ⟨rfl, ⟨k, rfl⟩, h.n_step ((Fr.refl _ _).drewN k)⟩
theorem InvA.first1 (h : InvA W w O a s A c left) :
    Calls Try.prog 13 #[.pointer (some ⟨a, 0, none⟩)] w fun e w' => e = .returned (.int .i64 s.first) ∧ Hid (∃ k, w' = w.drewN k) ∧ InvA W w' O a s A c left := by
  refine (first_win h.o).mono ?_
  rintro e w' ⟨rfl, k, rfl⟩
  exact ⟨rfl, ⟨k, rfl⟩, h.n_step ((Fr.refl _ _).drewN k)⟩
theorem InvA.ready1 (h : InvA W w O a s A c left) :
    Calls Try.prog 24 #[.pointer (some ⟨a, 0, none⟩)] w fun e w' => e = .returned (.int .i64 s.ready) ∧ w = w' := ready_win h.o

theorem InvA.head (h : InvA W w O a s A c left) {k : Nat} (hk : k < left.length) : ∃ b, A = some ⟨b, 0, none⟩ ∧ w.cell? ⟨b, k, none⟩ = some (.int .i64 (left[k] : Nat)) := by
  rcases h.own.2 with ⟨_, e, _⟩ | ⟨b, ts, e, hO, hB, hl, ht⟩
  · omega
  · refine ⟨b, e, ?_⟩
    rw [hB.cell, List.getElem?_toArray, List.getElem?_append_left (by simp [ivs]; omega)]
    simp [ivs, hk]

theorem own_litP {w : World} {O : Nat → Prop} {T : Value → Prop} {t : TypeId} (h : O w.heap.size) : Own (w.alloc (.cells #[] t)) O t T (some ⟨w.heap.size, 0, none⟩) (0 * 1) (0 * 1) [] :=
  ⟨by simp, .inr ⟨w.heap.size, [], rfl, h, by simpa using Blk.new w t #[], by simp, by simp⟩⟩

theorem ivs_erase (l : List Nat) (j : Nat) : ivs (l.eraseIdx j) = (ivs l).take j ++ (ivs l).drop (j + 1) := by
  rw [List.eraseIdx_eq_take_drop_succ]
  simp [ivs]

/-- Behind the two appends: the list without its j-th number. -/
theorem InvA.cut {w1 w2 : World} {b j c1 c2 : Nat} {A1 A2 : Option Addr} {o : Obj} (h : InvA W w O a s A c left) (hj : j < left.length)
    (hown2 : Own w2 (Pm W O) 3 (fun _ => True) A2 ((0 + j + (left.length - (j + 1))) * 1) (c2 * 1) ([] ++ (ivs left).take j ++ (ivs left).drop (j + 1))) (hf1 : Fr (At (some ⟨b, 0, none⟩)) (w.alloc o).drew w1) (hb : b = w.heap.size) (hf2 : Fr (At A1) w1 w2)
    (hA1 : ∀ x, At A1 x → At (some ⟨b, 0, none⟩) x ∨ (w.alloc o).drew.heap.size ≤ x) (hc1 : c1 ≤ maxLen) (hc2 : c1 ≤ maxLen → c2 ≤ maxLen) : InvA W w2 O a s A2 c2 (left.eraseIdx j) := by
  have g0 : ∀ x, At (some ⟨b, 0, none⟩) x → w.heap.size ≤ x := fun x hx => by
    obtain ⟨o, e⟩ := hx
    injection e with e
    injection e with e _
    omega
  have g1 : ∀ x, At A1 x → w.heap.size ≤ x := fun x hx => by
    rcases hA1 x hx with h | h
    · exact g0 x h
    · have e : (w.alloc o).drew.heap.size = w.heap.size + 1 := World.size_alloc ..
      omega
  have F1 : Fr No w w1 := ((Fr.refl No w).alloc o).drew.trans_new hf1 fun x hx => .inr (g0 x hx)
  have F2 : Fr No w w2 := F1.trans_new hf2 fun x hx => .inr (g1 x hx)
  refine h.list F2 (fun _ h => h.elim) ?_ (hc2 hc1)
  rw [ivs_erase, List.length_eraseIdx_of_lt hj]
  have e : left.length - 1 = j + (left.length - (j + 1)) := by omega
  rw [e]
  simpa using hown2
end
end Go.Proofs.Ytoehknanlaamlaa
