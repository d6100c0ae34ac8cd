/- A window that the call itself has made (Has), through package order's functions; and the law's examples (awake). -/
import Derived.Test.YtoehknanlaamlaaOrdE
import Derived.Test.YtoehknanlaamlaaLists
namespace Go.Proofs.Ytoehknanlaamlaa
open Go.RowKit Go.Ost

/-- Since w0 a window of state s was made, at block a; nothing that was there has turned. -/
def Has (w0 w : World) (a : Nat) (s : OW) : Prop := ∃ O, OWin w O a s ∧ (∀ b, O b → w0.heap.size ≤ b) ∧ Fr No w0 w

section
variable {w0 w w' : World} {a : Nat} {s s' : OW}
theorem Has.frame (h : Has w0 w a s) : Fr No w0 w := by obtain ⟨_, _, _, h⟩ := h; exact h
theorem Has.step (h : Has w0 w a s) (hf : Fr No w w') : Has w0 w' a s := by
  obtain ⟨O, h1, h2, h3⟩ := h
  exact ⟨O, h1.fr hf fun _ _ h => h, h2, h3.trans_no hf⟩
theorem Has.drewN (h : Has w0 w a s) (k : Nat) : Has w0 (w.drewN k) a s := h.step ((Fr.refl _ _).drewN k)
theorem Has.alloc (h : Has w0 w a s) (o : Obj) : Has w0 (w.alloc o) a s := h.step ((Fr.refl _ _).alloc o)

theorem new_has (m : Int) (hw : Fr No w0 w) (h1 : 1 ≤ m) (h2 : m ≤ 64) :
    Calls Try.prog 10 #[.int .i64 m] w fun e w' => e = .returned (.tuple #[.pointer (some ⟨w.heap.size + 1, 0, none⟩), .int .i64 0]) ∧ Has w0 w' (w.heap.size + 1) ⟨m.toNat, 1, []⟩ := by
  refine (new_win m w h1 h2).mono ?_
  rintro e w' ⟨rfl, h, hf⟩
  exact ⟨rfl, _, h, fun b hb => by have := hw.size; omega, hw.trans_no hf⟩
theorem new_hasN (m : Nat) (hw : Fr No w0 w) (h1 : 1 ≤ m) (h2 : m ≤ 64) :
    Calls Try.prog 10 #[.int .i64 m] w fun e w' => e = .returned (.tuple #[.pointer (some ⟨w.heap.size + 1, 0, none⟩), .int .i64 0]) ∧ Has w0 w' (w.heap.size + 1) ⟨m, 1, []⟩ :=
  new_has (m : Int) hw (by omega) (by omega)
theorem open_has (h : Has w0 w a s) {r : Int × Int} (he : s.open_ = (r, s')) (hb : s.least + s.L.length < 4611686018427387903) :
    Calls Try.prog 11 #[.pointer (some ⟨a, 0, none⟩)] w fun e w' => e = .returned (.tuple #[.int .i64 r.1, .int .i64 r.2]) ∧ Has w0 w' a s' := by
  obtain ⟨O, h1, h2, h3⟩ := h
  refine (open_win h1 hb).mono ?_
  rintro e w' ⟨h4, h5, h6⟩
  rw [he] at h4 h5
  exact ⟨h4, O, h5, h2, h3.trans_new h6 fun b hb => .inr (h2 b hb)⟩
/-- What Done hands back: a list of lists, in blocks made since w0. -/
def DoneH (w0 : World) (a : Nat) (ls : List Bs) (err : Int) (s' : OW) (e : Ending) (w' : World) : Prop :=
  ∃ A c, e = .returned (.tuple #[.slice A ls.length c, .int .i64 err]) ∧ RdL w' (Ge w0.heap.size) A ls.length ls ∧ Has w0 w' a s'
theorem done_has {O' : Nat → Prop} {A : Option Addr} {c : Nat} {bs : Bs} (h : Has w0 w a s) (n : Int) (hb : RdB w O' A bs.length bs) (hlb : bs.length ≤ 140737488355328) {ls : List Bs} {err : Int} (he : s.done n bs = ((ls, err), s')) :
    Calls Try.prog 12 #[.pointer (some ⟨a, 0, none⟩), .int .i64 n, .slice A bs.length c] w (DoneH w0 a ls err s') := by
  obtain ⟨O, h1, h2, h3⟩ := h
  refine (done_win h1 n hb hlb).mono ?_
  rintro e w' ⟨A', c', O', h4, h5, h6, h7, h8⟩
  rw [he] at h4 h5 h6
  have hO : ∀ b, O' b → w0.heap.size ≤ b := fun b hb => by
    rcases h8 b hb with h | h
    · exact h2 b h
    · have := h3.size; omega
  exact ⟨A', c', h4, h5.mono fun b _ hb => hO b hb, O', h6, hO, h3.trans_new h7 fun b hb => .inr (h2 b hb)⟩
theorem len_has (h : Has w0 w a s) :
    Calls Try.prog 15 #[.pointer (some ⟨a, 0, none⟩)] w fun e w' => e = .returned (.int .i64 s.L.length) ∧ Hid (∃ k, w' = w.drewN k) ∧ Has w0 w' a s := by
  have h' := h
  obtain ⟨O, h1, h2, h3⟩ := h'
  refine (len_win h1).mono ?_
  rintro e w' ⟨rfl, k, rfl⟩
  exact ⟨rfl, ⟨k, rfl⟩, h.drewN k⟩
theorem first_has (h : Has w0 w a s) :
    Calls Try.prog 13 #[.pointer (some ⟨a, 0, none⟩)] w fun e w' => e = .returned (.int .i64 s.first) ∧ Hid (∃ k, w' = w.drewN k) ∧ Has w0 w' a s := by
  have h' := h
  obtain ⟨O, h1, h2, h3⟩ := h'
  refine (first_win h1).mono ?_
  rintro e w' ⟨rfl, k, rfl⟩
  exact ⟨rfl, ⟨k, rfl⟩, h.drewN k⟩
theorem ready_has (h : Has w0 w a s) :
    Calls Try.prog 24 #[.pointer (some ⟨a, 0, none⟩)] w fun e w' => e = .returned (.int .i64 s.ready) ∧ w = w' := by
  obtain ⟨O, h1, h2, h3⟩ := h
  exact ready_win h1

/-- One byte in a new block of its own. -/
theorem rdb_one (w : World) (x : UInt8) (t : TypeId) : RdB (w.alloc (.cells #[.int .u8 x.toNat] t)) (fun _ => True) (some ⟨w.heap.size, 0, none⟩) 1 [x] := rd_one w (bv x) t
theorem rdb_nil (w : World) : RdB w No none 0 [] := Rd.nil _ _ _
end

/-- Two lists of one byte each, as a literal lays them. -/
theorem rdl_two (w : World) (x y : UInt8) (t u v : TypeId) :
    RdL (((w.alloc (.cells #[.int .u8 x.toNat] t)).alloc (.cells #[.int .u8 y.toNat] u)).alloc (.cells #[.slice (some ⟨w.heap.size, 0, none⟩) 1 1, .slice (some ⟨w.heap.size + 1, 0, none⟩) 1 1] v)) (fun _ => True) (some ⟨w.heap.size + 1 + 1, 0, none⟩) 2 [[x], [y]] := by
  have b0 := (rdb_one w x t)
  have b1 := (rdb_one (w.alloc (.cells #[.int .u8 x.toNat] t)) y u)
  have b2 := Blk.new ((w.alloc (.cells #[.int .u8 x.toNat] t)).alloc (.cells #[.int .u8 y.toNat] u)) v #[.slice (some ⟨w.heap.size, 0, none⟩) 1 1, .slice (some ⟨w.heap.size + 1, 0, none⟩) 1 1]
  simp only [World.size_alloc] at b1 b2
  refine ⟨[.slice (some ⟨w.heap.size, 0, none⟩) 1 1, .slice (some ⟨w.heap.size + 1, 0, none⟩) 1 1], ⟨rfl, fun _ => ⟨_, 0, rfl, trivial, ?_⟩⟩, rfl, ?_⟩
  · intro j q hq
    rw [Nat.zero_add, b2.cell]
    simpa using hq
  · intro i q l hq hl
    match i, hq, hl with
    | 0, hq, hl =>
      simp at hq hl
      subst hq hl
      exact ⟨_, _, _, rfl, Nat.le_refl _, Rd.alloc (Rd.alloc b0 _) _⟩
    | 1, hq, hl =>
      simp at hq hl
      subst hq hl
      exact ⟨_, _, _, rfl, Nat.le_refl _, Rd.alloc b1 _⟩
    | i + 2, hq, hl => simp at hq

set_option maxHeartbeats 1000000 in
theorem awake_any (w : World) : Calls Try.prog 8 #[] w fun e w' => e = .returned (.bool true) ∧ Fr No w w' := by
  go_enter Try.func8, Try.ntmps8
  go_wp2_with fail
  refine (new_has (w0 := w) 2 (Fr.refl _ _) (by omega) (by omega)).mono ?_
  rintro e w1 ⟨rfl, H1⟩
  go_wp2_with fail
  refine (open_has H1 (r := (1, 0)) (s' := ⟨2, 1, [none]⟩) rfl (by simp)).mono ?_
  rintro e w2 ⟨rfl, H2⟩
  go_wp2_with fail
  refine (open_has H2 (r := (2, 0)) (s' := ⟨2, 1, [none, none]⟩) rfl (by simp)).mono ?_
  rintro e w3 ⟨rfl, H3⟩
  go_wp2_with fail
  refine (open_has H3 (r := (0, 8)) (s' := ⟨2, 1, [none, none]⟩) rfl (by simp)).mono ?_
  rintro e w4 ⟨rfl, H4⟩
  clear H1 H2 H3
  go_wp2_with fail
  refine (done_has (H4.alloc _) 2 (bs := [2]) (rdb_one _ 2 _) (by simp) (ls := []) (err := 0) (s' := ⟨2, 1, [none, some [2]]⟩) rfl).mono ?_
  rintro e w5 ⟨A5, c5, rfl, R5, H5⟩
  go_wp2_with fail
  refine (done_has (H5.alloc _) 1 (bs := [1]) (rdb_one _ 1 _) (by simp) (ls := [[1], [2]]) (err := 0) (s' := ⟨2, 3, []⟩) rfl).mono ?_
  rintro e w6 ⟨A6, c6, rfl, R6, H6⟩
  clear H4 H5 R5
  go_wp2_with fail
  refine (same_lists (xs := [[1], [2]]) (ys := [[1], [2]]) (R6.fr (((Fr.refl No w6).alloc _).alloc _ |>.alloc _) fun _ _ _ h => h) (rdl_two w6 1 2 _ _ _) (by simp) (by simp)).mono ?_
  rintro e w7 ⟨rfl, k, rfl⟩
  go_wp2
  go_ret
  exact ⟨rfl, ((((H6.frame).alloc _).alloc _).alloc _).drewN _⟩
end Go.Proofs.Ytoehknanlaamlaa
