/- OrderScript's state: a window of package order and one of the reference, side by side, and the slice that is lent to them; each call's contract over that state. -/
import Derived.Test.YtoehknanlaamlaaRefE
import Derived.Test.YtoehknanlaamlaaOrdF
namespace Go.Proofs.Ytoehknanlaamlaa
open Go.RowKit Go.Ost

/-- Both windows, the blocks of each (O1, O2), and the slice that is lent (its blocks: I): nothing of them is shared, and nothing that was there at the law's begin (W) has turned. -/
structure Inv (W w : World) (O1 O2 I : Nat → Prop) (a1 a2 : Nat) (s1 s2 : OW) (A : Option Addr) (c : Nat) (bs : Bs) : Prop where
  o : OWin w O1 a1 s1
  r : RWin w O2 a2 s2
  own : Own w I 5 Byte A bs.length c (bs.map bv)
  cap : c ≤ maxLen
  ltI : ∀ b, I b → b < w.heap.size
  d12 : ∀ b, O1 b → ¬ O2 b
  d1 : ∀ b, I b → ¬ O1 b
  d2 : ∀ b, I b → ¬ O2 b
  g1 : ∀ b, O1 b → W.heap.size ≤ b
  g2 : ∀ b, O2 b → W.heap.size ≤ b
  gI : ∀ b, I b → W.heap.size ≤ b
  fr : Fr No W w

section
variable {W w w' : World} {O1 O2 I O1' O2' : Nat → Prop} {a1 a2 : Nat} {s1 s2 s1' s2' : OW} {A : Option Addr} {c : Nat} {bs : Bs}

theorem Inv.o_step (h : Inv W w O1 O2 I a1 a2 s1 s2 A c bs) (hf : Fr O1 w w') (ho : OWin w' O1' a1 s1') (hO : ∀ b, O1' b → O1 b ∨ (w.heap.size ≤ b ∧ b < w'.heap.size)) : Inv W w' O1' O2 I a1 a2 s1' s2 A c bs where
  o := ho
  r := h.r.fr hf fun b hb hc => h.d12 b hc hb
  own := h.own.fr hf fun b _ hb hc => h.d1 b hb hc
  cap := h.cap
  ltI := fun b hb => Nat.lt_of_lt_of_le (h.ltI b hb) hf.size
  d12 := fun b hb hc => by
    rcases hO b hb with h1 | h1
    · exact h.d12 b h1 hc
    · have := h.r.1 b hc; omega
  d1 := fun b hb hc => by
    rcases hO b hc with h1 | h1
    · exact h.d1 b hb h1
    · have := h.ltI b hb; omega
  d2 := h.d2
  g1 := fun b hb => by
    rcases hO b hb with h1 | h1
    · exact h.g1 b h1
    · have := h.fr.size; omega
  g2 := h.g2
  gI := h.gI
  fr := h.fr.trans_new hf fun b hb => .inr (h.g1 b hb)

theorem Inv.r_step (h : Inv W w O1 O2 I a1 a2 s1 s2 A c bs) (hf : Fr O2 w w') (hr : RWin w' O2' a2 s2') (hO : ∀ b, O2' b → O2 b ∨ (w.heap.size ≤ b ∧ b < w'.heap.size)) : Inv W w' O1 O2' I a1 a2 s1 s2' A c bs where
  o := h.o.fr hf fun b hb hc => h.d12 b hb hc
  r := hr
  own := h.own.fr hf fun b _ hb hc => h.d2 b hb hc
  cap := h.cap
  ltI := fun b hb => Nat.lt_of_lt_of_le (h.ltI b hb) hf.size
  d12 := fun b hb hc => by
    rcases hO b hc with h1 | h1
    · exact h.d12 b hb h1
    · have := h.o.1 b hb; omega
  d1 := h.d1
  d2 := fun b hb hc => by
    rcases hO b hc with h1 | h1
    · exact h.d2 b hb h1
    · have := h.ltI b hb; omega
  g1 := h.g1
  g2 := fun b hb => by
    rcases hO b hb with h1 | h1
    · exact h.g2 b h1
    · have := h.fr.size; omega
  gI := h.gI
  fr := h.fr.trans_new hf fun b hb => .inr (h.g2 b hb)

theorem Inv.n_step (h : Inv W w O1 O2 I a1 a2 s1 s2 A c bs) (hf : Fr No w w') : Inv W w' O1 O2 I a1 a2 s1 s2 A c bs :=
  h.o_step hf.of_no (h.o.fr hf fun _ _ h => h) fun _ hb => .inl hb

theorem Inv.open1 (h : Inv W w O1 O2 I a1 a2 s1 s2 A c bs) {r : Int × Int} (he : s1.open_ = (r, s1')) (hb : s1.least + s1.L.length < 4611686018427387903) :
    Calls Try.prog 11 #[.pointer (some ⟨a1, 0, none⟩)] w fun e w' => e = .returned (.tuple #[.int .i64 r.1, .int .i64 r.2]) ∧ Inv W w' O1 O2 I a1 a2 s1' s2 A c bs := by
  refine (open_win h.o hb).mono ?_
  rintro e w' ⟨h4, h5, h6⟩
  rw [he] at h4 h5
  exact ⟨h4, h.o_step h6 h5 fun _ hb => .inl hb⟩
/-- .. the reference's blocks are new ones. -/
def InvO2 (W w : World) (O1 I : Nat → Prop) (a1 a2 : Nat) (s1 s2 : OW) (A : Option Addr) (c : Nat) (bs : Bs) : Prop := ∃ O2, Inv W w O1 O2 I a1 a2 s1 s2 A c bs
theorem Inv.open2 (h : Inv W w O1 O2 I a1 a2 s1 s2 A c bs) {r : Int × Int} (he : s2.open_ = (r, s2')) (hb : s2.least + s2.L.length < 4611686018427387903) :
    Calls Try.prog 18 #[.pointer (some ⟨a2, 0, none⟩)] w fun e w' => e = .returned (.tuple #[.int .i64 r.1, .int .i64 r.2]) ∧ InvO2 W w' O1 I a1 a2 s1 s2' A c bs := by
  refine (ropen_win h.r hb).mono ?_
  rintro e w' ⟨h4, h6, O', h5, h7⟩
  rw [he] at h4 h5
  exact ⟨h4, O', h.r_step h6 h5 h7⟩

/-- What CopyBytes leaves: the slice that will be lent. -/
def CopyR (W : World) (O1 O2 : Nat → Prop) (a1 a2 : Nat) (s1 s2 : OW) (bs : Bs) (e : Ending) (w' : World) : Prop :=
  ∃ A c I, e = .returned (.slice A bs.length c) ∧ Inv W w' O1 O2 I a1 a2 s1 s2 A c bs
theorem Inv.copy {bx : Bs} {B : Option Addr} {d : Nat} {P : Nat → Prop} (h : Inv W w O1 O2 I a1 a2 s1 s2 A c bs) (hb : RdB w P B bx.length bx) (hl : bx.length ≤ 140737488355328) :
    Calls Try.prog 19 #[.slice B bx.length d] w (CopyR W O1 O2 a1 a2 s1 s2 bx) := by
  refine (copy_bytes hb hl).mono ?_
  rintro e w' ⟨A', c', he, ho, hc, hf⟩
  have hn := h.n_step hf
  exact ⟨A', c', fun b => w.heap.size ≤ b ∧ b < w'.heap.size, he, { hn with
    own := ho.mono fun b hb hc => ⟨hc, hb⟩
    cap := hc
    ltI := fun b hb => hb.2
    d1 := fun b hb hc => by have := h.o.1 b hc; omega
    d2 := fun b hb hc => by have := h.r.1 b hc; omega
    gI := fun b hb => by have := h.fr.size; omega }⟩

/-- What package order's Done leaves, beside the reference. -/
def Done1R (W : World) (O2 I : Nat → Prop) (a1 a2 : Nat) (s1 s2 : OW) (A : Option Addr) (c : Nat) (bs : Bs) (ls : List Bs) (err : Int) (e : Ending) (w' : World) : Prop :=
  ∃ X d O1, e = .returned (.tuple #[.slice X ls.length d, .int .i64 err]) ∧ RdL w' O1 X ls.length ls ∧ Inv W w' O1 O2 I a1 a2 s1 s2 A c bs
theorem Inv.done1 (h : Inv W w O1 O2 I a1 a2 s1 s2 A c bs) (n : Int) (hl : bs.length ≤ 140737488355328) {ls : List Bs} {err : Int} (he : s1.done n bs = ((ls, err), s1')) :
    Calls Try.prog 12 #[.pointer (some ⟨a1, 0, none⟩), .int .i64 n, .slice A bs.length c] w (Done1R W O2 I a1 a2 s1' s2 A c bs ls err) := by
  refine (done_win h.o n h.own.rd hl).mono ?_
  rintro e w' ⟨X, d, O', h4, h5, h6, h7, h8⟩
  rw [he] at h4 h5 h6
  exact ⟨X, d, O', h4, h5, h.o_step h7 h6 h8⟩
/-- What the reference's Done leaves, beside what the program's handed back. -/
def Done2R (W : World) (O1 I : Nat → Prop) (a1 a2 : Nat) (s1 s2 : OW) (A : Option Addr) (c : Nat) (bs : Bs) (ls : List Bs) (err : Int) (X : Option Addr) (k : Nat) (lx : List Bs) (e : Ending) (w' : World) : Prop :=
  ∃ Y d O2, e = .returned (.tuple #[.slice Y ls.length d, .int .i64 err]) ∧ RdL w' O2 Y ls.length ls ∧ RdL w' O1 X k lx ∧ Inv W w' O1 O2 I a1 a2 s1 s2 A c bs
theorem Inv.done2 {bx : Bs} {B : Option Addr} {d : Nat} {P : Nat → Prop} {X : Option Addr} {k : Nat} {lx : List Bs} (h : Inv W w O1 O2 I a1 a2 s1 s2 A c bs) (hx : RdL w O1 X k lx) (n : Int) (hn : n ≤ 9223372036854775807) (hb : RdB w P B bx.length bx) (hl : bx.length ≤ 140737488355328)
    {ls : List Bs} {err : Int} (he : s2.done n bx = ((ls, err), s2')) :
    Calls Try.prog 20 #[.pointer (some ⟨a2, 0, none⟩), .int .i64 n, .slice B bx.length d] w (Done2R W O1 I a1 a2 s1 s2' A c bs ls err X k lx) := by
  refine (rdone_win h.r n hb hl hn).mono ?_
  rintro e w' ⟨Y, d, O', h4, h5, h6, h7, h8⟩
  rw [he] at h4 h5 h6
  exact ⟨Y, d, O', h4, h5, hx.fr h7 fun b _ hb => h.d12 b hb, h.r_step h7 h6 h8⟩

theorem Inv.over (h : Inv W w O1 O2 I a1 a2 s1 s2 A c bs) :
    Calls Try.prog 22 #[.slice A bs.length c] w fun e w' => e = .returned (.tuple #[]) ∧ Inv W w' O1 O2 No a1 a2 s1 s2 none 0 [] := by
  refine (over_own h.own h.cap).mono ?_
  rintro e w' ⟨he, hf⟩
  refine ⟨he, ⟨h.o.fr hf fun b hb hc => h.d1 b hc hb, h.r.fr hf fun b hb hc => h.d2 b hc hb, Own.nil _ _ _ _, Nat.zero_le _, fun _ h => h.elim, h.d12, fun _ h => h.elim, fun _ h => h.elim, h.g1, h.g2, fun _ h => h.elim, h.fr.trans_new hf fun b hb => .inr (h.gI b hb)⟩⟩
end
end Go.Proofs.Ytoehknanlaamlaa
