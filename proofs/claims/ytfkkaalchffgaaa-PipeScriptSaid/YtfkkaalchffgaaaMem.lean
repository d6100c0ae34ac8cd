/- Plain words on memory for this seat's proofs: a block known whole, a frame ("only these blocks may have turned"), a slice that reads as a list of values or of bytes, a row that the call owns. Nothing is assumed: each is a definition with its laws. -/
import Derived.WalkKit
import Derived.WalkSpells
import Derived.Deep.Draws
import Derived.Laws.AppendOwn
import Derived.Laws.OwnMore
namespace Go.Ost
open Go.RowKit

/-- Block b holds just these cells, none of them frozen. -/
def Blk (w : World) (b : Nat) (t : TypeId) (cs : Array Value) : Prop := w.heap[b]? = some (.cells cs t (0, 0))

/-- Nothing but the blocks of S and new blocks has turned between w and w'. -/
structure Fr (S : Nat → Prop) (w w' : World) : Prop where
  os : w'.os = w.os
  tape : w'.tape = w.tape
  output : w'.output = w.output
  size : w.heap.size ≤ w'.heap.size
  block : ∀ k, k < w.heap.size → ¬ S k → w'.heap[k]? = w.heap[k]?

/-- A fact laid aside, so that the walk does not take it for a rule. -/
theorem hid {p : Prop} (h : p) : Hid p := h

/-- No block at all. -/
def No : Nat → Prop := fun _ => False

/-- The blocks from B on. -/
def Ge (B : Nat) : Nat → Prop := fun b => B ≤ b

section
variable {S T : Nat → Prop} {w w' u : World}
theorem Fr.refl (S : Nat → Prop) (w : World) : Fr S w w := ⟨rfl, rfl, rfl, Nat.le_refl _, fun _ _ _ => rfl⟩
theorem Fr.mono (h : Fr S w w') (hs : ∀ b, b < w.heap.size → S b → T b) : Fr T w w' :=
  ⟨h.os, h.tape, h.output, h.size, fun k hk hn => h.block k hk fun hb => hn (hs k hk hb)⟩
theorem Fr.trans (h : Fr S w w') (k : Fr T w' u) (hT : ∀ b, b < w.heap.size → T b → S b) : Fr S w u :=
  ⟨k.os.trans h.os, k.tape.trans h.tape, k.output.trans h.output, Nat.le_trans h.size k.size, fun i hi hn =>
    (k.block i (Nat.lt_of_lt_of_le hi h.size) fun hb => hn (hT i hi hb)).trans (h.block i hi hn)⟩
theorem Fr.of_no (h : Fr No w w') : Fr S w w' := h.mono fun _ _ hb => hb.elim
theorem Fr.trans_no (h : Fr S w w') (k : Fr No w' u) : Fr S w u := h.trans k fun _ _ hb => hb.elim
/-- What turned last is new to the first world, or of S. -/
theorem Fr.trans_new (h : Fr S w w') (k : Fr T w' u) (hT : ∀ b, T b → S b ∨ w.heap.size ≤ b) : Fr S w u :=
  h.trans (k.mono (T := fun b => S b ∨ w.heap.size ≤ b) fun b _ hb => hT b hb) (T := fun b => S b ∨ w.heap.size ≤ b) (fun b hb hs => hs.resolve_right (by omega))
theorem Fr.drew (h : Fr S w w') : Fr S w w'.drew := ⟨h.os, h.tape, h.output, h.size, h.block⟩
theorem Fr.drewN (h : Fr S w w') (n : Nat) : Fr S w (w'.drewN n) := ⟨h.os, h.tape, h.output, h.size, h.block⟩
theorem Fr.of_drewN {n : Nat} (h : Fr S (w.drewN n) w') : Fr S w w' := ⟨h.os, h.tape, h.output, h.size, h.block⟩
theorem Fr.of_drew (h : Fr S w.drew w') : Fr S w w' := ⟨h.os, h.tape, h.output, h.size, h.block⟩
theorem Fr.alloc (h : Fr S w w') (o : Obj) : Fr S w (w'.alloc o) :=
  ⟨h.os, h.tape, h.output, Nat.le_trans h.size (by simp), fun i hi hn => (Below.heap_alloc w' o i (Nat.lt_of_lt_of_le hi h.size)).trans (h.block i hi hn)⟩
theorem Fr.setCell (h : Fr S w w') {p : Addr} (hp : S p.block ∨ w.heap.size ≤ p.block) (v : Value) : Fr S w (w'.setCell p v) :=
  ⟨h.os, h.tape, h.output, by simpa [World.setCell] using h.size, fun i hi hn => (Below.heap_setCell w' p v i (by
    rintro rfl
    rcases hp with hp | hp
    · exact hn hp
    · omega)).trans (h.block i hi hn)⟩
theorem Fr.of_grown {row : Option Nat} (h : w.grownBy w' row) (hr : ∀ b, row = some b → S b) : Fr S w w' :=
  ⟨h.os, h.tape, h.output, h.size, fun i hi hn => h.block i hi fun e => hn (hr i e.symm)⟩
theorem Fr.below (h : Fr S w w') {B : Nat} (hB : B ≤ w.heap.size) (hs : ∀ b, b < B → ¬ S b) : Below B w w' :=
  ⟨h.os, h.tape, h.output, h.size, fun i hi => h.block i (Nat.lt_of_lt_of_le hi hB) (hs i hi)⟩
theorem Fr.cell (h : Fr S w w') {p : Addr} (hp : ¬ S p.block) {v : Value} (hv : w.cell? p = some v) : w'.cell? p = some v := by
  have hlt : p.block < w.heap.size := block_lt_of_cell hv
  rw [World.cell?_of_block (h.block p.block hlt hp)]
  exact hv
end

section
variable {w w' : World} {b : Nat} {t : TypeId} {cs : Array Value}
theorem Blk.lt (h : Blk w b t cs) : b < w.heap.size := lt_of_block h
theorem Blk.cell (h : Blk w b t cs) (i : Nat) : w.cell? ⟨b, i, none⟩ = cs[i]? := cell_of_row w b i cs t (0, 0) h
theorem Blk.frozen (h : Blk w b t cs) (i : Nat) : w.frozen? ⟨b, i, none⟩ = false := frozen_of_row w b i cs t h
theorem Blk.new (w : World) (t : TypeId) (cs : Array Value) : Blk (w.alloc (.cells cs t)) w.heap.size t cs := heap_alloc_new w _
theorem Blk.drew (h : Blk w b t cs) : Blk w.drew b t cs := h
theorem Blk.drewN (h : Blk w b t cs) (n : Nat) : Blk (w.drewN n) b t cs := h
theorem Blk.alloc (h : Blk w b t cs) (o : Obj) : Blk (w.alloc o) b t cs := (Below.heap_alloc w o b h.lt).trans h
theorem Blk.set_ (h : Blk w b t cs) (i : Nat) (v : Value) : Blk (w.setCell ⟨b, i, none⟩ v) b t (cs.setIfInBounds i v) := heap_setCell_same w b i cs t v h
theorem Blk.far (h : Blk w b t cs) {p : Addr} (hp : b ≠ p.block) (v : Value) : Blk (w.setCell p v) b t cs := (Below.heap_setCell w p v b hp).trans h
theorem Blk.fr {S : Nat → Prop} (h : Blk w b t cs) (hf : Fr S w w') (hb : ¬ S b) : Blk w' b t cs := (hf.block b h.lt hb).trans h
theorem Blk.ne_ {b' : Nat} {t' : TypeId} {cs' : Array Value} (h : Blk w b t cs) (h' : Blk w b' t' cs') (hne : t ≠ t') : b ≠ b' := by
  rintro rfl
  unfold Blk at h h'
  rw [h] at h'
  injection h' with h'
  injection h' with _ ht
  exact hne ht
end

/-- A byte as a cell holds it. -/
def bv (x : UInt8) : Value := .int .u8 x.toNat
theorem bv_one (x : UInt8) : (bv x).oneCell' = true := rfl

/-- The slice '.slice A n c' reads as the values vs; its cells, if any, lie in a block of O. -/
def Rd (w : World) (O : Nat → Prop) (A : Option Addr) (n : Nat) (vs : List Value) : Prop :=
  vs.length = n ∧ (0 < n → ∃ b o, A = some ⟨b, o, none⟩ ∧ O b ∧ ∀ j v, vs[j]? = some v → w.cell? ⟨b, o + j, none⟩ = some v)

section
variable {w w' : World} {O O' S : Nat → Prop} {A : Option Addr} {n c : Nat} {vs : List Value}
theorem add_lit_none (b o j : Nat) : (⟨b, o, none⟩ : Addr).add j = ⟨b, o + j, none⟩ := by
  unfold Addr.add; split <;> simp_all
theorem Rd.nil (w : World) (O : Nat → Prop) (A : Option Addr) : Rd w O A 0 [] := ⟨rfl, fun h => absurd h (by omega)⟩
theorem Rd.keep (h : Rd w O A n vs) (hk : ∀ p : Addr, O p.block → ∀ v, w.cell? p = some v → w'.cell? p = some v) : Rd w' O A n vs :=
  ⟨h.1, fun hn => by
    obtain ⟨b, o, e, hb, hc⟩ := h.2 hn
    exact ⟨b, o, e, hb, fun j v hv => hk _ hb v (hc j v hv)⟩⟩
theorem Rd.fr (h : Rd w O A n vs) (hf : Fr S w w') (hd : ∀ b, b < w.heap.size → O b → ¬ S b) : Rd w' O A n vs :=
  h.keep fun _ hp _ hv => hf.cell (hd _ (block_lt_of_cell hv) hp) hv
theorem Rd.mono (h : Rd w O A n vs) (hO : ∀ b, b < w.heap.size → O b → O' b) : Rd w O' A n vs :=
  ⟨h.1, fun hn => by
    obtain ⟨b, o, e, hb, hc⟩ := h.2 hn
    have hlt : b < w.heap.size := by
      have h0 : 0 < vs.length := by have := h.1; omega
      exact block_lt_of_cell (hc 0 _ (List.getElem?_eq_getElem h0))
    exact ⟨b, o, e, hO b hlt hb, hc⟩⟩
theorem Rd.drewN (h : Rd w O A n vs) (k : Nat) : Rd (w.drewN k) O A n vs := h
theorem Rd.alloc (h : Rd w O A n vs) (o : Obj) : Rd (w.alloc o) O A n vs := h.fr ((Fr.refl No w).alloc o) fun _ _ _ hb => hb
theorem Rd.at_ {k : Nat} (h : Rd w O A n vs) (hk : k < n) : ∃ b o v, A = some ⟨b, o, none⟩ ∧ O b ∧ vs[k]? = some v ∧ w.cell? ⟨b, o + k, none⟩ = some v := by
  obtain ⟨b, o, e, hb, hc⟩ := h.2 (by omega)
  have hl : k < vs.length := by have := h.1; omega
  exact ⟨b, o, vs[k], e, hb, List.getElem?_eq_getElem hl, hc k _ (List.getElem?_eq_getElem hl)⟩
theorem Rd.cut (h : Rd w O A n vs) {k cap : Nat} (hk : k ≤ n) (hc : n ≤ cap) : Rd w O (if cap = k then A else A.map (·.add k)) (n - k) (vs.drop k) := by
  refine ⟨by rw [List.length_drop, h.1], fun hn => ?_⟩
  obtain ⟨b, o, rfl, hb, hcell⟩ := h.2 (by omega)
  rw [if_neg (by omega)]
  refine ⟨b, o + k, by simp [add_lit_none], hb, fun j v hv => ?_⟩
  rw [Nat.add_assoc]
  exact hcell _ v (by rw [← hv, List.getElem?_drop])
theorem Rd.take (h : Rd w O A n vs) {k : Nat} (hk : k ≤ n) : Rd w O A k (vs.take k) := by
  refine ⟨by rw [List.length_take, h.1]; omega, fun hn => ?_⟩
  obtain ⟨b, o, e, hb, hcell⟩ := h.2 (by omega)
  refine ⟨b, o, e, hb, fun j v hv => hcell j v ?_⟩
  rw [List.getElem?_take] at hv
  split at hv
  · exact hv
  · cases hv
end

/-- The slice at A is a row of the call's own, of n cells and room for c: it is nil, or it begins at the head of a block that is known whole: its n values, then what is spare, of which T holds. -/
def Own (w : World) (O : Nat → Prop) (e : TypeId) (T : Value → Prop) (A : Option Addr) (n c : Nat) (vs : List Value) : Prop :=
  vs.length = n ∧ ((A = none ∧ n = 0 ∧ c = 0) ∨ ∃ b ts, A = some ⟨b, 0, none⟩ ∧ O b ∧ Blk w b e (vs ++ ts).toArray ∧ n + ts.length = c ∧ ∀ v ∈ ts, T v)

section
variable {w w' : World} {O O' S : Nat → Prop} {e : TypeId} {T : Value → Prop} {A : Option Addr} {n c : Nat} {vs : List Value}
theorem Own.nil (w : World) (O : Nat → Prop) (e : TypeId) (T : Value → Prop) : Own w O e T none 0 0 [] := ⟨rfl, .inl ⟨rfl, rfl, rfl⟩⟩
theorem Own.fr (h : Own w O e T A n c vs) (hf : Fr S w w') (hd : ∀ b, b < w.heap.size → O b → ¬ S b) : Own w' O e T A n c vs := by
  obtain ⟨h1, h3⟩ := h
  refine ⟨h1, ?_⟩
  rcases h3 with h3 | ⟨b, ts, rfl, hO, hb, hl, ht⟩
  · exact .inl h3
  · exact .inr ⟨b, ts, rfl, hO, hb.fr hf (hd b hb.lt hO), hl, ht⟩
theorem Own.mono (h : Own w O e T A n c vs) (hO : ∀ b, b < w.heap.size → O b → O' b) : Own w O' e T A n c vs := by
  obtain ⟨h1, h3⟩ := h
  refine ⟨h1, ?_⟩
  rcases h3 with h3 | ⟨b, ts, rfl, hb, hk, hl, ht⟩
  · exact .inl h3
  · exact .inr ⟨b, ts, rfl, hO b hk.lt hb, hk, hl, ht⟩
theorem Own.le (h : Own w O e T A n c vs) : n ≤ c := by
  obtain ⟨_, h3⟩ := h
  rcases h3 with ⟨_, rfl, rfl⟩ | ⟨b, ts, _, _, _, hl, _⟩
  · exact Nat.le_refl _
  · omega
theorem Own.drewN (h : Own w O e T A n c vs) (k : Nat) : Own (w.drewN k) O e T A n c vs := h
theorem Own.alloc (h : Own w O e T A n c vs) (o : Obj) : Own (w.alloc o) O e T A n c vs := h.fr ((Fr.refl No w).alloc o) fun _ _ _ hb => hb
theorem Own.rd (h : Own w O e T A n c vs) : Rd w O A n vs := by
  obtain ⟨h1, h3⟩ := h
  refine ⟨h1, fun hn => ?_⟩
  rcases h3 with ⟨_, rfl, _⟩ | ⟨b, ts, rfl, hO, hb, hl, _⟩
  · omega
  · refine ⟨b, 0, rfl, hO, fun j v hv => ?_⟩
    rw [Nat.zero_add, hb.cell]
    have hj : j < vs.length := (List.getElem?_eq_some_iff.1 hv).1
    simp [List.getElem?_append_left hj, hv]
end

/-- The slice reads as these bytes. -/
def RdB (w : World) (O : Nat → Prop) (A : Option Addr) (n : Nat) (bs : List UInt8) : Prop := Rd w O A n (bs.map bv)
/-- A value that is a slice of bytes and reads as bs. -/
def BVal (w : World) (O : Nat → Prop) (v : Value) (bs : List UInt8) : Prop := ∃ A n c, v = .slice A n c ∧ n ≤ c ∧ RdB w O A n bs
/-- A slice whose elements are slices of bytes: it reads as a list of lists of bytes. -/
def RdL (w : World) (O : Nat → Prop) (A : Option Addr) (n : Nat) (ls : List (List UInt8)) : Prop :=
  ∃ vs, Rd w O A n vs ∧ vs.length = ls.length ∧ ∀ (i : Nat) (v : Value) (l : List UInt8), vs[i]? = some v → ls[i]? = some l → BVal w O v l

section
variable {w w' : World} {O O' S : Nat → Prop} {A : Option Addr} {n : Nat} {v : Value} {bs : List UInt8} {ls : List (List UInt8)}
theorem BVal.fr (h : BVal w O v bs) (hf : Fr S w w') (hd : ∀ b, b < w.heap.size → O b → ¬ S b) : BVal w' O v bs := by
  obtain ⟨A, n, c, rfl, hc, hr⟩ := h
  exact ⟨A, n, c, rfl, hc, Rd.fr hr hf hd⟩
theorem BVal.mono (h : BVal w O v bs) (hO : ∀ b, b < w.heap.size → O b → O' b) : BVal w O' v bs := by
  obtain ⟨A, n, c, rfl, hc, hr⟩ := h
  exact ⟨A, n, c, rfl, hc, Rd.mono hr hO⟩
theorem RdL.fr (h : RdL w O A n ls) (hf : Fr S w w') (hd : ∀ b, b < w.heap.size → O b → ¬ S b) : RdL w' O A n ls := by
  obtain ⟨vs, h1, h2, h3⟩ := h
  exact ⟨vs, h1.fr hf hd, h2, fun i v l hv hl => (h3 i v l hv hl).fr hf hd⟩
theorem RdL.mono (h : RdL w O A n ls) (hO : ∀ b, b < w.heap.size → O b → O' b) : RdL w O' A n ls := by
  obtain ⟨vs, h1, h2, h3⟩ := h
  exact ⟨vs, h1.mono hO, h2, fun i v l hv hl => (h3 i v l hv hl).mono hO⟩
theorem RdL.len (h : RdL w O A n ls) : ls.length = n := by
  obtain ⟨vs, h1, h2, _⟩ := h
  rw [← h2, h1.1]
end
end Go.Ost
