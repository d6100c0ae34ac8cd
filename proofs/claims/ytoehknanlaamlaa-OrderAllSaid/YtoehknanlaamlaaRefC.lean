/- The state of the loop in the reference's Done (ostiaryref17): its start, one round, its end. No code is walked here. -/
import Derived.Test.YtoehknanlaamlaaRefB
namespace Go.Proofs.Ytoehknanlaamlaa
open Go.RowKit Go.Ost

/-- Where the bytes of the slots lie: neither in the struct, nor in the row of slots, nor in the row that is handed back. -/
def Rs (w0 : World) (O : Nat → Prop) (a b : Nat) (A : Option Addr) : Nat → Prop := fun x => (O x ∨ w0.heap.size ≤ x) ∧ x ≠ a ∧ x ≠ b ∧ ¬ At A x

structure RLa (w0 : World) (O : Nat → Prop) (a b : Nat) (m : Nat) (nx : Int) (K : List Bs) (R : List (Option Bs)) (Ao : Option Addr) (co : Nat) (wr : World)
    (f : Nat) (outs : List Bs) (L : List (Option Bs)) (vs : List Value) (A : Option Addr) (c : Nat) (vals : List Value) (cs : Array Value) : Prop where
  own : Own wr (Ge w0.heap.size) 22 (fun _ => True) Ao (vs.length * 1) (co * 1) vs
  len : vs.length = outs.length
  outs_ : ∀ (i : Nat) (v : Value) (l : Bs), vs[i]? = some v → outs[i]? = some l → BVal wr (Rs w0 O a b Ao) v l
  win : RefS wr a m f A L.length c
  cap : L.length ≤ c ∧ c ≤ maxLen
  blk : Blk wr b 59 cs
  row : 0 < L.length → ∃ o, A = some ⟨b, o, none⟩ ∧ ∀ j v, vals[j]? = some v → cs[o + j]? = some v
  slots : Slots wr (Rs w0 O a b Ao) L vals
  goes : K = outs ++ rel L
  stays : rest L = R
  next : (f : Int) + L.length = nx
  fr : Fr O w0 wr

def RL (w0 : World) (O : Nat → Prop) (a b : Nat) (m : Nat) (nx : Int) (K : List Bs) (R : List (Option Bs)) (o : Value) (wr : World) : Prop :=
  ∃ Ao co f outs L vs A c vals cs, o = .slice Ao vs.length co ∧ RLa w0 O a b m nx K R Ao co wr f outs L vs A c vals cs

/-- How many slots the window has (the loop's measure). -/
def slotN (w : World) (a : Nat) : Nat := match w.cell? ⟨a, 2, none⟩ with | some (.slice _ n _) => n | _ => 0

section
variable {w0 w1 wr : World} {O : Nat → Prop} {a b m : Nat} {nx : Int} {K : List Bs} {R : List (Option Bs)} {Ao A A1 : Option Addr} {co c c1 f : Nat} {outs : List Bs} {L : List (Option Bs)} {vs vals : List Value} {cs : Array Value}

theorem RLa.slotN_eq (h : RLa w0 O a b m nx K R Ao co wr f outs L vs A c vals cs) : slotN wr a = L.length := by
  unfold slotN
  rw [h.win.c2]

theorem Slots.head {w : World} {C : Nat → Prop} {x : Option Bs} {t : List (Option Bs)} (h : Slots w C (x :: t) vals) : vals[0]? = some (.bool x.isSome) ∧ ∃ B k d, vals[1]? = some (.slice B k d) ∧ ∀ l, x = some l → BVal w C (.slice B k d) l := by
  simpa using h.2 0 x rfl
theorem Slots.tail {w : World} {C : Nat → Prop} {x : Option Bs} {t : List (Option Bs)} (h : Slots w C (x :: t) vals) : Slots w C t (vals.drop 2) := by
  refine ⟨by rw [List.length_drop, h.1]; simp; omega, fun i y hy => ?_⟩
  obtain ⟨h1, B, k, d, h2, h3⟩ := h.2 (i + 1) y (by simpa using hy)
  refine ⟨?_, B, k, d, ?_, h3⟩
  · rw [List.getElem?_drop, ← h1]; congr 1; omega
  · rw [List.getElem?_drop, ← h2]; congr 1; omega

/-- A round: behind the append (w1), the cut of the row and the two stores, the relation holds anew. -/
theorem RLa.round {l : Bs} {t : List (Option Bs)} {B : Option Addr} {k d : Nat} (h : RLa w0 O a b m nx K R Ao co wr f outs (some l :: t) vs A c vals cs) (hO : ∀ x, O x → x < w0.heap.size) (ha : O a) (hb : O b) (hv : vals[1]? = some (.slice B k d)) {o1 : Obj}
    (hown1 : Own w1 (Ge w0.heap.size) 22 (fun _ => True) A1 ((vs.length + 1) * 1) (c1 * 1) (vs ++ [.slice B k d])) (hf1 : Fr (At Ao) (wr.alloc o1) w1) (hA1 : ∀ x, At A1 x → At Ao x ∨ (wr.alloc o1).heap.size ≤ x)
    {A' : Option Addr} (hA' : 0 < t.length → A' = A.map (·.add 2)) :
    RefS w1 a m f A (t.length + 1) c ∧
      RL w0 O a b m nx K R (.slice A1 (vs.length + 1) c1) ((w1.setCell ⟨a, 2, none⟩ (.slice A' t.length (c - 1))).setCell ⟨a, 1, none⟩ (.int .i64 ((f : Int) + 1))) ∧
      slotN ((w1.setCell ⟨a, 2, none⟩ (.slice A' t.length (c - 1))).setCell ⟨a, 1, none⟩ (.int .i64 ((f : Int) + 1))) a < slotN wr a := by
  have hAo : ∀ x, At Ao x → w0.heap.size ≤ x := by
    rintro x ⟨o, rfl⟩
    rcases h.own.2 with ⟨e, _⟩ | ⟨b', ts, e, hb', _⟩
    · cases e
    · injection e with e
      injection e with e1 e2
      rw [e1]
      exact hb'
  have hna : ¬ At Ao a := fun hh => absurd (hAo _ hh) (by have := hO _ ha; omega)
  have hnb : ¬ At Ao b := fun hh => absurd (hAo _ hh) (by have := hO _ hb; omega)
  have F1 : Fr (At Ao) wr w1 := ((Fr.refl _ wr).alloc o1).trans hf1 fun _ _ hb => hb
  have S1 : RefS w1 a m f A (t.length + 1) c := h.win.fr F1 hna
  have hne : b ≠ a := Blk.ne_ h.blk h.win (by decide)
  have hB1 := h.blk.fr F1 hnb
  have F2 : Fr (· = a) w1 ((w1.setCell ⟨a, 2, none⟩ (.slice A' t.length (c - 1))).setCell ⟨a, 1, none⟩ (.int .i64 ((f : Int) + 1))) :=
    ((Fr.refl (· = a) w1).setCell (p := ⟨a, 2, none⟩) (.inl rfl) _).setCell (p := ⟨a, 1, none⟩) (.inl rfl) _
  have S2 : RefS ((w1.setCell ⟨a, 2, none⟩ (.slice A' t.length (c - 1))).setCell ⟨a, 1, none⟩ (.int .i64 ((f : Int) + 1))) a m ((f : Int) + 1) A' t.length (c - 1) := (Blk.set_ S1 2 _).set_ 1 _
  have hcast : ((f + 1 : Nat) : Int) = (f : Int) + 1 := by omega
  have mono : ∀ x, x < (wr.alloc o1).heap.size → Rs w0 O a b Ao x → Rs w0 O a b A1 x := fun x hx ⟨h1, h2, h3, h4⟩ => ⟨h1, h2, h3, fun hh => by rcases hA1 x hh with hh | hh; exact h4 hh; omega⟩
  have lift : ∀ {v : Value} {q : Bs}, BVal wr (Rs w0 O a b Ao) v q → BVal ((w1.setCell ⟨a, 2, none⟩ (.slice A' t.length (c - 1))).setCell ⟨a, 1, none⟩ (.int .i64 ((f : Int) + 1))) (Rs w0 O a b A1) v q := by
    intro v q hv
    have b1 : BVal w1 (Rs w0 O a b A1) v q := by
      obtain ⟨A3, n3, c3, rfl, hc, hr'⟩ := hv.fr ((Fr.refl No wr).alloc o1) fun _ _ _ hb => hb
      refine ⟨A3, n3, c3, rfl, hc, ?_⟩
      have h0 : Rd (wr.alloc o1) (fun x => Rs w0 O a b Ao x ∧ x < (wr.alloc o1).heap.size) A3 n3 (q.map bv) := Rd.mono hr' fun x hx hc => ⟨hc, hx⟩
      exact Rd.mono (Rd.fr h0 hf1 fun x _ hx => hx.1.2.2.2) fun x _ hx => mono x hx.2 hx.1
    exact b1.fr F2 fun x _ hx => hx.2.1
  obtain ⟨_, B', k', d', hv', hbl⟩ := h.slots.head
  rw [hv] at hv'
  injection hv' with hv'
  injection hv' with e1 e2 e3
  subst e1 e2 e3
  have hbx := hbl l rfl
  refine ⟨S1, ⟨A1, c1, f + 1, outs ++ [l], t, vs ++ [Value.slice B k d], A', c - 1, vals.drop 2, cs, by simp, ⟨?_, by simp [h.len], ?_, ?_, ?_, hB1.fr F2 hne, ?_, ?_, ?_, ?_, ?_, ?_⟩⟩, ?_⟩
  · have o1' : Own w1 (Ge w0.heap.size) 22 (fun _ => True) A1 ((vs ++ [Value.slice B k d]).length * 1) (c1 * 1) (vs ++ [.slice B k d]) := by simpa using hown1
    exact o1'.fr F2 fun x _ hx e => by have := hO _ ha; have : w0.heap.size ≤ x := hx; omega
  · intro i v l' hv hl
    rcases Nat.lt_or_ge i vs.length with hi | hi
    · rw [List.getElem?_append_left hi] at hv
      rw [List.getElem?_append_left (by rw [← h.len]; exact hi)] at hl
      exact lift (h.outs_ i v l' hv hl)
    · rw [List.getElem?_append_right hi] at hv
      rw [List.getElem?_append_right (by rw [← h.len]; exact hi), ← h.len] at hl
      cases hj : i - vs.length with
      | zero => rw [hj] at hv hl; simp at hv hl; subst hv hl; exact lift hbx
      | succ j => rw [hj] at hv; simp at hv
  · rw [hcast]; exact S2
  · have := h.cap; simp at this; omega
  · intro ht
    obtain ⟨o, e, hc⟩ := h.row (by simp)
    refine ⟨o + 2, by rw [hA' ht, e]; simp [add_lit_none], fun j v hv => ?_⟩
    rw [Nat.add_assoc]
    exact hc (2 + j) v (by rw [List.getElem?_drop] at hv; exact hv)
  · refine ⟨h.slots.tail.1, fun i y hy => ?_⟩
    obtain ⟨h1, B3, k3, d3, h2, h3⟩ := h.slots.tail.2 i y hy
    exact ⟨h1, B3, k3, d3, h2, fun q hq => lift (h3 q hq)⟩
  · rw [h.goes]; simp [rel]
  · exact h.stays
  · have := h.next; simp at this; omega
  · have g1 : Fr O w0 w1 := h.fr.trans_new F1 fun x hx => .inr (hAo x hx)
    exact Fr.trans (T := (· = a)) g1 F2 fun x _ hx => by rw [hx]; exact ha
  · rw [h.slotN_eq]
    unfold slotN
    rw [S2.c2]
    simp

/-- The loop's start: behind the copy of the bytes (w1) and the store into the slot. -/
theorem RL.start {bs : Bs} {i o : Nat} (hO : ∀ x, O x → x < w0.heap.size) (ha : O a) (hb : O b) (hS : RefS w0 a m f (some ⟨b, o, none⟩) L.length c) (hc : L.length ≤ c ∧ c ≤ maxLen) (hB : Blk w0 b 59 cs) (hrow : ∀ j v, vals[j]? = some v → cs[o + j]? = some v)
    (hV : Slots w0 (fun x => O x ∧ x ≠ a ∧ ¬ At (some ⟨b, o, none⟩) x) L vals) (hnx : (f : Int) + L.length = nx) (hi : i < L.length)
    (hown1 : Own w1 (Ge w0.heap.size) 5 Byte A1 bs.length c1 (bs.map bv)) (F1 : Fr No w0 w1) :
    Blk w1 b 59 cs ∧ (∃ u, cs[o + i * 2]? = some u) ∧ (∃ u, cs[o + i * 2 + 1]? = some u) ∧
    RefS ((w1.setCell ⟨b, o + i * 2, none⟩ (.bool true)).setCell ⟨b, o + i * 2 + 1, none⟩ (.slice A1 bs.length c1)) a m f (some ⟨b, o, none⟩) L.length c ∧
    RL w0 O a b m nx (rel (L.set i (some bs))) (rest (L.set i (some bs))) (.slice none 0 0) ((w1.setCell ⟨b, o + i * 2, none⟩ (.bool true)).setCell ⟨b, o + i * 2 + 1, none⟩ (.slice A1 bs.length c1)) := by
  have hne : b ≠ a := Blk.ne_ hB hS (by decide)
  have hB1 := hB.fr F1 fun h => h
  have hvl := hV.1
  obtain ⟨hv0, _, _, _, hv1, _⟩ := hV.2 i _ (List.getElem?_eq_getElem hi)
  have F2 : Fr (· = b) w1 ((w1.setCell ⟨b, o + i * 2, none⟩ (.bool true)).setCell ⟨b, o + i * 2 + 1, none⟩ (.slice A1 bs.length c1)) :=
    ((Fr.refl (· = b) w1).setCell (p := ⟨b, o + i * 2, none⟩) (.inl rfl) _).setCell (p := ⟨b, o + i * 2 + 1, none⟩) (.inl rfl) _
  have S2 := (hS.fr F1 fun h => h).fr F2 fun e => hne e.symm
  have lift : ∀ {v : Value} {q : Bs} {C : Nat → Prop}, BVal w1 C v q → (∀ x, C x → Rs w0 O a b none x) → BVal ((w1.setCell ⟨b, o + i * 2, none⟩ (.bool true)).setCell ⟨b, o + i * 2 + 1, none⟩ (.slice A1 bs.length c1)) (Rs w0 O a b none) v q :=
    fun hv hC => (hv.mono fun x _ hx => hC x hx).fr F2 fun x _ hx => hx.2.2.1
  refine ⟨hB1, ⟨_, hrow _ _ hv0⟩, ⟨_, by rw [Nat.add_assoc]; exact hrow _ _ hv1⟩, S2, none, 0, f, [], L.set i (some bs), [], some ⟨b, o, none⟩, c, (vals.set (i * 2) (.bool true)).set (i * 2 + 1) (.slice A1 bs.length c1), (cs.setIfInBounds (o + i * 2) (.bool true)).setIfInBounds (o + i * 2 + 1) (.slice A1 bs.length c1), rfl,
    ⟨Own.nil _ _ _ _, rfl, by simp, by simpa using S2, by simpa using hc, (hB1.set_ _ _).set_ _ _, fun _ => ⟨o, rfl, ?_⟩, ⟨by simp [hvl], ?_⟩, rfl, rfl, by simpa using hnx, ?_⟩⟩
  · intro j v hv
    have e1 : (vals.set (i * 2) (.bool true)).length = vals.length := by simp
    have hcs : ∀ q u, vals[q]? = some u → o + q < cs.size := fun q u hu => (Array.getElem?_eq_some_iff.1 (hrow q u hu)).1
    rw [List.getElem?_set] at hv
    rw [Array.getElem?_setIfInBounds]
    by_cases hj : i * 2 + 1 = j
    · subst hj
      rw [if_pos rfl, if_pos (by rw [e1, hvl]; omega)] at hv
      rw [if_pos (by omega), if_pos (by simp; exact hcs _ _ hv1), hv]
    · rw [if_neg hj] at hv
      rw [if_neg (by omega)]
      rw [List.getElem?_set] at hv
      rw [Array.getElem?_setIfInBounds]
      by_cases hj2 : i * 2 = j
      · subst hj2
        rw [if_pos rfl, if_pos (by omega)] at hv
        rw [if_pos (by omega), if_pos (hcs _ _ hv0), hv]
      · rw [if_neg hj2] at hv
        rw [if_neg (by omega)]
        exact hrow j v hv
  · intro j x hx
    by_cases hj : j = i
    · subst hj
      rw [List.getElem?_set_self hi] at hx
      injection hx with hx
      subst hx
      refine ⟨?_, A1, bs.length, c1, ?_, fun q hq => ?_⟩
      · rw [List.getElem?_set_ne (by omega), List.getElem?_set_self (by omega)]; rfl
      · rw [List.getElem?_set_self (by simp; omega)]
      · injection hq with hq
        subst hq
        exact lift (C := fun x => w0.heap.size ≤ x ∧ x < w1.heap.size) ⟨A1, _, c1, rfl, hown1.le, Rd.mono hown1.rd fun x hx hc => ⟨hc, hx⟩⟩ fun x hx => ⟨.inr hx.1, fun e => by have := hO _ ha; omega, fun e => by have := hO _ hb; omega, fun ⟨_, e⟩ => by cases e⟩
    · rw [List.getElem?_set_ne (fun e => hj e.symm)] at hx
      obtain ⟨h1, B3, k3, d3, h2, h3⟩ := hV.2 j x hx
      refine ⟨?_, B3, k3, d3, ?_, fun q hq => lift ((h3 q hq).fr F1 fun _ _ _ h => h) fun x hx => ⟨.inl hx.1, hx.2.1, fun e => hx.2.2 ⟨o, by rw [e]⟩, fun ⟨_, e⟩ => by cases e⟩⟩
      · rw [List.getElem?_set_ne (by omega), List.getElem?_set_ne (by omega)]; exact h1
      · rw [List.getElem?_set_ne (by omega), List.getElem?_set_ne (by omega)]; exact h2
  · exact Fr.trans (T := (· = b)) F1.of_no F2 fun x _ hx => by rw [hx]; exact hb

/-- What the reference's Done leaves. -/
def RDoneR (w0 : World) (O : Nat → Prop) (a : Nat) (ls : List Bs) (err : Int) (s' : OW) (e : Ending) (w' : World) : Prop :=
  ∃ A c O', e = .returned (.tuple #[.slice A ls.length c, .int .i64 err]) ∧ RdL w' O' A ls.length ls ∧ RWin w' O' a s' ∧ Fr O w0 w' ∧ ∀ b, O' b → O b ∨ (w0.heap.size ≤ b ∧ b < w'.heap.size)

/-- The loop's end: nothing goes any more. -/
theorem RLa.done {most least : Nat} {s' : OW} (h : RLa w0 O a b most nx K R Ao co wr f outs L vs A c vals cs) (hno : rel L = [])
    (hO : ∀ b, O b → b < w0.heap.size) (ha : O a) (hb : O b) (hm : 1 ≤ most ∧ most ≤ 64 ∧ R.length ≤ most) (h1 : 1 ≤ least) (hn : nx < 4611686018427387904) (hs : s' = ⟨most, least + K.length, R⟩) (hnx : (least + K.length + R.length : Int) = nx) :
    RDoneR w0 O a K 0 s' (.returned (.tuple #[.slice Ao vs.length co, .int .i64 0])) wr := by
  have hK : K = outs := by rw [h.goes, hno, List.append_nil]
  have hLR : L = R := by have := rel_rest L; rw [hno] at this; rw [← h.stays]; simpa using this.symm
  subst hK hLR
  have hf : f = least + K.length := by have := h.next; omega
  have hlen := h.len
  subst hf hs
  have lt : ∀ b, O b → b < wr.heap.size := fun b hb => Nat.lt_of_lt_of_le (hO b hb) h.fr.size
  refine ⟨Ao, co, fun b => O b ∨ (w0.heap.size ≤ b ∧ b < wr.heap.size), by rw [hlen], ?_, ⟨?_, hm, ?_, ?_, .inl ha, A, c, vals, h.cap.1, h.cap.2, h.win, ?_, ?_⟩, h.fr, fun b hb => hb⟩
  · refine ⟨vs, ?_, h.len, fun i v l hv hl => (h.outs_ i v l hv hl).mono fun b hb hc => ?_⟩
    · have h2 : Rd wr (Ge w0.heap.size) Ao vs.length vs := by simpa using h.own.rd
      rw [hlen] at h2
      exact h2.mono fun b hb hc => Or.inr ⟨hc, hb⟩
    · rcases hc.1 with hc | hc
      · exact .inl hc
      · exact .inr ⟨hc, hb⟩
  · rintro b (hb | hb)
    · exact lt b hb
    · exact hb.2
  · simp only; omega
  · simp only; omega
  · intro hl
    obtain ⟨o, e, hc⟩ := h.row hl
    exact ⟨b, o, cs, e, .inl hb, h.blk, hc⟩
  · rcases Nat.eq_zero_or_pos L.length with h0 | h0
    · exact ⟨h.slots.1, fun i x hx => by have : L = [] := List.eq_nil_of_length_eq_zero h0
                                         simp [this] at hx⟩
    · refine h.slots.mono fun x hx hc => ⟨?_, hc.2.1, fun ⟨o, e⟩ => ?_⟩
      · rcases hc.1 with hc | hc
        · exact .inl hc
        · exact .inr ⟨hc, hx⟩
      · obtain ⟨o', e', _⟩ := h.row h0
        rw [e] at e'
        injection e' with e'
        injection e' with e1 _
        exact hc.2.2.1 e1
end
end Go.Proofs.Ytoehknanlaamlaa
