/- The window as the laws see it (OWin), and the state of Done's loop (DL): its start, one round, its end. No code is walked here. -/
import Derived.Test.YtoehknanlaamlaaOrdB
import Derived.Test.YtoehknanlaamlaaOrdM
namespace Go.Proofs.Ytoehknanlaamlaa
open Go.RowKit Go.Ost

section
variable {w w' : World} {a r : Nat} {m f nx : Int} {O S : Nat → Prop} {s : OW}
theorem WinS.ne {es : List (Int × Value)} (h : WinS w a m f nx r) (he : MapI w r es) : a ≠ r := by
  rintro rfl
  obtain ⟨arr, clock, h1, _⟩ := he
  have h0 : w.heap[a]? = _ := h
  rw [h0] at h1
  cases h1
theorem WinS.setFirst (h : WinS w a m f nx r) (x : Int) : WinS (w.setCell ⟨a, 1, none⟩ (.int .i64 x)) a m x nx r := Blk.set_ h 1 _

/-- A window of package order at block a, of the machine's state s; O: its blocks. -/
def OWin (w : World) (O : Nat → Prop) (a : Nat) (s : OW) : Prop :=
  (∀ b, O b → b < w.heap.size) ∧ (1 ≤ s.most ∧ s.most ≤ 64 ∧ s.L.length ≤ s.most) ∧ 1 ≤ s.least ∧ s.least + s.L.length < 4611686018427387904 ∧
  ∃ r es, O a ∧ O r ∧ WinS w a s.most s.least (s.least + s.L.length) r ∧ MapI w r es ∧ Ents w (fun b => O b ∧ b ≠ a ∧ b ≠ r) s.least s.L es

theorem OWin.fr (h : OWin w O a s) (hf : Fr S w w') (hd : ∀ b, O b → ¬ S b) : OWin w' O a s := by
  obtain ⟨h0, h1, h2, h3, r, es, ha, hr, hW, hM, hE⟩ := h
  exact ⟨fun b hb => Nat.lt_of_lt_of_le (h0 b hb) hf.size, h1, h2, h3, r, es, ha, hr, hW.fr hf (hd a ha), hM.fr hf (hd r hr), hE.fr hf fun b _ hb => hd b hb.1⟩

/-- The blocks in which the clones of Done lie: the window's and new ones, but for its struct, its map and the row that is handed back. -/
def Cs (w0 : World) (O : Nat → Prop) (a r : Nat) (A : Option Addr) : Nat → Prop := fun b => (O b ∨ w0.heap.size ≤ b) ∧ b ≠ a ∧ b ≠ r ∧ ¬ At A b

/-- The head of Done's loop: what goes altogether (K), what stays (R), the three variables. -/
structure DLa (w0 : World) (O : Nat → Prop) (a r : Nat) (m nx : Int) (K : List Bs) (R : List (Option Bs)) (A : Option Addr) (c : Nat) (x : Value) (q : Bool) (wr : World)
    (f : Nat) (outs : List Bs) (L : List (Option Bs)) (es : List (Int × Value)) (vs : List Value) : Prop where
  own : Own wr (Ge w0.heap.size) 22 (fun _ => True) A (vs.length * 1) (c * 1) vs
  len : vs.length = outs.length
  outs_ : ∀ (i : Nat) (v : Value) (l : Bs), vs[i]? = some v → outs[i]? = some l → BVal wr (Cs w0 O a r A) v l
  win : WinS wr a m f nx r
  map_ : MapI wr r es
  ents : Ents wr (Cs w0 O a r A) f L es
  goes : K = outs ++ rel L
  stays : rest L = R
  next : (f : Int) + L.length = nx
  yes : q = true → ∃ l t, L = some l :: t ∧ at? (f : Int) es = some x ∧ BVal wr (Cs w0 O a r A) x l
  no : q = false → rel L = []
  fr : Fr O w0 wr

def DL (w0 : World) (O : Nat → Prop) (a r : Nat) (m nx : Int) (K : List Bs) (R : List (Option Bs)) (o x is : Value) (wr : World) : Prop :=
  ∃ A c q f outs L es vs B k d, o = .slice A vs.length c ∧ x = .slice B k d ∧ is = .bool q ∧ DLa w0 O a r m nx K R A c x q wr f outs L es vs

/-- How many entries a map's block has (the loop's measure). -/
def msize (w : World) (r : Nat) : Nat := match w.heap[r]? with | some (.map arr _) => arr.size | _ => 0
theorem msize_eq {es : List (Int × Value)} (h : MapI w r es) : msize w r = es.length := by
  obtain ⟨arr, clock, h1, h2⟩ := h
  have hl : arr.size = es.length := by have := congrArg List.length h2; simpa using this
  simp [msize, h1, hl]

/-- What the look-up of the least number tells: whether the head is done. -/
theorem look_head {C : Nat → Prop} {f : Nat} {L : List (Option Bs)} {es : List (Int × Value)} (hM : MapI w r es) (hE : Ents w C f L es) :
    ∃ x q, (∃ B k d, x = .slice B k d) ∧ (∀ nq, (Instr.lookup 51 (.map (some r)) (.int .i64 (f : Int)) true).run Try.prog (w.drewN nq) = .ok (.tuple #[x, .bool q]) (w.drewN nq)) ∧
      (q = true → ∃ l t, L = some l :: t ∧ at? (f : Int) es = some x ∧ BVal w C x l) ∧ (q = false → rel L = []) := by
  have none_ : (∀ (i : Nat) (l : Bs), (f : Int) = f + i → L[i]? ≠ some (some l)) → rel L = [] →
      ∃ x q, (∃ B k d, x = .slice B k d) ∧ (∀ nq, (Instr.lookup 51 (.map (some r)) (.int .i64 (f : Int)) true).run Try.prog (w.drewN nq) = .ok (.tuple #[x, .bool q]) (w.drewN nq)) ∧
        (q = true → ∃ l t, L = some l :: t ∧ at? (f : Int) es = some x ∧ BVal w C x l) ∧ (q = false → rel L = []) := fun h hl =>
    ⟨.slice none 0 0, false, ⟨_, _, _, rfl⟩, fun nq => (hM.drewN nq).look_none _ Try.underlying51 Try.underlying3 (by kernel_rfl) (hE.at_none h), (fun h => by cases h), fun _ => hl⟩
  match L, hE, none_ with
  | [], hE, none_ => exact none_ (by simp) rfl
  | none :: t, hE, none_ => exact none_ (fun i l hi => by have : i = 0 := by omega
                                                          subst this; simp) rfl
  | some l :: t, hE, _ =>
    obtain ⟨v, hv, hb⟩ := hE.at_some (i := 0) (l := l) rfl
    have hv' : at? (f : Int) es = some v := by simpa using hv
    obtain ⟨B, k, d, rfl, hkd, hrd⟩ := hb
    exact ⟨.slice B k d, true, ⟨_, _, _, rfl⟩, fun nq => (hM.drewN nq).look _ Try.underlying51 Try.underlying3 hv', fun _ => ⟨l, t, rfl, hv', B, k, d, rfl, hkd, hrd⟩, (fun h => by cases h)⟩

/-- A round: behind the append (w1), the delete and the store, the relation holds anew. -/
theorem DLa.round {w0 wr w1 : World} {K : List Bs} {R : List (Option Bs)} {A A1 : Option Addr} {c c1 : Nat} {x : Value} {outs : List Bs} {L : List (Option Bs)} {es : List (Int × Value)} {vs : List Value} {f : Nat}
    (h : DLa w0 O a r m nx K R A c x true wr f outs L es vs) (hO : ∀ b, O b → b < w0.heap.size) (ha : O a) (hr : O r) {o1 : Obj}
    (hown1 : Own w1 (Ge w0.heap.size) 22 (fun _ => True) A1 ((vs.length + 1) * 1) (c1 * 1) (vs ++ [x])) (hf1 : Fr (At A) (wr.alloc o1) w1) (hA1 : ∀ b, At A1 b → At A b ∨ (wr.alloc o1).heap.size ≤ b) :
    w1.cell? ⟨a, 3, none⟩ = some (.map (some r)) ∧ w1.cell? ⟨a, 1, none⟩ = some (.int .i64 f) ∧
    ∃ w2, (∀ ty, (Builtin.delete_ #[51, 3] ty #[.map (some r), .int .i64 f]).run Try.prog w1.drew = .ok (.tuple #[]) w2) ∧
      w2.cell? ⟨a, 1, none⟩ = some (.int .i64 f) ∧ w2.frozen? ⟨a, 1, none⟩ = false ∧ 0 < msize wr r ∧
      ∃ x' q', (w2.setCell ⟨a, 1, none⟩ (.int .i64 ((f : Int) + 1))).cell? ⟨a, 3, none⟩ = some (.map (some r)) ∧ (w2.setCell ⟨a, 1, none⟩ (.int .i64 ((f : Int) + 1))).cell? ⟨a, 1, none⟩ = some (.int .i64 ((f : Int) + 1)) ∧
        (∀ nq, (Instr.lookup 51 (.map (some r)) (.int .i64 ((f : Int) + 1)) true).run Try.prog ((w2.setCell ⟨a, 1, none⟩ (.int .i64 ((f : Int) + 1))).drewN nq) = .ok (.tuple #[x', .bool q']) ((w2.setCell ⟨a, 1, none⟩ (.int .i64 ((f : Int) + 1))).drewN nq)) ∧
        ∀ k, DL w0 O a r m nx K R (.slice A1 (vs.length + 1) c1) x' (.bool q') ((w2.setCell ⟨a, 1, none⟩ (.int .i64 ((f : Int) + 1))).drewN k) ∧
          msize ((w2.setCell ⟨a, 1, none⟩ (.int .i64 ((f : Int) + 1))).drewN k) r < msize wr r := by
  obtain ⟨l, t, rfl, hat, hbx⟩ := h.yes rfl
  have hAo : ∀ b, At A b → w0.heap.size ≤ b := by
    rintro b ⟨o, rfl⟩
    rcases h.own.2 with ⟨e, _⟩ | ⟨b', ts, e, hb', _⟩
    · cases e
    · injection e with e
      injection e with e1 e2
      rw [e1]
      exact hb'
  have hna : ¬ At A a := fun hh => absurd (hAo _ hh) (by have := hO _ ha; omega)
  have hnr : ¬ At A r := fun hh => absurd (hAo _ hh) (by have := hO _ hr; omega)
  have F1 : Fr (At A) wr w1 := ((Fr.refl _ wr).alloc o1).trans hf1 fun _ _ hb => hb
  have hW1 := h.win.fr F1 hna
  have hM1 := h.map_.fr F1 hnr
  have hne : a ≠ r := hW1.ne hM1
  obtain ⟨w2, hdel, hM2, F2⟩ := (hM1.drewN 1).del (P := Try.prog) (f : Int) Try.underlying51 Try.underlying3 hat
  have hW2 : WinS w2 a m f nx r := WinS.fr (w := w1.drewN 1) hW1 F2 hne
  have hlm : 0 < es.length := by have := h.ents.count; simp at this; omega
  have mono : ∀ b, b < (wr.alloc o1).heap.size → Cs w0 O a r A b → Cs w0 O a r A1 b := fun b hb ⟨h1, h2, h3, h4⟩ => ⟨h1, h2, h3, fun hh => by rcases hA1 b hh with hh | hh; exact h4 hh; omega⟩
  have lift : ∀ {v : Value} {l : Bs}, BVal wr (Cs w0 O a r A) v l → BVal (w2.setCell ⟨a, 1, none⟩ (.int .i64 ((f : Int) + 1))) (Cs w0 O a r A1) v l := by
    intro v l hv
    have b0 : BVal (wr.alloc o1) (Cs w0 O a r A1) v l := (hv.fr ((Fr.refl No wr).alloc o1) fun _ _ _ hb => hb).mono mono
    have b1 : BVal w1 (Cs w0 O a r A1) v l := by
      obtain ⟨A', n', c', rfl, hc, hr'⟩ := hv.fr ((Fr.refl No wr).alloc o1) fun _ _ _ hb => hb
      refine ⟨A', n', c', rfl, hc, ?_⟩
      have h0 : Rd (wr.alloc o1) (fun b => Cs w0 O a r A b ∧ b < (wr.alloc o1).heap.size) A' n' (l.map bv) := Rd.mono hr' fun b hb hc => ⟨hc, hb⟩
      exact Rd.mono (Rd.fr h0 hf1 fun b _ hb => hb.1.2.2.2) fun b _ hb => mono b hb.2 hb.1
    have b2 : BVal w2 (Cs w0 O a r A1) v l := BVal.fr (w := w1.drewN 1) b1 F2 fun b _ hb => hb.2.2.1
    exact b2.fr ((Fr.refl (· = a) w2).setCell (p := ⟨a, 1, none⟩) (.inl rfl) _) fun b _ hb => hb.2.1
  have F3 : Fr (· = a) w2 (w2.setCell ⟨a, 1, none⟩ (.int .i64 ((f : Int) + 1))) := (Fr.refl (· = a) w2).setCell (p := ⟨a, 1, none⟩) (.inl rfl) _
  have hW3 := hW2.setFirst ((f : Int) + 1)
  have hM3 := hM2.fr F3 (fun e => hne e.symm)
  have hE0 := h.ents.pop
  have hE3 : Ents (w2.setCell ⟨a, 1, none⟩ (.int .i64 ((f : Int) + 1))) (Cs w0 O a r A1) (f + 1) t (es.eraseP fun p => p.1 == (f : Int)) :=
    ⟨hE0.nodup, fun k v hm => by obtain ⟨i, l', h1, h2, h3⟩ := hE0.sound k v hm; exact ⟨i, l', h1, h2, lift h3⟩, hE0.full, hE0.count⟩
  have hcast : ((f + 1 : Nat) : Int) = (f : Int) + 1 := by omega
  obtain ⟨x', q', ⟨B, kk, d, rfl⟩, hlook, hyes, hno⟩ := look_head hM3 hE3
  rw [hcast] at hlook hyes
  refine ⟨hW1.c3, hW1.c1, w2, hdel, hW2.c1, Blk.frozen hW2 1, by rw [msize_eq h.map_]; exact hlm, _, q', hW3.c3, hW3.c1, hlook, fun k => ⟨?_, ?_⟩⟩
  · refine ⟨A1, c1, q', f + 1, outs ++ [l], t, (es.eraseP fun p => p.1 == (f : Int)), vs ++ [x], B, kk, d, by simp, rfl, rfl, ⟨?_, by simp [h.len], ?_, ?_, ?_, ?_, ?_, ?_, ?_, ?_, ?_, ?_⟩⟩
    · have o1' : Own w1 (Ge w0.heap.size) 22 (fun _ => True) A1 ((vs ++ [x]).length * 1) (c1 * 1) (vs ++ [x]) := by simpa using hown1
      have o2 := Own.fr (w := w1.drewN 1) o1' F2 fun b _ hb e => by have := hO _ hr; have : w0.heap.size ≤ b := hb; omega
      exact (Own.fr o2 F3 fun b _ hb e => by have := hO _ ha; have : w0.heap.size ≤ b := hb; omega).drewN k
    · intro i v l' hv hl
      rcases Nat.lt_or_ge i vs.length with hi | hi
      · rw [List.getElem?_append_left hi] at hv
        rw [List.getElem?_append_left (by rw [← h.len]; exact hi)] at hl
        exact lift (h.outs_ i v l' hv hl)
      · rw [List.getElem?_append_right hi] at hv
        rw [List.getElem?_append_right (by rw [← h.len]; exact hi), ← h.len] at hl
        cases hj : i - vs.length with
        | zero => rw [hj] at hv hl; simp at hv hl; subst hv hl; exact lift hbx
        | succ j => rw [hj] at hv; simp at hv
    · rw [hcast]; exact hW3
    · exact hM3
    · exact hE3.fr ((Fr.refl No _).drewN k) fun _ _ _ hb => hb
    · rw [h.goes]; simp [rel]
    · exact h.stays
    · have := h.next; simp at this; omega
    · rw [hcast]; exact hyes
    · exact hno
    · have g1 : Fr O w0 w1 := h.fr.trans_new F1 fun b hb => .inr (hAo b hb)
      have g2 : Fr O w0 w2 := Fr.trans (T := (· = r)) (g1.drewN 1) F2 fun b _ hb => by rw [hb]; exact hr
      exact (Fr.trans (T := (· = a)) g2 F3 fun b _ hb => by rw [hb]; exact ha).drewN k
  · have e1 : msize ((w2.setCell ⟨a, 1, none⟩ (.int .i64 ((f : Int) + 1))).drewN k) r = (es.eraseP fun p => p.1 == (f : Int)).length := msize_eq (w := (w2.setCell ⟨a, 1, none⟩ (.int .i64 ((f : Int) + 1))).drewN k) hM3
    rw [e1, msize_eq h.map_]
    have := hE0.count
    have := h.ents.count
    simp at this
    omega

/-- The loop's start: behind the clone (w1) and the store into the map (w2). -/
theorem DL.start {w0 w1 w2 : World} {f : Nat} {L : List (Option Bs)} {es : List (Int × Value)} {i : Nat} {bs : Bs} {A1 : Option Addr} {c1 : Nat}
    (hO : ∀ b, O b → b < w0.heap.size) (ha : O a) (hr : O r) (hW : WinS w0 a m f nx r) (hM : MapI w0 r es) (hE : Ents w0 (fun b => O b ∧ b ≠ a ∧ b ≠ r) f L es) (hnx : (f : Int) + L.length = nx) (hi : L[i]? = some none)
    (hown1 : Own w1 (Ge w0.heap.size) 5 Byte A1 bs.length c1 (bs.map bv)) (hf1 : Fr No w0.drew w1) (hm2 : MapI w2 r (es ++ [((f : Int) + i, .slice A1 bs.length c1)])) (hf2 : Fr (· = r) w1 w2) :
    w2.cell? ⟨a, 3, none⟩ = some (.map (some r)) ∧ w2.cell? ⟨a, 1, none⟩ = some (.int .i64 f) ∧
    ∃ x q, (∀ nq, (Instr.lookup 51 (.map (some r)) (.int .i64 f) true).run Try.prog (w2.drewN nq) = .ok (.tuple #[x, .bool q]) (w2.drewN nq)) ∧
      ∀ k, DL w0 O a r m nx (rel (L.set i (some bs))) (rest (L.set i (some bs))) (.slice none 0 0) x (.bool q) (w2.drewN k) := by
  have hne : a ≠ r := hW.ne hM
  have F1 : Fr No w0 w1 := hf1.of_drew
  have hW2 : WinS w2 a m f nx r := (hW.fr F1 fun h => h).fr hf2 hne
  have old : ∀ b, b < w1.heap.size → (O b ∧ b ≠ a ∧ b ≠ r) → Cs w0 O a r none b := fun b _ ⟨h1, h2, h3⟩ => ⟨.inl h1, h2, h3, fun ⟨_, e⟩ => by cases e⟩
  have hE1 : Ents w1 (Cs w0 O a r none) f L es := (hE.fr F1 fun _ _ _ hb => hb).mono old
  have hv : BVal w1 (Cs w0 O a r none) (.slice A1 bs.length c1) bs :=
    ⟨A1, _, c1, rfl, hown1.le, Rd.mono hown1.rd fun b _ hb => ⟨.inr hb, fun e => by have := hO _ ha; have : w0.heap.size ≤ b := hb; omega, fun e => by have := hO _ hr; have : w0.heap.size ≤ b := hb; omega, fun ⟨_, e⟩ => by cases e⟩⟩
  have hE2 : Ents w2 (Cs w0 O a r none) f (L.set i (some bs)) (es ++ [((f : Int) + i, .slice A1 bs.length c1)]) := (hE1.put hi hv).fr hf2 fun b _ hb => hb.2.2.1
  obtain ⟨x, q, ⟨B, kk, d, rfl⟩, hlook, hyes, hno⟩ := look_head hm2 hE2
  refine ⟨hW2.c3, hW2.c1, _, q, hlook, fun k => ⟨none, 0, q, f, [], L.set i (some bs), _, [], B, kk, d, rfl, rfl, rfl, ⟨Own.nil _ _ _ _, rfl, by simp, hW2, hm2.drewN k, hE2.fr ((Fr.refl No _).drewN k) fun _ _ _ hb => hb, rfl, rfl, by simp [hnx], hyes, hno, ?_⟩⟩⟩
  exact (Fr.trans (T := (· = r)) (F1.of_no (S := O)) hf2 fun b _ hb => by rw [hb]; exact hr).drewN k

/-- What Done leaves, when the number is open and not yet done. -/
def DoneR (w0 : World) (O : Nat → Prop) (a : Nat) (ls : List Bs) (err : Int) (s' : OW) (e : Ending) (w' : World) : Prop :=
  ∃ A c O', e = .returned (.tuple #[.slice A ls.length c, .int .i64 err]) ∧ RdL w' O' A ls.length ls ∧ OWin w' O' a s' ∧ Fr O w0 w' ∧ ∀ b, O' b → O b ∨ (w0.heap.size ≤ b ∧ b < w'.heap.size)

/-- The loop's end. -/
theorem DL.done {w0 wr : World} {O : Nat → Prop} {a r : Nat} {most least : Nat} {s' : OW} {K : List Bs} {R : List (Option Bs)} {o x : Value} {nx : Int} (h : DL w0 O a r most nx K R o x (.bool false) wr)
    (hO : ∀ b, O b → b < w0.heap.size) (ha : O a) (hr : O r) (hm : 1 ≤ most ∧ most ≤ 64 ∧ R.length ≤ most) (h1 : 1 ≤ least) (hn : nx < 4611686018427387904) (hs : s' = ⟨most, least + K.length, R⟩) (hnx : (least + K.length + R.length : Int) = nx) :
    DoneR w0 O a K 0 s' (.returned (.tuple #[o, .int .i64 0])) wr := by
  obtain ⟨A, c, q, f, outs, L, es, vs, _, _, _, rfl, _, hq, h⟩ := h
  have hq' : q = false := by injection hq with hq; exact hq.symm
  subst hq'
  have hK : K = outs := by rw [h.goes, h.no rfl, List.append_nil]
  have hLR : L = R := by have := rel_rest L; rw [h.no rfl] at this; rw [← h.stays]; simpa using this.symm
  subst hK hLR
  have hf : f = least + K.length := by have := h.next; omega
  have hlen := h.len
  subst hf hs
  have lt : ∀ b, O b → b < wr.heap.size := fun b hb => Nat.lt_of_lt_of_le (hO b hb) h.fr.size
  refine ⟨A, c, fun b => O b ∨ (w0.heap.size ≤ b ∧ b < wr.heap.size), by rw [hlen], ?_, ⟨?_, hm, ?_, ?_, r, es, .inl ha, .inl hr, ?_, h.map_, ?_⟩, h.fr, fun b hb => hb⟩
  · refine ⟨vs, ?_, h.len, fun i v l hv hl => (h.outs_ i v l hv hl).mono fun b hb hc => ?_⟩
    · have h2 : Rd wr (Ge w0.heap.size) A vs.length vs := by simpa using h.own.rd
      rw [hlen] at h2
      exact h2.mono fun b hb hc => Or.inr ⟨hc, hb⟩
    · rcases hc.1 with hc | hc
      · exact .inl hc
      · exact .inr ⟨hc, hb⟩
  · rintro b (hb | hb)
    · exact lt b hb
    · exact hb.2
  · simp only; omega
  · simp only; omega
  · have := h.win
    rw [← hnx] at this
    exact this
  · refine h.ents.mono fun b hb hc => ⟨?_, hc.2.1, hc.2.2.1⟩
    rcases hc.1 with hc | hc
    · exact .inl hc
    · exact .inr ⟨hc, hb⟩
end
end Go.Proofs.Ytoehknanlaamlaa
