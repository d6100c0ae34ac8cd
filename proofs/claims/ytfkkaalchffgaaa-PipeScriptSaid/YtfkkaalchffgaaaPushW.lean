/- sealed.Push, walked. -/
import Derived.Test.YtfkkaalchffgaaaPush
namespace Go.Proofs.Ytfkkaalchffgaaa
open Go.RowKit Go.Ost

theorem rd_from {w : World} {O : Nat → Prop} {A A' : Option Addr} {n l : Nat} {vs : List Value} (h : Rd w O A n vs) (hl : l ≤ n) (hA : l < n → A' = A.map (·.add (l * 1))) : Rd w O A' (n - l) (vs.drop l) := by
  refine ⟨by rw [List.length_drop, h.1], fun hn => ?_⟩
  obtain ⟨b, o, rfl, hb, hc⟩ := h.2 (by omega)
  refine ⟨b, o + l, ?_, hb, fun j v hv => ?_⟩
  · rw [hA (by omega), Option.map_some, Nat.mul_one, add_lit_none]
  · rw [Nat.add_assoc]
    exact hc _ v (by rw [← hv, List.getElem?_drop])

theorem pushR_mk {w w2 W : World} {O O1 : Nat → Prop} {a : Nat} {R : List UInt8 × Int × PC} {out : List UInt8} {er : Int} {s' : PC} {A3 : Option Addr} {c3 : Nat} (hR : R = (out, er, s'))
    (hown : Ost.Own W (fun y => w2.heap.size ≤ y) 5 Byte A3 out.length c3 (out.map bv)) (hc3 : c3 ≤ maxLen) (hS : SWin W O1 a s') (HO : ∀ y, O1 y → O y ∨ w.heap.size ≤ y) (HLT : ∀ y, O1 y → y < w2.heap.size)
    (hF : Fr (· = a) w w2) (hFr : Fr (fun y => y = a ∨ w2.heap.size ≤ y) w2 W) : PushR w O a R (.returned (.tuple #[.slice A3 out.length c3, .int .i64 er])) W := by
  subst hR
  have := hF.size
  exact ⟨A3, c3, O1, rfl, hown.mono (fun y _ hy => ⟨by omega, fun h => by have := HLT y h; omega⟩), hc3, hS, HO, hF.trans hFr (fun y hy h => by rcases h with h | h; exact h; omega)⟩

section
variable {w : World} {O : Nat → Prop} {a : Nat} {s : PC}
set_option maxRecDepth 100000 in
set_option maxHeartbeats 4000000 in
theorem push_go {O2 : Nat → Prop} {A : Option Addr} {c : Nat} {bs : List UInt8} (h : SWin w O a s) (hbk : s.broken = false) (hen : s.ended = false) (hr : RdB w O2 A bs.length bs) (hnc : bs.length ≤ c)
    (hlen : s.b.length + bs.length ≤ 1000000) :
    Calls Try.prog 53 #[.pointer (some ⟨a, 0, none⟩), .slice A bs.length c] w (PushR w O a (PC.run (s.b.length + bs.length + 1) { s with b := s.b ++ bs } [])) := by
  obtain ⟨i0, hi, hz0, hz1, hz2⟩ := info_parts info_u8
  have h' := h
  obtain ⟨h0, ha, A1, c1, hB, hc1, hc2, hr1⟩ := h'
  have d0 := hB.cell 0
  have d2 := hB.cell 2
  have d3 := hB.cell 3
  have hlt := hB.lt
  rw [hbk] at d3
  rw [hen] at d2
  simp at d0 d2 d3
  obtain ⟨R, hR⟩ : ∃ R, R = PC.run (s.b.length + bs.length + 1) { s with b := s.b ++ bs } [] := ⟨_, rfl⟩
  rw [← hR]
  have HR := hid hR
  clear hR
  go_enter Try.func53, Try.ntmps53
  go_wp2_with fail
  have h3 := rdl_two (t := 55) (Rd.val (c := c1) hr1 hc1) (Rd.val (c := c) hr hnc)
  refine (concat_rec (c := 2) h3 (by omega) (by simp; omega)).mono ?_
  rintro e w1 ⟨A2, c2, rfl, hown, hc2', hf1⟩
  have hB1 := (hB.alloc (.cells #[.slice A1 s.b.length c1, .slice A bs.length c] 55)).fr hf1 (fun h => h)
  have e0 := hB1.cell 0
  have z0 := hB1.frozen 0
  simp at e0
  have hfl : ([s.b, bs] : List (List UInt8)).flatten = s.b ++ bs := by simp
  rw [hfl] at hown ⊢
  go_wp2_with fail
  have zz := hf1.size
  have zb : w.heap.size ≤ w1.heap.size := by have := World.size_alloc w (.cells #[.slice A1 s.b.length c1, .slice A bs.length c] 55); omega
  have hlt1 := hB1.lt
  have hAt : ∀ y, At A2 y → w.heap.size ≤ y := fun y hy => by have := hown.at_ y hy; simp only [Ge, World.size_alloc] at this; omega
  have hll : (s.b ++ bs).length = s.b.length + bs.length := List.length_append
  obtain ⟨O1, hO1⟩ : ∃ O1 : Nat → Prop, O1 = fun y => O y ∨ At A2 y := ⟨_, rfl⟩
  have hS2 : SWin (w1.setCell ⟨a, 0, none⟩ (.slice A2 (s.b.length + bs.length) c2)) O1 a { s with b := s.b ++ bs } := by
    have hfa : Fr (· = a) w1 (w1.setCell ⟨a, 0, none⟩ (.slice A2 (s.b.length + bs.length) c2)) := (Fr.refl (· = a) w1).setCell (p := ⟨a, 0, none⟩) (.inl rfl) _
    subst hO1
    refine ⟨fun y hy => ?_, .inl ha, A2, c2, ?_, hown.le, hc2', ?_⟩
    · rcases hy with hy | hy
      · exact Nat.lt_of_lt_of_le (h0 y hy) (Nat.le_trans zb hfa.size)
      · rcases hown.2 with ⟨e1, _⟩ | ⟨b', ts, e1, _, hb', _⟩
        · obtain ⟨o, e2⟩ := hy; rw [e1] at e2; cases e2
        · obtain ⟨o, e2⟩ := hy; rw [e1] at e2; injection e2 with e2; injection e2 with e2; rw [← e2]; exact Nat.lt_of_lt_of_le hb'.lt hfa.size
    · have := hB1.set_ 0 (.slice A2 (s.b.length + bs.length) c2)
      simpa [hbk, hen] using this
    · have hrd : RdB w1 (fun y => At A2 y) A2 (s.b ++ bs).length (s.b ++ bs) := by
        have hr0 := hown.rd
        refine ⟨hr0.1, fun hn => ?_⟩
        obtain ⟨b', o', e1, _, hc'⟩ := hr0.2 hn
        exact ⟨b', o', e1, ⟨o', e1⟩, hc'⟩
      have hrd2 := Rd.fr hrd hfa (fun y _ hy e => by have := hAt y hy; omega)
      exact Rd.mono hrd2 fun y _ hy => ⟨.inr hy, fun e => by have := hAt y hy; omega⟩
  have hF2 : Fr (· = a) w (w1.setCell ⟨a, 0, none⟩ (.slice A2 (s.b.length + bs.length) c2)) :=
    ((((Fr.refl (· = a) w).alloc _).trans_no hf1).setCell (p := ⟨a, 0, none⟩) (.inl rfl) _)
  have HF := hid hF2
  have HAT := hid hAt
  have HO : Hid (∀ y, O1 y → O y ∨ w.heap.size ≤ y) := fun y hy => by subst hO1; exact hy.imp id (hAt y)
  have HS := hid hS2
  clear hF2 hAt hS2 hown hf1 e0 z0 hB1 h3 d0 d2 d3 hr hr1 hB
  generalize (w1.setCell ⟨a, 0, none⟩ (.slice A2 (s.b.length + bs.length) c2)) = w2 at HF HS ⊢
  clear hO1 HAT hll zz zb hlt1
  have hw2 := HF.out.size
  have HLT : Hid (∀ y, O1 y → y < w2.heap.size) := HS.out.1
  have ha2 : a < w2.heap.size := by omega
  go_loopw [6] (fun o wr => ∃ (A3 : Option Addr) (c3 : Nat) (out : List UInt8) (s1 : PC) (f : Nat), o = .slice A3 out.length c3 ∧ Hid (Ost.Own wr (fun y => w2.heap.size ≤ y) 5 Byte A3 out.length c3 (out.map bv)) ∧ c3 ≤ maxLen ∧ SWin wr O1 a s1 ∧
    Hid (R = PC.run f s1 out) ∧ s1.b.length < f ∧ out.length + s1.b.length ≤ 1000000 ∧ Hid (Fr (fun y => y = a ∨ w2.heap.size ≤ y) w2 wr)) (fun _ wr => kept wr a)
  case atStart => exact ⟨none, 0, [], _, _, rfl, Ost.Own.nil _ _ _ _, Nat.zero_le _, HS, HR, by simp only [List.length_append]; omega, by simp only [List.length_append, List.length_nil]; omega, Fr.refl _ _⟩
  case round =>
    obtain ⟨A3, c3, out, s1, f, rfl, hown, hc3, hS, hRR, hf, hsz, hFr⟩ := hrel
    clear HS HR
    have hone := one_any hS (by omega)
    have hkeep := PC.one_keeps s1
    have hk1 := kept_eq hS
    obtain ⟨g, rfl⟩ : ∃ g, f = g + 1 := ⟨f - 1, by omega⟩
    have hrun : R = if s1.one.2.2.1 ≠ 0 then (out, s1.one.2.2.1, { s1.one.2.2.2 with broken := true, b := [] })
      else if s1.one.2.2.2.ended then (out ++ s1.one.1, 0, { s1.one.2.2.2 with b := [] })
      else if s1.one.2.1 = 0 then (out ++ s1.one.1, 0, { s1.one.2.2.2 with b := s1.one.2.2.2.b.drop s1.one.2.1 })
      else PC.run g { s1.one.2.2.2 with b := s1.one.2.2.2.b.drop s1.one.2.1 } (out ++ s1.one.1) := hRR.out
    generalize s1.one = q at hone hkeep hrun
    obtain ⟨x, nn, er, s2⟩ := q
    simp only at hkeep hrun
    obtain ⟨kb, kn, kx, _, _, _⟩ := hkeep
    rw [← kb] at kn hsz hf hk1
    have HRUN := hid hrun
    have HK := hid hk1
    clear hrun hRR kb hk1
    go_wp2_with fail
    refine hone.mono ?_
    rintro e w3 ⟨A4, n4, c4, rfl, hn4, hr4, hS3, hf3⟩
    simp only at hr4 hS3
    have hown3 := hown.out.fr hf3 (fun y _ hy e => by omega)
    have hFr3 : Fr (fun y => y = a ∨ w2.heap.size ≤ y) w2 w3 := hFr.out.trans (hf3.mono (T := fun y => y = a ∨ w2.heap.size ≤ y) fun y _ hy => .inl hy) (fun _ _ h => h)
    have hS3' := hS3
    obtain ⟨_, hOa, A5, c5, hB5, hc51, hc52, hr5⟩ := hS3'
    have f0 := hB5.cell 0
    have f2 := hB5.cell 2
    have f3 := hB5.cell 3
    have z0 := hB5.frozen 0
    have z3 := hB5.frozen 3
    simp at f0 f2 f3
    have hx : x.length = n4 := by simpa using hr4.1
    by_cases her : er = 0
    · subst her
      have hRv : R = if s2.ended then (out ++ x, 0, { s2 with b := [] })
        else if nn = 0 then (out ++ x, 0, { s2 with b := s2.b.drop nn })
        else PC.run g { s2 with b := s2.b.drop nn } (out ++ x) := by rw [HRUN.out, if_neg (by simp)]
      have HRV := hid hRv
      clear hRv hone
      obtain ⟨A6, hsl, hA6⟩ := slice_from (P := Try.prog) (t := 55) (s := 1) Try.underlying55 (fun w => by kernel_rfl) A5 (n := s2.b.length) (c := c5) (l := nn) kn hc51
      cases hend : s2.ended with
      | true =>
        by_cases hnn : nn = 0
        · rw [hend] at f2
          have hb0 : ((nn : Int) == 0) = true := by simp [hnn]
          have hRv2 : R = (out ++ x, 0, { s2 with b := [] }) := by have := HRV.out; rw [if_pos hend] at this; exact this
          have HRV2 := hid hRv2
          clear hRv2
          have HNN := hid hnn
          clear hnn
          go_wp2_with (at_builtin; refine wpList_app _ rfl (.tmp 46) (.tmp 47) _ rfl 5 i0 _ 1 1 Try.underlying28 hi hz0 hz1 hz2 rfl (by omega) byte_zero (O := fun y => w2.heap.size ≤ y) (by have := hFr3.size; omega) rfl (by simpa using hown3) (m := n4) rfl (by rw [Nat.mul_one]; exact hr4) (bv_all _) (by simp only [maxLen]; omega) (by omega) ?_; intro A7 c7 w4 hown4 hf4 hc7 hA7; have hB6 := hB5.fr hf4 (fun hb => absurd (hown3.at_ _ hb) (Nat.not_le.2 ha2)); have p0 := hB6.cell 0; have p2 := hB6.cell 2; have y0 := hB6.frozen 0; simp at p0 p2)
          have hown5 : Ost.Own w4 (fun y => w2.heap.size ≤ y) 5 Byte A7 (out ++ x).length c7 ((out ++ x).map bv) := by rw [List.length_append, hx, List.map_append]; simpa using hown4
          have hFr4 : Fr (fun y => y = a ∨ w2.heap.size ≤ y) w2 w4 := hFr3.trans (hf4.mono (T := fun y => y = a ∨ w2.heap.size ≤ y) fun y _ hy => .inr (hown3.at_ y hy)) (fun _ _ h => h)
          have hr6 : RdB w4 (fun y => O1 y ∧ y ≠ a) A6 (s2.b.length - nn) (s2.b.drop nn) := by
            have := Rd.fr hr5 hf4 (fun y _ hy hat => by have := HLT.out y hy.1; exact absurd (hown3.at_ y hat) (Nat.not_le.2 this))
            have := rd_from this kn hA6
            rw [← List.map_drop] at this
            exact this
          have hlt4 : ∀ y, O1 y → y < w4.heap.size := fun y hy => Nat.lt_of_lt_of_le (HLT.out y hy) hFr4.size
          have hfa : Fr (· = a) w4 ((w4.setCell ⟨a, 0, none⟩ (.slice A6 (s2.b.length - nn) (c5 - nn))).setCell ⟨a, 0, none⟩ (.slice none 0 0)) := ((Fr.refl (· = a) w4).setCell (p := ⟨a, 0, none⟩) (.inl rfl) _).setCell (p := ⟨a, 0, none⟩) (.inl rfl) _
          have hS5 : SWin ((w4.setCell ⟨a, 0, none⟩ (.slice A6 (s2.b.length - nn) (c5 - nn))).setCell ⟨a, 0, none⟩ (.slice none 0 0)) O1 a { s2 with b := [] } :=
            ⟨fun y hy => Nat.lt_of_lt_of_le (hlt4 y hy) hfa.size, hOa, none, 0, by simpa [hend] using (hB6.set_ 0 (.slice A6 (s2.b.length - nn) (c5 - nn))).set_ 0 (.slice none 0 0), Nat.zero_le _, Nat.zero_le _, Rd.nil _ _ _⟩
          have hFr5 := hFr4.trans (hfa.mono (T := fun y => y = a ∨ w2.heap.size ≤ y) fun y _ hy => .inl hy) (fun _ _ h => h)
          have hown6 := hown5.fr hfa (fun y _ hy e => by omega)
          have hm := pushR_mk HRV2.out hown6 (hc7 hc3) hS5 HO.out HLT.out HF.out hFr5
          rw [List.length_append, hx] at hm
          go_ret2
          exact hm
        · rw [hend] at f2
          have hb0 : ((nn : Int) == 0) = false := by simp; omega
          have hRv2 : R = (out ++ x, 0, { s2 with b := [] }) := by have := HRV.out; rw [if_pos hend] at this; exact this
          have HRV2 := hid hRv2
          clear hRv2
          have HNN := hid hnn
          clear hnn
          go_wp2_with (at_builtin; refine wpList_app _ rfl (.tmp 46) (.tmp 47) _ rfl 5 i0 _ 1 1 Try.underlying28 hi hz0 hz1 hz2 rfl (by omega) byte_zero (O := fun y => w2.heap.size ≤ y) (by have := hFr3.size; omega) rfl (by simpa using hown3) (m := n4) rfl (by rw [Nat.mul_one]; exact hr4) (bv_all _) (by simp only [maxLen]; omega) (by omega) ?_; intro A7 c7 w4 hown4 hf4 hc7 hA7; have hB6 := hB5.fr hf4 (fun hb => absurd (hown3.at_ _ hb) (Nat.not_le.2 ha2)); have p0 := hB6.cell 0; have p2 := hB6.cell 2; have y0 := hB6.frozen 0; simp at p0 p2)
          have hown5 : Ost.Own w4 (fun y => w2.heap.size ≤ y) 5 Byte A7 (out ++ x).length c7 ((out ++ x).map bv) := by rw [List.length_append, hx, List.map_append]; simpa using hown4
          have hFr4 : Fr (fun y => y = a ∨ w2.heap.size ≤ y) w2 w4 := hFr3.trans (hf4.mono (T := fun y => y = a ∨ w2.heap.size ≤ y) fun y _ hy => .inr (hown3.at_ y hy)) (fun _ _ h => h)
          have hr6 : RdB w4 (fun y => O1 y ∧ y ≠ a) A6 (s2.b.length - nn) (s2.b.drop nn) := by
            have := Rd.fr hr5 hf4 (fun y _ hy hat => by have := HLT.out y hy.1; exact absurd (hown3.at_ y hat) (Nat.not_le.2 this))
            have := rd_from this kn hA6
            rw [← List.map_drop] at this
            exact this
          have hlt4 : ∀ y, O1 y → y < w4.heap.size := fun y hy => Nat.lt_of_lt_of_le (HLT.out y hy) hFr4.size
          have hfa : Fr (· = a) w4 ((w4.setCell ⟨a, 0, none⟩ (.slice A6 (s2.b.length - nn) (c5 - nn))).setCell ⟨a, 0, none⟩ (.slice none 0 0)) := ((Fr.refl (· = a) w4).setCell (p := ⟨a, 0, none⟩) (.inl rfl) _).setCell (p := ⟨a, 0, none⟩) (.inl rfl) _
          have hS5 : SWin ((w4.setCell ⟨a, 0, none⟩ (.slice A6 (s2.b.length - nn) (c5 - nn))).setCell ⟨a, 0, none⟩ (.slice none 0 0)) O1 a { s2 with b := [] } :=
            ⟨fun y hy => Nat.lt_of_lt_of_le (hlt4 y hy) hfa.size, hOa, none, 0, by simpa [hend] using (hB6.set_ 0 (.slice A6 (s2.b.length - nn) (c5 - nn))).set_ 0 (.slice none 0 0), Nat.zero_le _, Nat.zero_le _, Rd.nil _ _ _⟩
          have hFr5 := hFr4.trans (hfa.mono (T := fun y => y = a ∨ w2.heap.size ≤ y) fun y _ hy => .inl hy) (fun _ _ h => h)
          have hown6 := hown5.fr hfa (fun y _ hy e => by omega)
          have hm := pushR_mk HRV2.out hown6 (hc7 hc3) hS5 HO.out HLT.out HF.out hFr5
          rw [List.length_append, hx] at hm
          go_ret2
          exact hm
      | false =>
        by_cases hnn : nn = 0
        · rw [hend] at f2
          have hb0 : ((nn : Int) == 0) = true := by simp [hnn]
          have hRv2 : R = (out ++ x, 0, { s2 with b := s2.b.drop nn }) := by have := HRV.out; rw [if_neg (by simp [hend]), if_pos hnn] at this; exact this
          have HRV2 := hid hRv2
          clear hRv2
          have HNN := hid hnn
          clear hnn
          go_wp2_with (at_builtin; refine wpList_app _ rfl (.tmp 46) (.tmp 47) _ rfl 5 i0 _ 1 1 Try.underlying28 hi hz0 hz1 hz2 rfl (by omega) byte_zero (O := fun y => w2.heap.size ≤ y) (by have := hFr3.size; omega) rfl (by simpa using hown3) (m := n4) rfl (by rw [Nat.mul_one]; exact hr4) (bv_all _) (by simp only [maxLen]; omega) (by omega) ?_; intro A7 c7 w4 hown4 hf4 hc7 hA7; have hB6 := hB5.fr hf4 (fun hb => absurd (hown3.at_ _ hb) (Nat.not_le.2 ha2)); have p0 := hB6.cell 0; have p2 := hB6.cell 2; have y0 := hB6.frozen 0; simp at p0 p2)
          have hown5 : Ost.Own w4 (fun y => w2.heap.size ≤ y) 5 Byte A7 (out ++ x).length c7 ((out ++ x).map bv) := by rw [List.length_append, hx, List.map_append]; simpa using hown4
          have hFr4 : Fr (fun y => y = a ∨ w2.heap.size ≤ y) w2 w4 := hFr3.trans (hf4.mono (T := fun y => y = a ∨ w2.heap.size ≤ y) fun y _ hy => .inr (hown3.at_ y hy)) (fun _ _ h => h)
          have hr6 : RdB w4 (fun y => O1 y ∧ y ≠ a) A6 (s2.b.length - nn) (s2.b.drop nn) := by
            have := Rd.fr hr5 hf4 (fun y _ hy hat => by have := HLT.out y hy.1; exact absurd (hown3.at_ y hat) (Nat.not_le.2 this))
            have := rd_from this kn hA6
            rw [← List.map_drop] at this
            exact this
          have hlt4 : ∀ y, O1 y → y < w4.heap.size := fun y hy => Nat.lt_of_lt_of_le (HLT.out y hy) hFr4.size
          have hfa : Fr (· = a) w4 (w4.setCell ⟨a, 0, none⟩ (.slice A6 (s2.b.length - nn) (c5 - nn))) := (Fr.refl (· = a) w4).setCell (p := ⟨a, 0, none⟩) (.inl rfl) _
          have hS5 : SWin (w4.setCell ⟨a, 0, none⟩ (.slice A6 (s2.b.length - nn) (c5 - nn))) O1 a { s2 with b := s2.b.drop nn } :=
            ⟨fun y hy => Nat.lt_of_lt_of_le (hlt4 y hy) hfa.size, hOa, A6, c5 - nn, by simpa [hend, List.length_drop] using (hB6.set_ 0 (.slice A6 (s2.b.length - nn) (c5 - nn))), by rw [List.length_drop]; omega, by omega, by rw [List.length_drop]; exact Rd.fr hr6 hfa (fun y _ hy => hy.2)⟩
          have hFr5 := hFr4.trans (hfa.mono (T := fun y => y = a ∨ w2.heap.size ≤ y) fun y _ hy => .inl hy) (fun _ _ h => h)
          have hown6 := hown5.fr hfa (fun y _ hy e => by omega)
          have hm := pushR_mk HRV2.out hown6 (hc7 hc3) hS5 HO.out HLT.out HF.out hFr5
          rw [List.length_append, hx] at hm
          go_ret2
          exact hm
        · rw [hend] at f2
          have hb0 : ((nn : Int) == 0) = false := by simp; omega
          have hRv2 : R = PC.run g { s2 with b := s2.b.drop nn } (out ++ x) := by have := HRV.out; rw [if_neg (by simp [hend]), if_neg hnn] at this; exact this
          have HRV2 := hid hRv2
          clear hRv2
          have HNN := hid hnn
          clear hnn
          go_wp2_with (at_builtin; refine wpList_app _ rfl (.tmp 46) (.tmp 47) _ rfl 5 i0 _ 1 1 Try.underlying28 hi hz0 hz1 hz2 rfl (by omega) byte_zero (O := fun y => w2.heap.size ≤ y) (by have := hFr3.size; omega) rfl (by simpa using hown3) (m := n4) rfl (by rw [Nat.mul_one]; exact hr4) (bv_all _) (by simp only [maxLen]; omega) (by omega) ?_; intro A7 c7 w4 hown4 hf4 hc7 hA7; have hB6 := hB5.fr hf4 (fun hb => absurd (hown3.at_ _ hb) (Nat.not_le.2 ha2)); have p0 := hB6.cell 0; have p2 := hB6.cell 2; have y0 := hB6.frozen 0; simp at p0 p2)
          have hown5 : Ost.Own w4 (fun y => w2.heap.size ≤ y) 5 Byte A7 (out ++ x).length c7 ((out ++ x).map bv) := by rw [List.length_append, hx, List.map_append]; simpa using hown4
          have hFr4 : Fr (fun y => y = a ∨ w2.heap.size ≤ y) w2 w4 := hFr3.trans (hf4.mono (T := fun y => y = a ∨ w2.heap.size ≤ y) fun y _ hy => .inr (hown3.at_ y hy)) (fun _ _ h => h)
          have hr6 : RdB w4 (fun y => O1 y ∧ y ≠ a) A6 (s2.b.length - nn) (s2.b.drop nn) := by
            have := Rd.fr hr5 hf4 (fun y _ hy hat => by have := HLT.out y hy.1; exact absurd (hown3.at_ y hat) (Nat.not_le.2 this))
            have := rd_from this kn hA6
            rw [← List.map_drop] at this
            exact this
          have hlt4 : ∀ y, O1 y → y < w4.heap.size := fun y hy => Nat.lt_of_lt_of_le (HLT.out y hy) hFr4.size
          have hfa : Fr (· = a) w4 (w4.setCell ⟨a, 0, none⟩ (.slice A6 (s2.b.length - nn) (c5 - nn))) := (Fr.refl (· = a) w4).setCell (p := ⟨a, 0, none⟩) (.inl rfl) _
          have hS5 : SWin (w4.setCell ⟨a, 0, none⟩ (.slice A6 (s2.b.length - nn) (c5 - nn))) O1 a { s2 with b := s2.b.drop nn } :=
            ⟨fun y hy => Nat.lt_of_lt_of_le (hlt4 y hy) hfa.size, hOa, A6, c5 - nn, by simpa [hend, List.length_drop] using (hB6.set_ 0 (.slice A6 (s2.b.length - nn) (c5 - nn))), by rw [List.length_drop]; omega, by omega, by rw [List.length_drop]; exact Rd.fr hr6 hfa (fun y _ hy => hy.2)⟩
          have hFr5 := hFr4.trans (hfa.mono (T := fun y => y = a ∨ w2.heap.size ≤ y) fun y _ hy => .inl hy) (fun _ _ h => h)
          have hown6 := hown5.fr hfa (fun y _ hy e => by omega)
          go_roundw
          case rel => exact ⟨A7, c7, out ++ x, _, g, by rw [List.length_append, hx], hown6, hc7 hc3, hS5, HRV2.out, by simp only [List.length_drop]; have := HNN.out; omega, by simp only [List.length_append, List.length_drop]; omega, hFr5⟩
          case measure => rw [kept_eq hS5, HK.out, List.length_drop]; have := HNN.out; omega
    · have hRv : R = (out, er, { s2 with broken := true, b := [] }) := by rw [HRUN.out, if_pos her]
      have HRV := hid hRv
      clear hRv hone
      have hbe : (er == 0) = false := by simpa using her
      go_wp2_with fail
      have hfa : Fr (· = a) w3 ((w3.setCell ⟨a, 3, none⟩ (.bool true)).setCell ⟨a, 0, none⟩ (.slice none 0 0)) := ((Fr.refl (· = a) w3).setCell (p := ⟨a, 3, none⟩) (.inl rfl) _).setCell (p := ⟨a, 0, none⟩) (.inl rfl) _
      go_ret2
      refine pushR_mk HRV.out (hown3.fr hfa (fun y _ hy e => by omega)) hc3 ?_ HO.out HLT.out HF.out (hFr3.trans (hfa.mono (T := fun y => y = a ∨ w2.heap.size ≤ y) fun y _ hy => .inl hy) (fun _ _ h => h))
      exact ⟨fun y hy => Nat.lt_of_lt_of_le (hS3.1 y hy) hfa.size, hOa, none, 0, by simpa using (hB5.set_ 3 (.bool true)).set_ 0 (.slice none 0 0), Nat.zero_le _, Nat.zero_le _, Rd.nil _ _ _⟩

theorem push_any {O2 : Nat → Prop} {A : Option Addr} {n c : Nat} {bs : List UInt8} (h : SWin w O a s) (hr : RdB w O2 A n bs) (hnc : n ≤ c) (hlen : s.b.length + n ≤ 1000000) :
    Calls Try.prog 53 #[.pointer (some ⟨a, 0, none⟩), .slice A n c] w (PushR w O a (s.push bs)) := by
  have hl : bs.length = n := by simpa using hr.1
  subst hl
  unfold PC.push
  by_cases hd : s.broken = true ∨ s.ended = true
  · rw [if_pos hd]
    exact push_done h hd
  · rw [if_neg hd]
    simp only [not_or, Bool.not_eq_true] at hd
    exact push_go h hd.1 hd.2 hr hnc hlen
end
end Go.Proofs.Ytfkkaalchffgaaa
