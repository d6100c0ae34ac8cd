/- The reference's Push, walked (a channel that seals). -/
import Derived.Test.YtfkkaalchffgaaaRtwo
import Derived.Test.YtfkkaalchffgaaaFeed
import Derived.Test.YtfkkaalchffgaaaPushW
import Derived.Test.YtfkkaalchffgaaaSent
namespace Go.Proofs.Ytfkkaalchffgaaa
open Go.RowKit Go.Ost

/-- What the reference's Push hands back, and which channel it leaves. -/
def RPushR (w : World) (O : Nat → Prop) (a : Nat) (seals : Bool) (r : List UInt8 × Int × PC) (e : Ending) (w' : World) : Prop :=
  ∃ A c O', e = .returned (.tuple #[.slice A r.1.length c, .int .i64 r.2.1]) ∧ RdB w' (fun y => w.heap.size ≤ y) A r.1.length r.1 ∧ RWin w' O' a seals r.2.2 ∧ (∀ b, O' b → O b ∨ w.heap.size ≤ b) ∧ Fr (· = a) w w'

/-- How many bytes are kept (the loop's measure). -/
def rkept (w : World) (a : Nat) : Nat := match w.cell? ⟨a, 1, none⟩ with | some (.slice _ n _) => n | _ => 0

section
variable {w : World} {O : Nat → Prop} {a : Nat} {s : PC} {seals : Bool}
theorem rkept_eq (h : RWin w O a seals s) : rkept w a = s.b.length := by
  obtain ⟨h0, ha, A, c, hB, _⟩ := h
  have c0 := hB.cell 1
  simp at c0
  simp [rkept, c0]

theorem rpushR_mk {w2 W : World} {O1 : Nat → Prop} {R : List UInt8 × Int × PC} {out : List UInt8} {er : Int} {s' : PC} {A3 : Option Addr} {c3 : Nat} (hR : R = (out, er, s'))
    (hown : Ost.Own W (fun y => w2.heap.size ≤ y) 5 Byte A3 out.length c3 (out.map bv)) (hS : RWin W O1 a seals s') (HO : ∀ y, O1 y → O y ∨ w.heap.size ≤ y)
    (hF : Fr (· = a) w w2) (hFr : Fr (fun y => y = a ∨ w2.heap.size ≤ y) w2 W) : RPushR w O a seals R (.returned (.tuple #[.slice A3 out.length c3, .int .i64 er])) W := by
  subst hR
  have := hF.size
  exact ⟨A3, c3, O1, rfl, hown.rd.mono (fun y _ hy => by omega), hS, HO, hF.trans hFr (fun y hy h => by rcases h with h | h; exact h; omega)⟩

set_option maxHeartbeats 4000000 in
theorem rpush_done {A : Option Addr} {n c : Nat} (h : RWin w O a seals s) (hd : s.broken = true ∨ s.ended = true) :
    Calls Try.prog 26 #[.pointer (some ⟨a, 0, none⟩), .slice A n c] w (RPushR w O a seals ([], 9, s)) := by
  have h' := h
  obtain ⟨h0, ha, A1, c1, hB, hc1, hc2, hr1⟩ := h'
  have d3 := hB.cell 3
  have d4 := hB.cell 4
  have hlt := hB.lt
  simp at d3 d4
  have fin : RPushR w O a seals ([], 9, s) (.returned (.tuple #[.slice none 0 0, .int .i64 9])) w := ⟨none, 0, O, rfl, Rd.nil _ _ _, h, fun _ h => .inl h, Fr.refl _ _⟩
  cases hb : s.broken with
  | true =>
    rw [hb] at d3
    go_enter Try.func26, Try.ntmps26
    go_wp2
    go_ret2
    exact fin
  | false =>
    have he : s.ended = true := by simpa [hb] using hd
    rw [hb] at d3
    rw [he] at d4
    go_enter Try.func26, Try.ntmps26
    go_wp2
    go_ret2
    exact fin

set_option maxRecDepth 100000 in
set_option maxHeartbeats 4000000 in
theorem rpush_go {O3 : Nat → Prop} {B : Option Addr} {d : Nat} {p : List UInt8} (h : RWin w O a true s) (hbk : s.broken = false) (hen : s.ended = false) (hr : RdB w O3 B p.length p) (hO3 : ∀ y, O3 y → y < w.heap.size)
    (hlen : s.b.length + p.length ≤ 1000000) :
    Calls Try.prog 26 #[.pointer (some ⟨a, 0, none⟩), .slice B p.length d] w (RPushR w O a true (PC.run (s.b.length + p.length + 1) { s with b := s.b ++ p } [])) := by
  obtain ⟨i0, hi, hz0, hz1, hz2⟩ := info_parts info_u8
  obtain ⟨h0, ha, A1, c1, hB, hc1, hc2, hrd⟩ := h
  have d0 := hB.cell 0
  have d1 := hB.cell 1
  have d3 := hB.cell 3
  have d4 := hB.cell 4
  have hlt := hB.lt
  rw [hbk] at d3
  rw [hen] at d4
  simp at d0 d1 d3 d4
  obtain ⟨R, hR⟩ : ∃ R, R = PC.run (s.b.length + p.length + 1) { s with b := s.b ++ p } [] := ⟨_, rfl⟩
  rw [← hR]
  have HR := hid hR
  have HB := hid hB
  have HRD := hid hrd
  have HR3 := hid hr
  clear hR hB hrd hr
  have hca : ∀ ob, (w.alloc ob).cell? ⟨a, 1, none⟩ = some (.slice A1 s.b.length c1) := fun ob => (World.cell?_alloc_lt _ _ ⟨a, 1, none⟩ hlt).trans d1
  have hAt0 : ∀ y, At (some ⟨w.heap.size, 0, none⟩) y → y = w.heap.size := fun y ⟨o, e⟩ => by injection e with e; injection e with e; exact e.symm
  go_enter Try.func26, Try.ntmps26
  go_wp2_with (first
    | (at_builtin; refine wpList_app _ rfl (.tmp 30) (.tmp 34) _ rfl 5 i0 _ 1 1 Try.underlying28 hi hz0 hz1 hz2 rfl (by omega) byte_zero (O := Ge w.heap.size) (by simp [Ge]) rfl own_lit (m := s.b.length) rfl (by rw [Nat.mul_one]; exact Rd.alloc HRD.out _) (bv_all _) (by simp only [maxLen]; omega) (by omega) ?_; intro A2 c2 w1 hown1 hf1 hcc1 hA1; go_must (have HR4 := hid (Rd.fr (Rd.alloc HR3.out _) hf1 (fun y _ h hat => by have := hO3 y h; have := hAt0 y hat; omega)); have HF1 := hid (((Fr.refl No w).alloc _).trans_new hf1 (fun y hy => .inr (by have := hAt0 y hy; omega))); have hzz1 := HF1.out.size; have HO1 : Hid (Ost.Own w1 (Ge w.heap.size) 5 Byte A2 (s.b.length * 1) (c2 * 1) (s.b.map bv)) := hid (by simpa using hown1); have HA1 := hid (fun y (hy : At A2 y) => show w.heap.size ≤ y from hown1.at_ y hy); clear hown1 hf1 hA1))
    | (at_builtin; go_must (refine wpList_app _ rfl (.tmp 35) (.tmp 36) _ rfl 5 i0 _ 1 1 Try.underlying28 hi hz0 hz1 hz2 rfl (by omega) byte_zero (O := Ge w.heap.size) (by simp only [Ge]; omega) rfl HO1.out (m := p.length) rfl (by rw [Nat.mul_one]; exact HR4.out) (bv_all _) (by simp only [maxLen]; omega) (by omega) ?_; intro A3 c3 w2 hown2 hf2 hcc2 hA3; have HF2 := hid (HF1.out.trans_new hf2 (fun y hy => .inr (HA1.out y hy))); have HO2 := hid hown2; have hcap3 := hcc2 (hcc1 (Nat.zero_le _)); have hBw := HB.out.fr HF2.out (fun h => h); have e1 := hBw.cell 1; have z1 := hBw.frozen 1; have hlw := hBw.lt; simp at e1; have HBW := hid hBw; clear hown2 hf2 hA3 hBw)))
  obtain ⟨N, hN⟩ : ∃ N, N = s.b.length + p.length := ⟨_, rfl⟩
  rw [← hN]
  have hb2 : (s.b ++ p).length = N := by rw [hN, List.length_append]
  have hw2 := HF2.out.size
  have hown : Ost.Own w2 (Ge w.heap.size) 5 Byte A3 N c3 ((s.b ++ p).map bv) := by
    have := HO2.out
    simp only [Nat.mul_one, ← List.map_append] at this
    rw [hN]; exact this
  have hfa : Fr (· = a) w2 (w2.setCell ⟨a, 1, none⟩ (.slice A3 N c3)) := (Fr.refl (· = a) w2).setCell (p := ⟨a, 1, none⟩) (.inl rfl) _
  have hAt : ∀ y, At A3 y → w.heap.size ≤ y := fun y hy => hown.at_ y hy
  have hAl : ∀ y, At A3 y → y < w2.heap.size := own_lt hown
  have hS2 : RWin (w2.setCell ⟨a, 1, none⟩ (.slice A3 N c3)) (fun y => O y ∨ At A3 y) a true { s with b := s.b ++ p } := by
    refine ⟨fun y hy => ?_, .inl ha, A3, c3, ?_, by rw [hb2]; exact hown.le, hcap3, ?_⟩
    · have := hfa.size
      rcases hy with hy | hy
      · have := h0 y hy; omega
      · have := hAl y hy; omega
    · rw [hb2]; simpa using HBW.out.set_ 1 (.slice A3 N c3)
    · rw [hb2]
      have hrd : RdB w2 (fun y => At A3 y) A3 N (s.b ++ p) := by
        have hr0 := hown.rd
        refine ⟨hr0.1, fun hn => ?_⟩
        obtain ⟨b', o', e1, _, hc'⟩ := hr0.2 hn
        exact ⟨b', o', e1, ⟨o', e1⟩, hc'⟩
      exact Rd.mono (Rd.fr hrd hfa (fun y _ hy e => by have := hAt y hy; omega)) fun y _ hy => ⟨.inr hy, fun e => by have := hAt y hy; omega⟩
  have HF := hid ((HF2.out.of_no).trans hfa (fun _ _ h => h))
  obtain ⟨O1, hO1⟩ : ∃ O1 : Nat → Prop, O1 = fun y => O y ∨ At A3 y := ⟨_, rfl⟩
  rw [← hO1] at hS2
  have HO : Hid (∀ y, O1 y → O y ∨ w.heap.size ≤ y) := fun y hy => by subst hO1; exact hy.imp id (hAt y)
  have HS := hid hS2
  clear hS2 hown hAt hAl hfa e1 z1 HBW HO2 HF2 HO1 HR4 HF1 HA1 hca hcc2 hcc1 d0 d1 d3 d4 hAt0 HR3 HRD HB hO1
  generalize (w2.setCell ⟨a, 1, none⟩ (.slice A3 N c3)) = w3 at HF HS ⊢
  have hw3 := HF.out.size
  have HLT : Hid (∀ y, O1 y → y < w3.heap.size) := HS.out.1
  have ha3 : a < w3.heap.size := by omega
  clear hw2 hzz1 hlw hb2 hN
  go_loopw [6] (fun o wr => ∃ (A3 : Option Addr) (c3 : Nat) (out : List UInt8) (s1 : PC) (f : Nat), o = .slice A3 out.length c3 ∧ Hid (Ost.Own wr (fun y => w3.heap.size ≤ y) 5 Byte A3 out.length c3 (out.map bv)) ∧ c3 ≤ maxLen ∧ Hid (RWin wr O1 a true s1) ∧
    Hid (R = if s1.ended = true then (out, 0, { s1 with b := [] }) else PC.run f s1 out) ∧ s1.b.length < f ∧ out.length + s1.b.length ≤ 1000000 ∧ Hid (Fr (fun y => y = a ∨ w3.heap.size ≤ y) w3 wr)) (fun _ wr => rkept wr a)
  case atStart => exact ⟨none, 0, [], { s with b := s.b ++ p }, s.b.length + p.length + 1, rfl, Ost.Own.nil _ _ _ _, Nat.zero_le _, HS.out, by simp only [Hid]; rw [if_neg (by simp [hen])]; exact HR.out, by simp only [List.length_append]; omega, by simp only [List.length_append, List.length_nil]; omega, Fr.refl _ _⟩
  case round =>
    clear HS HR
    obtain ⟨A3, c3, out, s1, f, rfl, hown, hc3, hS, hRR, hf, hsz, hFr⟩ := hrel
    have hS' := hS.out
    obtain ⟨_, hOa, A5, c5, hB5, hc51, hc52, hr5⟩ := hS'
    have f1 := hB5.cell 1
    have f4 := hB5.cell 4
    have y1 := hB5.frozen 1
    have hla := hB5.lt
    simp at f1 f4
    cases hend : s1.ended with
    | true =>
      rw [hend] at f4
      have hRv : R = (out, 0, { s1 with b := [] }) := by have := hRR.out; rw [if_pos hend] at this; exact this
      have hfa : Fr (· = a) wr (wr.setCell ⟨a, 1, none⟩ (.slice none 0 0)) := (Fr.refl (· = a) wr).setCell (p := ⟨a, 1, none⟩) (.inl rfl) _
      have hS5 : RWin (wr.setCell ⟨a, 1, none⟩ (.slice none 0 0)) O1 a true { s1 with b := [] } :=
        ⟨fun y hy => Nat.lt_of_lt_of_le (hS.out.1 y hy) hfa.size, hOa, none, 0, by simpa [hend] using hB5.set_ 1 (.slice none 0 0), Nat.zero_le _, Nat.zero_le _, Rd.nil _ _ _⟩
      have hm := rpushR_mk hRv (hown.out.fr hfa (fun y _ hy e => by omega)) hS5 HO.out HF.out (hFr.out.trans (hfa.mono (T := fun y => y = a ∨ w3.heap.size ≤ y) fun y _ hy => .inl hy) (fun _ _ h => h))
      have HM := hid hm
      clear hm hRv hS5
      go_wp2
      go_ret2
      exact HM.out
    | false =>
      rw [hend] at f4
      have hone := rone_any hS.out (by omega)
      have hkeep := PC.one_keeps s1
      have hnone := PC.one_none s1
      have hk1 := rkept_eq hS.out
      obtain ⟨g, rfl⟩ : ∃ g, f = g + 1 := ⟨f - 1, by omega⟩
      have hrun : R = if s1.one.2.2.1 ≠ 0 then (out, s1.one.2.2.1, { s1.one.2.2.2 with broken := true, b := [] })
        else if s1.one.2.2.2.ended then (out ++ s1.one.1, 0, { s1.one.2.2.2 with b := [] })
        else if s1.one.2.1 = 0 then (out ++ s1.one.1, 0, { s1.one.2.2.2 with b := s1.one.2.2.2.b.drop s1.one.2.1 })
        else PC.run g { s1.one.2.2.2 with b := s1.one.2.2.2.b.drop s1.one.2.1 } (out ++ s1.one.1) := by
          have := hRR.out
          rw [if_neg (by simp [hend])] at this
          exact this
      generalize s1.one = q at hone hkeep hrun hnone
      obtain ⟨x, nn, er, s2⟩ := q
      simp only at hkeep hrun hnone
      obtain ⟨kb, kn, kx, _, _, _⟩ := hkeep
      rw [← kb] at kn hsz hf hk1
      have HRUN := hid hrun
      have HK := hid hk1
      have HNONE := hid hnone
      have HEND := hid hend
      clear hrun hRR kb hk1 hnone hend f1 y1 hB5 hr5 hc51 hc52
      go_wp2_with fail
      refine hone.mono ?_
      rintro e w4 ⟨A4, n4, c4, rfl, hn4, hr4, hS3, hf3⟩
      simp only at hr4 hS3
      have hown3 := hown.out.fr hf3 (fun y _ hy e => by omega)
      have hFr3 : Fr (fun y => y = a ∨ w3.heap.size ≤ y) w3 w4 := hFr.out.trans (hf3.mono (T := fun y => y = a ∨ w3.heap.size ≤ y) fun y _ hy => .inl hy) (fun _ _ h => h)
      have hS3' := hS3
      obtain ⟨_, hOa', A5, c5, hB5, hc51, hc52, hr5⟩ := hS3'
      have f1 := hB5.cell 1
      have f3 := hB5.cell 3
      have y1 := hB5.frozen 1
      have y3 := hB5.frozen 3
      have hla4 := hB5.lt
      simp at f1 f3
      have hx : x.length = n4 := by simpa using hr4.1
      by_cases her : er = 0
      · subst her
        by_cases hnn : nn = 0
        · obtain ⟨hq, _⟩ := HNONE.out rfl hnn
          have hRv : R = (out, 0, s2) := by
            have h2 := HRUN.out
            simp only [Prod.mk.injEq] at hq
            obtain ⟨rfl, _, _, rfl⟩ := hq
            rw [if_neg (by simp), if_neg (by simp [HEND.out]), if_pos hnn, hnn] at h2
            simpa using h2
          have hbn : (nn != 0) = false := by simp [hnn]
          have hm := rpushR_mk hRv hown3 hS3 HO.out HF.out hFr3
          have HM := hid hm
          clear hm hRv hq hone
          have HNN := hid hnn
          clear hnn
          go_wp2
          go_ret2
          exact HM.out
        · have hbn : (nn != 0) = true := by simp [hnn]
          have hRv : R = if s2.ended = true then (out ++ x, 0, { s2 with b := [] }) else PC.run g { s2 with b := s2.b.drop nn } (out ++ x) := by
            have h2 := HRUN.out
            rw [if_neg (by simp)] at h2
            by_cases h3 : s2.ended = true
            · rw [if_pos h3] at h2 ⊢; exact h2
            · rw [if_neg h3, if_neg hnn] at h2; rw [if_neg h3]; exact h2
          have HRV := hid hRv
          clear hRv hone
          have HNN := hid hnn
          clear hnn
          obtain ⟨A6, hsl, hA6⟩ := slice_from (P := Try.prog) (t := 28) (s := 1) Try.underlying28 (fun w => by kernel_rfl) A5 (n := s2.b.length) (c := c5) (l := nn) kn hc51
          go_wp2_with (at_builtin; refine wpList_app _ rfl (.tmp 65) (.tmp 66) _ rfl 5 i0 _ 1 1 Try.underlying28 hi hz0 hz1 hz2 rfl (by omega) byte_zero (O := fun y => w3.heap.size ≤ y) (by have := hFr3.size; omega) rfl (by simpa using hown3) (m := n4) rfl (by rw [Nat.mul_one]; exact hr4) (bv_all _) (by simp only [maxLen]; omega) (by omega) ?_; intro A7 c7 w5 hown4 hf4 hc7 hA7; have hB6 := hB5.fr hf4 (fun hb => absurd (hown3.at_ _ hb) (Nat.not_le.2 ha3)); have p1 := hB6.cell 1; have q1 := hB6.frozen 1; have hla5 := hB6.lt; simp at p1)
          have hown5 : Ost.Own w5 (fun y => w3.heap.size ≤ y) 5 Byte A7 (out ++ x).length c7 ((out ++ x).map bv) := by rw [List.length_append, hx, List.map_append]; simpa using hown4
          have hFr4 : Fr (fun y => y = a ∨ w3.heap.size ≤ y) w3 w5 := hFr3.trans (hf4.mono (T := fun y => y = a ∨ w3.heap.size ≤ y) fun y _ hy => .inr (hown3.at_ y hy)) (fun _ _ h => h)
          have hr6 : RdB w5 (fun y => O1 y ∧ y ≠ a) A6 (s2.b.length - nn) (s2.b.drop nn) := by
            have := Rd.fr hr5 hf4 (fun y _ hy hat => by have := HLT.out y hy.1; exact absurd (hown3.at_ y hat) (Nat.not_le.2 this))
            have := rd_from this kn hA6
            rw [← List.map_drop] at this
            exact this
          have hlt4 : ∀ y, O1 y → y < w5.heap.size := fun y hy => Nat.lt_of_lt_of_le (HLT.out y hy) hFr4.size
          have hfa : Fr (· = a) w5 (w5.setCell ⟨a, 1, none⟩ (.slice A6 (s2.b.length - nn) (c5 - nn))) := (Fr.refl (· = a) w5).setCell (p := ⟨a, 1, none⟩) (.inl rfl) _
          have hS5 : RWin (w5.setCell ⟨a, 1, none⟩ (.slice A6 (s2.b.length - nn) (c5 - nn))) O1 a true { s2 with b := s2.b.drop nn } :=
            ⟨fun y hy => Nat.lt_of_lt_of_le (hlt4 y hy) hfa.size, hOa, A6, c5 - nn, by simpa [List.length_drop] using (hB6.set_ 1 (.slice A6 (s2.b.length - nn) (c5 - nn))), by rw [List.length_drop]; omega, by omega, by rw [List.length_drop]; exact Rd.fr hr6 hfa (fun y _ hy => hy.2)⟩
          have hFr5 := hFr4.trans (hfa.mono (T := fun y => y = a ∨ w3.heap.size ≤ y) fun y _ hy => .inl hy) (fun _ _ h => h)
          have hown6 := hown5.fr hfa (fun y _ hy e => by omega)
          go_roundw
          case rel => exact ⟨A7, c7, out ++ x, _, g, by rw [List.length_append, hx], hown6, hc7 hc3, hS5, HRV.out, by simp only [List.length_drop]; have := HNN.out; omega, by simp only [List.length_append, List.length_drop]; omega, hFr5⟩
          case measure => rw [rkept_eq hS5, HK.out, List.length_drop]; have := HNN.out; omega
      · have hRv : R = (out, er, { s2 with broken := true, b := [] }) := by rw [HRUN.out, if_pos her]
        have hfa : Fr (· = a) w4 ((w4.setCell ⟨a, 3, none⟩ (.bool true)).setCell ⟨a, 1, none⟩ (.slice none 0 0)) := ((Fr.refl (· = a) w4).setCell (p := ⟨a, 3, none⟩) (.inl rfl) _).setCell (p := ⟨a, 1, none⟩) (.inl rfl) _
        have hS5 : RWin ((w4.setCell ⟨a, 3, none⟩ (.bool true)).setCell ⟨a, 1, none⟩ (.slice none 0 0)) O1 a true { s2 with broken := true, b := [] } :=
          ⟨fun y hy => Nat.lt_of_lt_of_le (hS3.1 y hy) hfa.size, hOa, none, 0, by simpa using (hB5.set_ 3 (.bool true)).set_ 1 (.slice none 0 0), Nat.zero_le _, Nat.zero_le _, Rd.nil _ _ _⟩
        have hm := rpushR_mk hRv (hown3.fr hfa (fun y _ hy e => by omega)) hS5 HO.out HF.out (hFr3.trans (hfa.mono (T := fun y => y = a ∨ w3.heap.size ≤ y) fun y _ hy => .inl hy) (fun _ _ h => h))
        have HM := hid hm
        clear hm hRv hS5 hone
        have hbe : (er == 0) = false := by simpa using her
        go_wp2_with fail
        go_ret2
        exact HM.out

theorem rpush_any {O3 : Nat → Prop} {A : Option Addr} {n c : Nat} {bs : List UInt8} (h : RWin w O a true s) (hr : RdB w O3 A n bs) (hO3 : ∀ y, O3 y → y < w.heap.size) (hlen : s.b.length + n ≤ 1000000) :
    Calls Try.prog 26 #[.pointer (some ⟨a, 0, none⟩), .slice A n c] w (RPushR w O a true (s.push bs)) := by
  have hl : bs.length = n := by simpa using hr.1
  subst hl
  unfold PC.push
  by_cases hd : s.broken = true ∨ s.ended = true
  · rw [if_pos hd]
    exact rpush_done h hd
  · rw [if_neg hd]
    simp only [not_or, Bool.not_eq_true] at hd
    exact rpush_go h hd.1 hd.2 hr hO3 hlen
end
end Go.Proofs.Ytfkkaalchffgaaa
