/- The reference's Reader.Push, walked. -/
import Derived.Test.YtpbgcjknhegnmaaDoorRfrm
import Derived.Great.BuildSlice
namespace Go.Proofs.YtpbgcjknhegnmaaDoor
open Go.RowKit Go.Ost

theorem fill_one (A9 : Option Addr) (n c9 : Nat) : ((Value.slice A9 n c9).cells.size = 1 ∧ (Value.slice A9 n c9).cells.size ≤ 1) ∧
    Array.foldl (fun cs x => cs.setIfInBounds x.snd x.fst)
        (Array.map (fun x => (Value.slice none 0 0).cells[x % (Value.slice none 0 0).cells.size]!) (Array.range 1))
        (Value.slice A9 n c9).cells.zipIdx 0 (Value.slice A9 n c9).cells.size =
      #[Value.slice A9 n c9] := by
  have h : ∀ A n c, (Value.slice A n c).cells = #[Value.slice A n c] := fun A n c => by simp [Value.cells]
  rw [h, h]
  refine ⟨by simp, ?_⟩
  have e : (Array.map (fun x => (#[Value.slice none 0 0] : Array Value)[x % (#[Value.slice none 0 0] : Array Value).size]!) (Array.range 1)) = #[Value.slice none 0 0] := by kernel_rfl
  rw [e]
  rfl

/-- What the reference's Push hands back, and which reader it leaves. -/
def RPushR (w : World) (O : Nat → Prop) (a : Nat) (r : List (List UInt8) × Int × FC) (e : Ending) (w' : World) : Prop :=
  ∃ A c O', e = .returned (.tuple #[.slice A r.1.length c, .int .i64 r.2.1]) ∧ RdL w' (fun y => w.heap.size ≤ y ∧ ¬ O' y) A r.1.length r.1 ∧ RFw w' O' a r.2.2 ∧ (∀ y, O' y → O y ∨ w.heap.size ≤ y) ∧ Fr (fun y => y = a) w w'

section
variable {w : World} {O : Nat → Prop} {a : Nat} {s : FC}
theorem rfpush_broken {A : Option Addr} {n c : Nat} {p : List UInt8} (h : RFw w O a s) (hb : s.broken = true) :
    Calls Tryd.prog 24 #[.pointer (some ⟨a, 0, none⟩), .slice A n c] w (RPushR w O a (s.push p)) := by
  have h' := h
  obtain ⟨h0, ha, A1, c1, hB, hc1, hc2, hr⟩ := h'
  have c2 := hB.cell 2
  have hlt := hB.lt
  rw [hb] at c2
  simp at c2
  have e : s.push p = ([], 9, s) := by unfold FC.push; rw [if_pos hb]
  rw [e]
  go_enter Tryd.func24, Tryd.ntmps24
  go_wp2
  go_ret2
  exact ⟨none, 0, O, rfl, ⟨[], Rd.nil _ _ _, rfl, fun i v l hv => by simp at hv⟩, h, fun y hy => .inl hy, Fr.refl _ _⟩

/-- The blocks of the bytes that are gone through. -/
def Mid (lo hi : Nat) (y : Nat) : Prop := lo ≤ y ∧ y < hi

theorem rpushR_mk {wf : World} {PR : List (List UInt8) × Int × FC} {out : List (List UInt8)} {er : Int} {s' : FC} {vs : List Value} {A7 : Option Addr} {c7 D : Nat} {E O' : Nat → Prop} (hPR : PR = (out, er, s')) (hown : Ost.Own wf (At A7) 22 (fun _ => True) A7 vs.length c7 vs) (hpcs : Pcs wf E vs out)
    (hA7 : ∀ y, At A7 y → D ≤ y) (hE : ∀ y, E y → D ≤ y) (hRF : RFw wf O' a s') (hO' : ∀ y, O' y → y < D ∧ (O y ∨ w.heap.size ≤ y)) (hw : w.heap.size ≤ D) (hF : Fr (fun y => y = a) w wf) : RPushR w O a PR (.returned (.tuple #[.slice A7 vs.length c7, .int .i64 er])) wf := by
  subst hPR
  have hl : vs.length = out.length := hpcs.1
  refine ⟨A7, c7, O', by rw [hl], ?_, hRF, fun y hy => (hO' y hy).2, hF⟩
  show RdL wf _ A7 out.length out
  rw [← hl]
  exact hpcs.rdl hown.rd (fun y hy => ⟨by have := hE y hy; omega, fun h => by have := hE y hy; have := (hO' y h).1; omega⟩) (fun y hy => ⟨by have := hA7 y hy; omega, fun h => by have := hA7 y hy; have := (hO' y h).1; omega⟩)

set_option maxRecDepth 100000 in
set_option maxHeartbeats 8000000 in
theorem rfpush_go {O3 : Nat → Prop} {B : Option Addr} {d : Nat} {p : List UInt8} (h : RFw w O a s) (hbk : s.broken = false) (herr : s.err = 0) (hr : RdB w O3 B p.length p) (hO3 : ∀ y, O3 y → y < w.heap.size) (hs : s.b.length + p.length ≤ 1000000) :
    Calls Tryd.prog 24 #[.pointer (some ⟨a, 0, none⟩), .slice B p.length d] w (RPushR w O a (s.push p)) := by
  obtain ⟨i0, hi, hz0, hz1, hz2⟩ := info_parts info_u8
  obtain ⟨i1, hi1, hy0, hy1, hy2⟩ := info_parts info_bs
  obtain ⟨h0, ha, A1, c1, hB, hc1, hc2, hrd⟩ := h
  have d1 := hB.cell 1
  have d2 := hB.cell 2
  have hlt := hB.lt
  rw [hbk] at d2
  simp at d1 d2
  obtain ⟨R, hR⟩ : ∃ R, R = FC.run (s.b.length + p.length + 1) { s with b := s.b ++ p } [] := ⟨_, rfl⟩
  have hP : s.push p = if R.2.err = 0 then (R.1, 0, R.2) else (R.1, R.2.err, { R.2 with broken := true, b := [] }) := by
    unfold FC.push
    rw [if_neg (by simp [hbk]), ← hR]
  generalize s.push p = PR at hP
  have HP := hid hP
  have HR := hid hR
  have HB := hid hB
  have HRD := hid hrd
  have HR3 := hid hr
  have hb1 : s.b.length ≤ 1000000 := by omega
  clear hP hR hB hrd hr
  go_enter Tryd.func24, Tryd.ntmps24
  have hca : ∀ ob, (w.alloc ob).cell? ⟨a, 1, none⟩ = some (.slice A1 s.b.length c1) := fun ob => (World.cell?_alloc_lt _ _ ⟨a, 1, none⟩ hlt).trans d1
  have hAt0 : ∀ y, At (some ⟨w.heap.size, 0, none⟩) y → y = w.heap.size := fun y ⟨o, e⟩ => by injection e with e; injection e with e; exact e.symm
  go_wp2_with (first
    | (at_builtin; refine wpList_app _ rfl (.tmp 14) (.tmp 18) _ rfl 5 i0 _ 1 1 Tryd.underlying22 hi hz0 hz1 hz2 rfl (by omega) byte_zero (O := Ge w.heap.size) (by simp [Ge]) rfl own_lit (m := s.b.length) rfl (by rw [Nat.mul_one]; exact Rd.alloc HRD.out _) (bv_all _) (by simp only [maxLen]; omega) (by omega) ?_; intro A2 c2 w1 hown1 hf1 hcc1 hA1; go_must (have HR4 := hid (Rd.fr (Rd.alloc HR3.out _) hf1 (fun y _ h hat => by have := hO3 y h; have := hAt0 y hat; omega)); have HF1 := hid (((Fr.refl No w).alloc _).trans_new hf1 (fun y hy => .inr (by have := hAt0 y hy; omega))); have hzz1 := HF1.out.size; have HO1 : Hid (Ost.Own w1 (Ge w.heap.size) 5 Byte A2 (s.b.length * 1) (c2 * 1) (s.b.map bv)) := hid (by simpa using hown1); have HA1 := hid (fun y (hy : At A2 y) => show w.heap.size ≤ y from hown1.at_ y hy); clear hown1 hf1 hA1))
    | (at_builtin; go_must (refine wpList_app _ rfl (.tmp 19) (.tmp 20) _ rfl 5 i0 _ 1 1 Tryd.underlying22 hi hz0 hz1 hz2 rfl (by omega) byte_zero (O := Ge w.heap.size) (by simp only [Ge]; omega) rfl HO1.out (m := p.length) rfl (by rw [Nat.mul_one]; exact HR4.out) (bv_all _) (by simp only [maxLen]; omega) (by omega) ?_; intro A3 c3 w2 hown2 hf2 hcc2 hA3; have HF2 := hid (HF1.out.trans_new hf2 (fun y hy => .inr (HA1.out y hy))); have HO2 := hid hown2; have hcap3 := hcc2 (hcc1 (Nat.zero_le _)); clear hown2 hf2 hA3)))
  obtain ⟨N, hN⟩ : ∃ N, N = s.b.length + p.length := ⟨_, rfl⟩
  obtain ⟨bs, hbs⟩ : ∃ bs, bs = s.b ++ p := ⟨_, rfl⟩
  have hbl : bs.length = N := by rw [hbs, hN, List.length_append]
  have hall : RdB w2 (Mid w.heap.size w2.heap.size) A3 N bs := by
    have := HO2.out.rd
    simp only [Nat.mul_one] at this
    rw [← hN, ← List.map_append, ← hbs] at this
    exact this.mono fun y hy hg => ⟨hg, hy⟩
  have hNc : N ≤ c3 := by have := HO2.out.le; simp only [Nat.mul_one] at this; omega
  have hNs : N ≤ 1000000 := by omega
  have hBa := HB.out.fr HF2.out (fun h => h)
  have haw2 := hBa.lt
  have hw2 := HF2.out.size
  rw [← hN]
  have HALL := hid hall
  have HBL := hid hbl
  have HBA := hid hBa
  have HBS := hid hbs
  have HN := hid hN
  clear hN hbs hbl hall hBa HO1 HO2 HR4 HF1 HA1 hca hcc2 hcc1 d1 d2
  have hO' : Hid (∀ y, (O y ∨ Mid w.heap.size w2.heap.size y) → y < w2.heap.size ∧ (O y ∨ w.heap.size ≤ y)) := fun y hy => by
    rcases hy with hy | hy
    · exact ⟨by have := h0 y hy; omega, .inl hy⟩
    · exact ⟨hy.2, .inr hy.1⟩
  go_loopw [7, 8] (fun ov av wr => ∃ (k f : Nat) (st : FC) (out : List (List UInt8)) (vs : List Value) (A7 : Option Addr) (c7 : Nat) (E : Nat → Prop), k ≤ N ∧ av = .int .i64 k ∧ ov = .slice A7 vs.length c7 ∧ Hid (Ost.Own wr (At A7) 22 (fun _ => True) A7 vs.length c7 vs) ∧ Hid (Pcs wr E vs out) ∧
    Hid (∀ y, At A7 y → w2.heap.size ≤ y) ∧ Hid (∀ y, E y → w2.heap.size ≤ y ∧ ¬ At A7 y ∧ y < wr.heap.size) ∧ Hid (st.b = bs.drop k) ∧ Hid (st.most = s.most ∧ st.err = 0 ∧ st.broken = false) ∧ Hid (R = FC.run f st out) ∧ Hid (st.b.length < f) ∧ Hid (Fr (Ge w2.heap.size) w2 wr) ∧ vs.length ≤ k) (fun _ av _ => N - (intOf av).toNat)
  case atStart => exact ⟨0, s.b.length + p.length + 1, { s with b := s.b ++ p }, [], [], none, 0, fun _ => False, Nat.zero_le _, rfl, rfl, Ost.Own.nil _ _ _ _, ⟨rfl, fun i v l hv => by simp at hv⟩, (fun y ⟨_, e⟩ => by cases e), fun _ h => h.elim, by simp only [Hid, List.drop_zero]; exact HBS.out.symm, ⟨rfl, herr, hbk⟩, HR, by simp only [Hid, List.length_append]; omega, Fr.refl _ _, Nat.le_refl _⟩
  case round =>
    clear HR
    obtain ⟨k, f, st, out, vs, A7, c7, E, hk, rfl, rfl, hown, hpcs, hA7, hE, hstb, hst, hrun, hf, hFr, hvl⟩ := hrel
    have hstl : st.b.length = N - k := by rw [hstb.out, List.length_drop, HBL.out]
    have HSTL := hid hstl
    obtain ⟨g, hg⟩ : ∃ g, f = g + 1 := ⟨f - 1, by have := hf.out; omega⟩
    have hBr := HBA.out.fr hFr.out (fun h => by simp only [Ge] at h; omega)
    have b0 := hBr.cell 0
    have b1 := hBr.cell 1
    have b2 := hBr.cell 2
    have z1 := hBr.frozen 1
    have z2 := hBr.frozen 2
    simp at b0 b1 b2
    have hwr := hFr.out.size
    have hrall : RdB wr (Mid w.heap.size w2.heap.size) A3 N bs := Rd.fr HALL.out hFr.out (fun y _ hy h => by have := hy.2; simp only [Ge] at h; omega)
    have HRA := hid hrall
    have HBR := hid hBr
    have hla := hBr.lt
    obtain ⟨A', hsl, hA'⟩ := slice_from (P := Tryd.prog) (t := 22) (s := 1) Tryd.underlying22 (fun w => by kernel_rfl) A3 (n := N) (c := c3) (l := k) hk hNc
    have HA' := hid hA'
    have fin : ∀ q, PR = (out, 0, st) → RPushR w O a PR (.returned (.tuple #[.slice A7 vs.length c7, .int .i64 0])) ((wr.drewN q).setCell ⟨a, 1, none⟩ (.slice A' (N - k) (c3 - k))) := fun q hPR => by
      obtain ⟨e1, e2, e3⟩ := hst.out
      have hfa : Fr (fun y => y = a) wr ((wr.drewN q).setCell ⟨a, 1, none⟩ (.slice A' (N - k) (c3 - k))) := ((Fr.refl (fun y => y = a) wr).drewN q).setCell (p := ⟨a, 1, none⟩) (.inl rfl) _
      have hr1 := rd_mid HRA.out hk (Nat.le_refl _) (A' := A') HA'.out
      rw [List.take_of_length_le (by simp [HBL.out]), ← List.map_drop, ← hstb.out] at hr1
      refine rpushR_mk (D := w2.heap.size) (O' := fun y => O y ∨ Mid w.heap.size w2.heap.size y) (E := E) hPR (hown.out.fr hfa (fun y _ hy e => by have := hA7.out y hy; omega)) (hpcs.out.fr hfa (fun y _ hy e => by have := (hE.out y hy).1; omega)) hA7.out (fun y hy => (hE.out y hy).1) ⟨fun y hy => by have := (hO'.out y hy).1; have := hfa.size; omega, .inl ha, A', c3 - k, ?_, ?_, by omega, ?_⟩ hO'.out hw2 ?_
      · rw [HSTL.out, e1, e3]
        simpa [hbk] using (HBR.out.drewN q).set_ 1 (.slice A' (N - k) (c3 - k))
      · rw [HSTL.out]; omega
      · rw [HSTL.out]
        exact (Rd.fr hr1 hfa (fun y _ hy e => by have := hy.1; omega)).mono fun y _ hy => ⟨.inr hy, by have := hy.1; omega⟩
      · exact (HF2.out.of_no.trans_new hFr.out (fun y hy => .inr (by simp only [Ge] at hy; omega))).trans hfa (fun _ _ h => h)
    have finE : ∀ q er s', PR = (out, er, s') → s'.most = s.most ∧ s'.broken = true ∧ s'.b = [] → RPushR w O a PR (.returned (.tuple #[.slice A7 vs.length c7, .int .i64 er])) (((wr.drewN q).setCell ⟨a, 2, none⟩ (.bool true)).setCell ⟨a, 1, none⟩ (.slice none 0 0)) := fun q er s' hPR ⟨e1, e2, e3⟩ => by
      have hfa : Fr (fun y => y = a) wr (((wr.drewN q).setCell ⟨a, 2, none⟩ (.bool true)).setCell ⟨a, 1, none⟩ (.slice none 0 0)) := (((Fr.refl (fun y => y = a) wr).drewN q).setCell (p := ⟨a, 2, none⟩) (.inl rfl) _).setCell (p := ⟨a, 1, none⟩) (.inl rfl) _
      refine rpushR_mk (D := w2.heap.size) (O' := fun y => O y ∨ Mid w.heap.size w2.heap.size y) (E := E) hPR (hown.out.fr hfa (fun y _ hy e => by have := hA7.out y hy; omega)) (hpcs.out.fr hfa (fun y _ hy e => by have := (hE.out y hy).1; omega)) hA7.out (fun y hy => (hE.out y hy).1) ⟨fun y hy => by have := (hO'.out y hy).1; have := hfa.size; omega, .inl ha, none, 0, ?_, ?_, Nat.zero_le _, ?_⟩ hO'.out hw2 ?_
      · rw [e1, e2, e3]
        simpa [hbk] using ((HBR.out.drewN q).set_ 2 (.bool true)).set_ 1 (.slice none 0 0)
      · rw [e3]; exact Nat.zero_le _
      · rw [e3]; exact Rd.nil _ _ _
      · exact (HF2.out.of_no.trans_new hFr.out (fun y hy => .inr (by simp only [Ge] at hy; omega))).trans hfa (fun _ _ h => h)
    have FIN := hid fin
    have FINE := hid finE
    clear fin finE hrall hBr hA'
    have hRp : ∀ r, R = r → PR = if r.2.err = 0 then (r.1, 0, r.2) else (r.1, r.2.err, { r.2 with broken := true, b := [] }) := fun r e => by rw [HP.out, e]
    match htw : two st.b with
    | none =>
      have h2 := two_none htw
      have hPR : PR = (out, 0, st) := by
        have := hRp _ (by rw [hrun.out, hg, FC.run_none htw])
        rw [if_pos hst.out.2.1] at this
        exact this
      have HPR := hid hPR
      have h3 : (N : Int) - (k : Int) < 2 := by omega
      clear hRp hPR hg htw hstl h2
      go_wp2
      go_ret2
      exact FIN.out 0 HPR.out
    | some n =>
      obtain ⟨hn16, hlen2⟩ := two_lt htw
      have hkN : k + 2 ≤ N := by omega
      obtain ⟨x, y, r, hxy⟩ : ∃ x y r, st.b = x :: y :: r := by
        match hb : st.b, htw with
        | x :: y :: r, _ => exact ⟨x, y, r, rfl⟩
      have hnxy : 256 * x.toNat + y.toNat = n := by rw [hxy] at htw; simpa [two] using htw
      obtain ⟨g1, o1, rfl, _, hcc⟩ := HRA.out.2 (by omega)
      have hdk : bs.drop k = x :: y :: r := by rw [← hstb.out, hxy]
      have hbk0 : bs[k]? = some x := by have := congrArg (·[0]?) hdk; simpa using this
      have hbk1 : bs[k + 1]? = some y := by have := congrArg (·[1]?) hdk; simpa using this
      have hx := hcc k (bv x) (by rw [List.getElem?_map, hbk0]; rfl)
      have hy := hcc (k + 1) (bv y) (by rw [List.getElem?_map, hbk1]; rfl)
      unfold bv at hx hy
      have hxl := x.toNat_lt
      have hyl := y.toNat_lt
      have hw1 : IntKind.i64.wrap (256 * (x.toNat : Int)) = 256 * (x.toNat : Int) := IntWalk.i64_in _ (by omega)
      have hw2 : IntKind.i64.wrap (256 * (x.toNat : Int) + (y.toNat : Int)) = 256 * (x.toNat : Int) + (y.toNat : Int) := IntWalk.i64_in _ (by omega)
      have hsum : 256 * (x.toNat : Int) + (y.toNat : Int) = (n : Int) := by omega
      rw [hsum] at hw2
      have hx1 : (0 : Int) ≤ x.toNat := by omega
      have hw3 : IntKind.i64.wrap ((k : Int) + 1) = (k : Int) + 1 := IntWalk.i64_in _ (by omega)
      have hw4 : (0 : Int) ≤ (k : Int) + 1 := by omega
      have hw5 : ((k : Int) + 1).toNat = k + 1 := by omega
      have hkk : k < N := by omega
      have hkk1 : k + 1 < N := by omega
      have h3 : (2 : Int) ≤ (N : Int) - (k : Int) := by omega
      have hRr := hrun.out
      rw [hg, FC.run_some htw] at hRr
      have HXY := hid hxy
      have HFG := hid (show st.b.length < g + 1 by have := hf.out; omega)
      have HCC := hid hcc
      clear hcc hdk hbk0 hbk1 htw hnxy hxy hg hstl
      by_cases h12 : n < 12
      · rw [if_pos h12] at hRr
        have hPR := hRp _ hRr
        rw [if_neg (by simp)] at hPR
        have HPR := hid hPR
        clear hRp hPR hRr
        go_wp2
        go_quiet (fail)
        clear hw1 hw2 hw3 hw4 hw5 hsum
        go_wp2
        go_ret2
        exact FINE.out _ _ _ HPR.out ⟨hst.out.1, rfl, rfl⟩
      · rw [if_neg h12] at hRr
        have hd12 : decide ((n : Int) < 12) = false := by simp; omega
        by_cases hmo : st.most < (n : Int)
        · rw [if_pos hmo] at hRr
          have hPR := hRp _ hRr
          rw [if_neg (by simp)] at hPR
          have HPR := hid hPR
          rw [hst.out.1] at hmo
          have hdm : decide (s.most < (n : Int)) = true := by simp; omega
          clear hRp hPR hRr
          go_wp2
          go_quiet (fail)
          clear hw1 hw2 hw3 hw4 hw5 hsum
          go_wp2
          go_ret2
          exact FINE.out _ _ _ HPR.out ⟨hst.out.1, rfl, rfl⟩
        · rw [if_neg hmo] at hRr
          rw [hst.out.1] at hmo
          have hdm : decide (s.most < (n : Int)) = false := by simp; omega
          by_cases hsh : st.b.length < n + 2
          · rw [if_pos hsh] at hRr
            have hPR := hRp _ hRr
            rw [if_pos hst.out.2.1] at hPR
            have HPR := hid hPR
            rw [HSTL.out] at hsh
            have hsh2 : (N : Int) - (k : Int) - 2 < (n : Int) := by omega
            clear hRp hPR hRr
            go_wp2
            go_quiet (fail)
            clear hw1 hw2 hw3 hw4 hw5 hsum
            go_wp2
            go_ret2
            exact FIN.out _ HPR.out
          · rw [if_neg hsh] at hRr
            rw [HSTL.out] at hsh
            have hsh2 : (n : Int) ≤ (N : Int) - (k : Int) - 2 := by omega
            obtain ⟨z, hz⟩ : ∃ z, z = (st.b.drop 2).take n := ⟨_, rfl⟩
            rw [← hz] at hRr
            have HRR := hid hRr
            have hzb : z = (bs.drop (k + 2)).take n := by rw [hz, hstb.out, List.drop_drop]
            have hzl : z.length = n := by rw [hzb, List.length_take, List.length_drop, HBL.out]; omega
            have HZB := hid hzb
            have HZL := hid hzl
            obtain ⟨A8, hsl8, hA8⟩ := slice_mid (A := some ⟨g1, o1, none⟩) (n := N) (c := c3) (l := k + 2) (h := k + 2 + n) (by omega) (by omega)
            have hr8 : RdB wr (Mid w.heap.size w2.heap.size) A8 n z := by
              have := rd_mid HRA.out (show k + 2 ≤ k + 2 + n by omega) (by omega) (A' := A8) hA8
              rw [Nat.add_sub_cancel_left, ← List.map_drop, ← List.map_take, ← HZB.out] at this
              exact this
            rw [Nat.add_sub_cancel_left] at hsl8
            simp only [Int.natCast_add, show ((2 : Nat) : Int) = 2 from rfl] at hsl8
            clear hRp hRr hz hzb hzl hA8
            go_wp2
            go_quiet (fail)
            clear hw1 hw2 hw3 hw4 hw5 hsum
            have hAt1 : ∀ y, At (some ⟨wr.heap.size, 0, none⟩) y → y = wr.heap.size := fun y ⟨o, e⟩ => by injection e with e; injection e with e; exact e.symm
            go_wp2_with (first
              | (at_builtin; refine wpList_app _ rfl (.tmp 68) (.tmp 76) _ rfl 5 i0 _ 1 1 Tryd.underlying22 hi hz0 hz1 hz2 rfl (by omega) byte_zero (O := Ge wr.heap.size) (by simp [Ge]) rfl (own_lit (w := wr.drewN nq)) (m := n) rfl (by rw [Nat.mul_one]; exact Rd.alloc (Rd.drewN hr8 nq) _) (bv_all _) (by simp only [maxLen]; omega) (by omega) ?_; intro A9 c9 w4 hown9 hf9 hc9 hA9; go_must (have HF4 : Hid (Fr No wr w4) := (((Fr.refl No wr).drewN nq).alloc _).trans_new hf9 (fun y hy => .inr (by have := hAt1 y hy; omega)); have hz4 := HF4.out.size; have HO9 : Hid (Ost.Own w4 (Ge wr.heap.size) 5 Byte A9 n c9 (z.map bv)) := hid (by simpa using hown9); have HO7 : Hid (Ost.Own (w4.alloc (.cells #[.slice A9 n c9] 22)) (fun y => At A7 y ∨ w4.heap.size ≤ y) 22 (fun _ => True) A7 (vs.length * 1) (c7 * 1) vs) := hid (by rw [Nat.mul_one, Nat.mul_one]; exact ((hown.out.fr HF4.out (fun _ _ _ h => h)).alloc _).mono (fun y _ hy => .inl hy)); clear hown9 hf9 hA9))
              | (at_builtin; go_must (refine wpList_app _ rfl (.tmp 67) (.tmp 78) _ rfl 22 i1 _ 1 24 Tryd.underlying31 hi1 hy0 hy1 hy2 rfl (by omega) triv_zero (O := fun y => At A7 y ∨ w4.heap.size ≤ y) (.inr (by simp)) rfl HO7.out (m := 1) rfl (rd_one _ _ _) (by simp [Value.oneCell']) (by simp only [maxLen]; omega) (by omega) ?_; intro A10 c10 w5 hown10 hf10 hc10 hA10))
              | (have hqq := HO9; clear hqq; refine wpList_buildSlice rfl 31 22 1 #[(0, .tmp 77)] rfl #[.slice A9 n c9] i1 _ (by kernel_rfl) hi1 hy0 (by rw [hy1]; decide) (by rw [hy1]; decide) (by simp [hy1, Instr.fill, Act.eval, Act.put]; exact fill_one _ _ _) ?_))
            have HF5 : Fr (At A7) wr w5 := (((HF4.out.of_no).alloc _).trans hf10 (fun _ _ h => h))
            have HF45 : Fr (At A7) w4 w5 := (((Fr.refl (At A7) w4).alloc _).trans hf10 (fun _ _ h => h))
            have h7lt := own_lt hown.out
            have h9 : ∀ y, At A9 y → wr.heap.size ≤ y ∧ y < w4.heap.size := fun y hy => ⟨HO9.out.at_ y hy, own_lt HO9.out y hy⟩
            have hHR := HRR.out
            refine ⟨⟨k + 2 + n, g, { st with b := st.b.drop (n + 2) }, out ++ [z], vs ++ [.slice A9 n c9], A10, c10, fun y => E y ∨ At A9 y, by omega, by rw [Int.natCast_add, Int.natCast_add]; rfl, by simp, ?_, ?_, ?_, ?_, ?_, hst.out, hHR, ?_, ?_, by simp; omega⟩, ?_⟩
            · simpa [Hid] using own_self hown10
            · refine ((hpcs.out.fr HF5 (fun y _ hy h => (hE.out y hy).2.1 h)).mono (fun y hy => .inl hy)).snoc ?_
              exact ⟨A9, n, c9, rfl, HO9.out.le, (Rd.fr (own_self HO9.out).rd HF45 (fun y _ hy h => by have := (h9 y hy).1; have := h7lt y h; omega)).mono fun y _ hy => .inr hy⟩
            · intro y hy
              rcases hA10 y hy with h | h
              · exact hA7.out y h
              · rw [World.size_alloc] at h; omega
            · intro y hy
              have h45 := HF45.size
              rcases hy with hy | hy
              · obtain ⟨q1, q2, q3⟩ := hE.out y hy
                refine ⟨q1, fun h => ?_, by omega⟩
                rcases hA10 y h with h | h
                · exact q2 h
                · rw [World.size_alloc] at h; omega
              · obtain ⟨q1, q2⟩ := h9 y hy
                refine ⟨by omega, fun h => ?_, by omega⟩
                rcases hA10 y h with h | h
                · have := h7lt y h; omega
                · rw [World.size_alloc] at h; omega
            · simp only [Hid]
              rw [hstb.out, List.drop_drop]
              congr 1
              omega
            · simp only [Hid, List.length_drop]
              have := HFG.out
              omega
            · exact hFr.out.trans_new HF5 (fun y hy => .inr (hA7.out y hy))
            · simp only [intOf]
              omega
end

section
variable {w : World} {O : Nat → Prop} {a : Nat} {s : FC}
theorem rfpush_any {O3 : Nat → Prop} {B : Option Addr} {d : Nat} {p : List UInt8} (h : RFw w O a s) (hbe : s.broken = false → s.err = 0) (hr : RdB w O3 B p.length p) (hO3 : ∀ y, O3 y → y < w.heap.size) (hs : s.b.length + p.length ≤ 1000000) :
    Calls Tryd.prog 24 #[.pointer (some ⟨a, 0, none⟩), .slice B p.length d] w (RPushR w O a (s.push p)) := by
  cases hb : s.broken with
  | true => exact rfpush_broken h hb
  | false => exact rfpush_go h hb (hbe hb) hr hO3 hs
end
end Go.Proofs.YtpbgcjknhegnmaaDoor
