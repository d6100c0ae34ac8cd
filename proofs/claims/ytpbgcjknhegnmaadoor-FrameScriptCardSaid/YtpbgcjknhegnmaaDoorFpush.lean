/- frame.Reader.Push, walked. -/
import Derived.Test.YtpbgcjknhegnmaaDoorMsgs
namespace Go.Proofs.YtpbgcjknhegnmaaDoor
open Go.RowKit Go.Ost
attribute [local go_sem] Oper.semAt_some

theorem triv_zero2 : ∀ v ∈ (Value.slice none 0 0).cells.toList, (fun _ : Value => True) v := fun _ _ => trivial

/-- Where the rows lie. -/
def Ev (D : Nat) (y : Nat) : Prop := D ≤ y ∧ ¬ Two D y

set_option maxRecDepth 100000 in
set_option maxHeartbeats 8000000 in
theorem fpush_go {w : World} {O O3 : Nat → Prop} {a : Nat} {s : FC} {B : Option Addr} {d : Nat} {p : List UInt8} (h : FR w O a s) (hm : s.most ≠ 0) (hbk : s.broken = false) (hr : RdB w O3 B p.length p) (hO3 : ∀ y, O3 y → ¬ O y) (hs : s.b.length + p.length ≤ 1000000) :
    Calls Tryd.prog 23 #[.pointer (some ⟨a, 0, none⟩), .slice B p.length d] w (FPushR w O a (s.push p)) := by
  have hn := none_is h.cells.1 hm
  have hc := h.cells.2.1
  have hlt := h.mem.2 a h.mem.1
  rw [hbk] at hc
  obtain ⟨i0, hi, hz0, hz1, hz2⟩ := info_parts info_bs
  obtain ⟨all, off, A, c, lr, hd1, hW⟩ := h
  have hwr := write_any (d := d) hW hr hO3 (by rw [hd1]; exact hs)
  rw [hd1] at hwr
  have HOa : Hid (O a) := hW.2.1
  have HW := hid hW
  have HS := hid hs
  clear hr hd1 hW hs
  obtain ⟨R, hR⟩ : ∃ R, R = FC.run (s.b.length + p.length + 1) { s with b := s.b ++ p } [] := ⟨_, rfl⟩
  have hP : s.push p = if R.2.err = 0 then (R.1, 0, R.2) else (R.1, R.2.err, { R.2 with broken := true, b := [] }) := by
    unfold FC.push
    rw [if_neg (by simp [hbk]), ← hR]
  generalize s.push p = PR at hP
  have HP := hid hP
  have HR := hid hR
  clear hP hR
  refine (callsIn_wide (n := 3)).1 ?_
  refine callsIn_of_wp_marks Tryd.func23 rfl trivial ?_ rfl
  simp only [Tryd.ntmps23, List.size_toArray, List.length_cons, List.length_nil, Nat.reduceAdd, Nat.reduceSub, Array.replicate_succ, Array.replicate_zero, List.push_toArray, List.append_toArray, List.nil_append, List.cons_append]
  gi_wp2_with fail
  refine ⟨trivial, (callsIn_wide.2 hn).mono ?_⟩
  rintro e w' ⟨rfl, rfl⟩
  gi_wp2_with fail
  refine ⟨trivial, (callsIn_wide.2 hwr).mono ?_⟩
  rintro e w1 ⟨O1, A1, c1, lr1, all1, off1, rfl, hW1, hd1, hO1, hf1⟩
  have HW1 := hid hW1
  have HD1 := hid hd1
  have HO1 := hid hO1
  have HF1 := hid hf1
  have ha1 := hW1.1 a hW1.2.1
  clear hW1 hd1 hO1 hf1
  gi_wp2_with fail
  refine ⟨trivial, (callsIn_wide.2 whole_any).mono ?_⟩
  rintro e w2 ⟨rfl, rfl⟩
  gi_wp2_with fail
  have hbox : Blk ((w1.alloc (.cells #[.slice none 0 0] 31)).alloc (.cells #[.pointer (some ⟨a, 0, none⟩)] 39)) w1.heap.size 31 #[.slice none 0 0] := (Blk.new w1 _ _).alloc _
  have hbx : Blk ((w1.alloc (.cells #[.slice none 0 0] 31)).alloc (.cells #[.pointer (some ⟨a, 0, none⟩)] 39)) (w1.heap.size + 1) 39 #[.pointer (some ⟨a, 0, none⟩)] := by
    have := Blk.new (w1.alloc (.cells #[.slice none 0 0] 31)) 39 #[.pointer (some ⟨a, 0, none⟩)]
    simpa using this
  have hf2 : Fr No w1 ((w1.alloc (.cells #[.slice none 0 0] 31)).alloc (.cells #[.pointer (some ⟨a, 0, none⟩)] 39)) := ((Fr.refl No w1).alloc _).alloc _
  have hsz : ((w1.alloc (.cells #[.slice none 0 0] 31)).alloc (.cells #[.pointer (some ⟨a, 0, none⟩)] 39)).heap.size = w1.heap.size + 2 := by simp
  generalize ((w1.alloc (.cells #[.slice none 0 0] 31)).alloc (.cells #[.pointer (some ⟨a, 0, none⟩)] 39)) = W0 at hbox hbx hf2 hsz
  have hszA : w1.heap.size + 2 ≤ W0.heap.size := by omega
  have hszB : W0.heap.size ≤ w1.heap.size + 2 := by omega
  clear hsz
  have hFR0 : FR W0 O1 a { s with b := s.b ++ p } := ⟨all1, off1, A1, c1, lr1, HD1.out, (HW1.out).fr hf2 (fun _ _ h => h)⟩
  have hO1w : ∀ y, O1 y → y < w1.heap.size := HW1.out.1
  have hbxc : W0.cell? ⟨w1.heap.size + 1, 0, none⟩ = some (.pointer (some ⟨a, 0, none⟩)) := by rw [hbx.cell]; rfl
  have hab : w1.heap.size ≠ a := by omega
  refine wp_range (gf := 39) (lb := #[.pointer (some ⟨w1.heap.size + 1, 0, none⟩)]) rfl (enters_of Tryd.func39 (by kernel_rfl) rfl)
    (S := fun y => y = a) (T := fun y => W0.heap.size ≤ y ∨ y = w1.heap.size)
    (whole_iter (Bx := w1.heap.size + 1) hFR0 (fun y hy hT => by have := hO1w y hy; omega) hbxc (by omega) (by omega) (by simp only [List.length_append]; exact HS.out))
    (fun y hy => by omega) (fun y hy => .inl hy)
    (fun pre x v Wp A B hsz2 ⟨A', c', e1, e2, e3, e4, e5⟩ hf => ⟨A', c', e1, e2.fr hf (fun y _ hy ht => by simp only [Two, Ge] at ht hy; omega), e3, e4, e5⟩)
    (fun pre W => ∃ A' c' vs, Blk W w1.heap.size 31 #[.slice A' pre.length c'] ∧ Ost.Own W (Ev W0.heap.size) 22 (fun _ => True) A' pre.length c' vs ∧ Msgs W (Ev W0.heap.size) vs pre ∧ (∀ y, Blks vs y → ¬ At A' y) ∧ c' ≤ maxLen ∧ Fr (fun y => W0.heap.size ≤ y ∨ y = w1.heap.size ∨ y = a) W0 W)
    ?hI ?h0 ?round ?done
  case hI =>
    rintro pre A B ⟨A', c', vs, e1, e2, e3, e4, e5, e6⟩ hf
    refine ⟨A', c', vs, e1.fr hf ?_, e2.fr hf ?_, e3.fr hf ?_, e4, e5, e6.trans hf ?_⟩
    · rintro (h | h)
      · exact hab h
      · simp only [Two] at h; omega
    · rintro y _ hy (h | h)
      · simp only [Ev] at hy; omega
      · exact hy.2 h
    · rintro y _ hy (h | h)
      · simp only [Ev] at hy; omega
      · exact hy.2 h
    · rintro y hy (h | h)
      · exact .inr (.inr h)
      · simp only [Two] at h; omega
  case h0 => exact ⟨none, 0, [], by simpa using hbox, Ost.Own.nil _ _ _ _, Msgs.nil _ _, fun y ⟨_, _, _, hm, _⟩ => by simp at hm, Nat.zero_le _, Fr.refl _ _⟩
  case round =>
    rintro l pre x v Wp W1 W2 K hszp ⟨A', c', vs, e1, e2, e3, e4, e5, e6⟩ hfp ⟨Ax, cx, rfl, hx1, hx2, hx3, hx4⟩ hK
    have HK := hid hK
    clear hK
    gi_wp2
    refine HK.out _ ?_
    have e1' := e1.fr hfp (by rintro (h | h); exact hab h; simp only [Two] at h; omega)
    have e2' := e2.fr hfp (by rintro y _ hy (h | h); simp only [Ev] at hy; omega; exact hy.2 h)
    have e3' := e3.fr hfp (by rintro y _ hy (h | h); simp only [Ev] at hy; omega; exact hy.2 h)
    have e6' : Fr (fun y => W0.heap.size ≤ y ∨ y = w1.heap.size ∨ y = a) W0 W2 := e6.trans hfp (by rintro y hy (h | h); exact .inr (.inr h); simp only [Two] at h; omega)
    have hA'w : ∀ y, At A' y → y < Wp.heap.size ∧ Ev W0.heap.size y := fun y hy => ⟨own_lt e2 y hy, e2.at_ y hy⟩
    have hBw : ∀ y, Blks vs y → y < Wp.heap.size := fun y hy => (e3.blk hy).2
    have hAx : ∀ y, At Ax y → Wp.heap.size ≤ y ∧ y < W2.heap.size := fun y hy => ⟨hx1.at_ y hy, own_lt hx1 y hy⟩
    have hzp := hfp.size
    have cb := e1'.cell 0
    simp at cb
    have hpl : pre.length ≤ 1000000 := by have := HS.out; simp only [List.length_append] at hx3; omega
    have hev : Ev W0.heap.size (W2.heap.size + 1) := ⟨by omega, by simp only [Two]; omega⟩
    have hB2 := e1'.alloc (.cells #[.slice Ax x.length cx] 22)
    have own2 := e2'.alloc (.cells #[.slice Ax x.length cx] 22)
    have HX1 := hid hx1
    have HE3 := hid e3'
    have HE6 := hid e6'
    have HE2 := hid own2
    have HB2 := hid hB2
    clear e1 e2 e3 e6 e2' e3' e6' hx1 own2 hB2
    gi_wp2_with (gi_at_builtin; refine wpListIn_app _ rfl (.tmp 24) (.tmp 26) _ rfl 22 i0 _ 1 24 Tryd.underlying31 hi hz0 hz1 hz2 rfl (by omega) triv_zero2 (O := Ev W0.heap.size) (by rw [World.size_alloc]; exact hev) rfl (by simpa using HE2.out) (m := 1) rfl (rd_one _ _ _) (by simp [Value.oneCell']) (by simp only [maxLen]; omega) (by omega) ?_; intro A4 c4 w4 hown4 hf4 hc4 hA4; have hB4 := HB2.out.fr hf4 (fun hb => by have := (hA'w _ hb).2; simp only [Ev] at this; omega); have cb4 := hB4.cell 0; have fb4 := hB4.frozen 0; simp at cb4)
    have hfa : ∀ v, Fr (fun y => y = w1.heap.size) w4 (w4.setCell ⟨w1.heap.size, 0, none⟩ v) := fun v => (Fr.refl (fun y => y = w1.heap.size) w4).setCell (p := ⟨w1.heap.size, 0, none⟩) (.inl rfl) v
    have hAl : Fr No W2 (W2.alloc (.cells #[.slice Ax x.length cx] 22)) := (Fr.refl No W2).alloc _
    have hAA : ∀ y, At A' y → (W0.heap.size ≤ y ∨ y = w1.heap.size) ∧ ¬ Two W0.heap.size y := fun y hy => ⟨.inl (hA'w y hy).2.1, (hA'w y hy).2.2⟩
    have hFF : ∀ v, Fr (fun y => (W0.heap.size ≤ y ∨ y = w1.heap.size) ∧ ¬ Two W0.heap.size y) W2 (w4.setCell ⟨w1.heap.size, 0, none⟩ v) := fun v =>
      (hAl.of_no.trans (hf4.mono (T := fun y => (W0.heap.size ≤ y ∨ y = w1.heap.size) ∧ ¬ Two W0.heap.size y) (fun y _ hy => hAA y hy)) (fun _ _ h => h)).setCell (p := ⟨w1.heap.size, 0, none⟩) (.inl ⟨.inr rfl, by simp only [Two]; omega⟩) v
    have hm1 : Msgs W2 (Ev W0.heap.size) (vs ++ [.slice Ax x.length cx]) (pre ++ [x]) := HE3.out.snoc (HX1.out.mono fun y _ hy => ⟨by simp only [Ge] at hy; omega, by simp only [Ge] at hy; simp only [Two]; omega⟩) hx2 (fun y hy hb => by have := hAx y hy; have := hBw y hb; omega)
    have hm2 : Msgs w4 (Ev W0.heap.size) (vs ++ [.slice Ax x.length cx]) (pre ++ [x]) := (hm1.fr hAl (fun _ _ _ h => h)).fr hf4 (fun y hb _ hA => by
      rcases Blks.snoc hb with hb | hb
      · exact e4 y hb hA
      · have := hAx y hb; have := hA'w y hA; omega)
    have hev2 : ∀ y, Ev W0.heap.size y → y ≠ w1.heap.size := fun y hy e => by simp only [Ev] at hy; omega
    refine ⟨hFF _, A4, c4, vs ++ [.slice Ax x.length cx], ?_, ?_, hm2.fr (hfa _) (fun y _ hy e => hev2 y hy e), ?_, hc4 e5, HE6.out.trans (hFF _) (fun y _ hy => ?_)⟩
    · rw [List.length_append]
      simpa using hB4.set_ 0 (.slice A4 (pre.length + 1) c4)
    · rw [List.length_append]
      exact Ost.Own.fr (by simpa using hown4) (hfa _) (fun y _ hy e => hev2 y hy e)
    · intro y hb hA
      rcases hA4 y hA with h | h
      · rcases Blks.snoc hb with hb | hb
        · exact e4 y hb h
        · have := hAx y hb; have := hA'w y h; omega
      · rw [World.size_alloc] at h
        rcases Blks.snoc hb with hb | hb
        · have := hBw y hb; omega
        · have := hAx y hb; omega
    · rcases hy.1 with h | h
      · exact .inl h
      · exact .inr (.inl h)
  case done =>
    rintro xs W2 W ⟨s', hrun, hFR2⟩ ⟨A', c', vs, e1, e2, e3, e4, e5, e6⟩ hf hsz2 hD
    have hFR : FR W O1 a s' := hFR2.fr hf (fun y hy ht => by have := hO1w y hy; simp only [Two] at ht; omega)
    have hRx : R = (xs, s') := by
      rw [HR.out]
      simp only [List.length_append] at hrun
      exact hrun
    have hPR := HP.out
    rw [hRx] at hPR
    have HPR := hid hPR
    have hFw : Fr O w W := ((HF1.out.trans_no hf2)).trans_new e6 (fun y hy => by
      have := HF1.out.size
      rcases hy with h | h | h
      · exact .inr (by omega)
      · exact .inr (by omega)
      · exact .inl (h ▸ HOa.out))
    have HFW := hid hFw
    obtain ⟨_, _, q5, z1, _⟩ := hFR.cells
    have haW := hFR.mem.2 a hFR.mem.1
    have cb := e1.cell 0
    simp at cb
    clear hPR hRx hrun hFR2 hFw hf e6 hbox hbx hFR0
    by_cases her : s'.err = 0
    · rw [her] at q5
      have hv : PR = (xs, 0, s') := by have := HPR.out; rw [if_pos her] at this; exact this
      have HV := hid hv
      clear hv
      gi_wp2
      gi_quiet (fail)
      gi_wp2
      rw [HV.out]
      refine ⟨by simp, .inl ⟨_, _, rfl, run_takeDeferred hD, ?_⟩⟩
      refine ⟨_, results_tmp2 rfl _ _ _, ?_⟩
      have hp : ∀ ob, Fr (Two W0.heap.size) W ((W.drewN nq).putObj W0.heap.size ob) := fun ob => ((Fr.refl _ W).drewN nq).putObj (.inl (.inl rfl)) ob
      have hE : ∀ y, Ev W0.heap.size y → w.heap.size ≤ y ∧ ¬ O1 y := fun y hy => ⟨by have := HF1.out.size; simp only [Ev] at hy; omega, fun h => by have := hO1w y h; simp only [Ev] at hy; omega⟩
      exact ⟨A', c', vs, O1, rfl, (e2.fr (hp _) (fun y _ hy => hy.2)).mono fun y _ hy => hE y hy, (e3.fr (hp _) (fun y _ hy => hy.2)).mono fun y _ hy => hE y hy, e4, e5, hFR.fr (hp _) (fun y hy ht => by have := hO1w y hy; simp only [Two] at ht; omega), HO1.out, HFW.out.trans (hp _) (fun y hy ht => by have := HF1.out.size; simp only [Two] at ht; omega)⟩
    · have hv : PR = (xs, s'.err, { s' with broken := true, b := [] }) := by have := HPR.out; rw [if_neg her] at this; exact this
      have HV := hid hv
      have hne : (s'.err != 0) = true := by simpa using her
      obtain ⟨all2, off2, A2, c2, lr2, _, hW2⟩ := hFR.broke true
      have hfs : Fr (fun y => y = a) W (W.setCell ⟨a, 1, none⟩ (.bool true)) := (Fr.refl (fun y => y = a) W).setCell (p := ⟨a, 1, none⟩) (.inl rfl) _
      have hrs := reset_any hW2
      clear hv her hW2
      gi_wp2_with fail
      refine ⟨trivial, (callsIn_wide.2 hrs).mono ?_⟩
      rintro e W3 ⟨rfl, hW3, hf3⟩
      have hFR3 : FR W3 O1 a { s' with broken := true, b := [] } := ⟨[], 0, A2, c2, 0, rfl, hW3⟩
      have hWW : Fr (fun y => y = a) W W3 := hfs.trans hf3 (fun _ _ h => h)
      have b1 := e1.fr hWW hab
      have cb3 := b1.cell 0
      simp at cb3
      obtain ⟨_, _, q53, _, _⟩ := hFR3.cells
      have hw3 := hFR3.mem.2 a hFR3.mem.1
      simp only at q53
      have hD3 := (hWW.block W0.heap.size (by omega) (fun e => by have := hO1w a hFR3.mem.1; omega)).trans hD
      have hsz3 := hWW.size
      clear b1 hne hfs hrs hf3 hW3
      gi_wp2
      gi_quiet (fail)
      gi_wp2
      rw [HV.out]
      refine ⟨by simp, .inl ⟨_, _, rfl, run_takeDeferred hD3, ?_⟩⟩
      refine ⟨_, results_tmp2 rfl _ _ _, ?_⟩
      have hp : ∀ ob, Fr (Two W0.heap.size) W3 ((W3.drewN nq).putObj W0.heap.size ob) := fun ob => ((Fr.refl _ W3).drewN nq).putObj (.inl (.inl rfl)) ob
      have hE : ∀ y, Ev W0.heap.size y → w.heap.size ≤ y ∧ ¬ O1 y := fun y hy => ⟨by have := HF1.out.size; simp only [Ev] at hy; omega, fun h => by have := hO1w y h; simp only [Ev] at hy; omega⟩
      have hEa : ∀ y, Ev W0.heap.size y → y ≠ a := fun y hy e => (hE y hy).2 (e ▸ hFR3.mem.1)
      exact ⟨A', c', vs, O1, rfl, ((e2.fr hWW (fun y _ hy => hEa y hy)).fr (hp _) (fun y _ hy => hy.2)).mono fun y _ hy => hE y hy, ((e3.fr hWW (fun y _ hy => hEa y hy)).fr (hp _) (fun y _ hy => hy.2)).mono fun y _ hy => hE y hy, e4, e5, hFR3.fr (hp _) (fun y hy ht => by have := hO1w y hy; simp only [Two] at ht; omega), HO1.out,
        (HFW.out.trans (hWW.mono (T := O) fun y _ e => e ▸ HOa.out) (fun _ _ h => h)).trans (hp _) (fun y hy ht => by have := HF1.out.size; simp only [Two] at ht; omega)⟩

theorem fpush_any {w : World} {O O3 : Nat → Prop} {a : Nat} {s : FC} {B : Option Addr} {n d : Nat} {p : List UInt8} (h : FR w O a s) (hm : s.most ≠ 0) (hr : RdB w O3 B n p) (hO3 : ∀ y, O3 y → ¬ O y) (hs : s.b.length + n ≤ 1000000) :
    Calls Tryd.prog 23 #[.pointer (some ⟨a, 0, none⟩), .slice B n d] w (FPushR w O a (s.push p)) := by
  have hl : p.length = n := by simpa using hr.1
  subst hl
  cases hb : s.broken with
  | true => exact fpush_broken h hm hb
  | false => exact fpush_go h hm hb hr hO3 hs
end Go.Proofs.YtpbgcjknhegnmaaDoor
