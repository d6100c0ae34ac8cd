/- frame.Reader's machine: the messages that are whole; whole as an iterator. -/
import Derived.Test.YtpbgcjknhegnmaaDoorFrm
import Derived.Test.YtpbgcjknhegnmaaDoorRange
import Derived.Deep.LoopGhost
import Derived.Sort.QuietIn
namespace Go.Ost
/-- Message by message. -/
def FC.run : Nat → FC → List (List UInt8) → List (List UInt8) × FC
  | 0, s, out => (out, s)
  | f + 1, s, out => match two s.b with
    | none => (out, s)
    | some n => if n < 12 then (out, { s with err := 4 }) else if s.most < n then (out, { s with err := 3 }) else if s.b.length < n + 2 then (out, s)
      else FC.run f { s with b := s.b.drop (n + 2) } (out ++ [(s.b.drop 2).take n])
theorem FC.run_none {s : FC} (h : two s.b = none) (f : Nat) (out : List (List UInt8)) : FC.run (f + 1) s out = (out, s) := by simp only [FC.run, h]
theorem FC.run_some {s : FC} {n : Nat} (h : two s.b = some n) (f : Nat) (out : List (List UInt8)) : FC.run (f + 1) s out = if n < 12 then (out, { s with err := 4 }) else if s.most < n then (out, { s with err := 3 }) else if s.b.length < n + 2 then (out, s)
      else FC.run f { s with b := s.b.drop (n + 2) } (out ++ [(s.b.drop 2).take n]) := by simp only [FC.run, h]
end Go.Ost
namespace Go.Proofs.YtpbgcjknhegnmaaDoor
open Go.RowKit Go.Ost
attribute [local go_sem] Oper.semAt_some

/-- Next, at a reader's bytes. -/
theorem fnext_any {w : World} {O : Nat → Prop} {a : Nat} {s : FC} {n : Nat} (h : FR w O a s) (hn : n ≤ s.b.length) (h0 : 0 < n) : Calls Tryd.prog 40 #[.pointer (some ⟨a, 2, none⟩), .int .i64 n] w fun e w' =>
    ∃ A c, e = .returned (.slice A n c) ∧ n ≤ c ∧ RdB w' (fun y => O y ∧ y ≠ a) A n (s.b.take n) ∧ FR w' O a { s with b := s.b.drop n } ∧ Fr (· = a) w w' := by
  obtain ⟨all, off, A, c, lr, h1, h2⟩ := h
  have hl : s.b.length = all.length - off := by rw [← h1, List.length_drop]
  refine (next_any h2 (by have := h2.2.2.1; omega) h0).mono ?_
  rintro e w' ⟨A', c', lr', rfl, hc, hr, hW, hf⟩
  rw [h1] at hr
  exact ⟨A', c', rfl, hc, hr, ⟨all, off + n, A, c, lr', by rw [← List.drop_drop, h1], hW⟩, hf⟩

/-- What the iterator says of what it hands out. -/
def YMsg (N : Nat) : List (List UInt8) → List UInt8 → Value → World → World → Prop := fun pre x v Wp W =>
  ∃ A c, v = .slice A x.length c ∧ Ost.Own W (Ge Wp.heap.size) 5 Byte A x.length c (x.map bv) ∧ c ≤ maxLen ∧ 14 * (pre.length + 1) ≤ N ∧ 0 < x.length

/-- How many bytes are kept (the loop's measure). -/
def fkept (w : World) (a : Nat) : Nat := match w.cell? ⟨a, 2, none⟩, w.cell? ⟨a, 3, none⟩ with | some (.slice _ n _), some (.int _ off) => n - off.toNat | _, _ => 0
theorem fkept_eq {w : World} {O : Nat → Prop} {a : Nat} {s : FC} (h : FR w O a s) : fkept w a = s.b.length := by
  obtain ⟨all, off, A, c, lr, h1, h2⟩ := h
  have c2 := h2.2.2.2.1.cell 2
  have c3 := h2.2.2.2.1.cell 3
  simp at c2 c3
  rw [← h1, List.length_drop]
  simp [fkept, c2, c3]

set_option maxRecDepth 100000 in
set_option maxHeartbeats 4000000 in
theorem whole_iter {w : World} {O T : Nat → Prop} {a Bx : Nat} {s : FC} (h : FR w O a s) (hT : ∀ y, O y → ¬ T y) (hb : w.cell? ⟨Bx, 0, none⟩ = some (.pointer (some ⟨a, 0, none⟩))) (hTb : ¬ T Bx) (hBa : Bx ≠ a) (hN : s.b.length ≤ 1000000) :
    Iter Tryd.prog 39 #[.pointer (some ⟨Bx, 0, none⟩)] (fun y => y = a) T (YMsg s.b.length) (fun xs W => ∃ s', FC.run (s.b.length + 1) s [] = (xs, s') ∧ FR W O a s') w := by
  intro l J W hW hJ hJs hyield h0
  have g1 : W.cell? ⟨Bx, 0, none⟩ = some (.pointer (some ⟨a, 0, none⟩)) := hW.cell (fun h => h) hb
  have hR := h.fr hW (fun _ _ h => h)
  obtain ⟨R, hRR⟩ : ∃ R, R = FC.run (s.b.length + 1) s [] := ⟨_, rfl⟩
  rw [← hRR]
  have HR := hid hRR
  have HF := hid hR
  have HN := hid hN
  clear hRR hR hb h hN
  refine callsIn_of_wp Tryd.func39 rfl trivial ?_ rfl
  simp only [Tryd.ntmps39, List.size_toArray, List.length_cons, List.length_nil, Nat.reduceAdd, Nat.reduceSub, Array.replicate_succ, Array.replicate_zero, List.push_toArray, List.append_toArray, List.nil_append, List.cons_append]
  gi_wp2
  gi_loopw [3] (fun _ wr => ∃ (pre : List (List UInt8)) (s1 : FC) (f : Nat), J pre wr ∧ Hid (FR wr O a s1) ∧ Hid (R = FC.run f s1 pre) ∧ Hid (s1.b.length < f) ∧ Hid (s1.b.length + 14 * pre.length ≤ s.b.length) ∧ Hid (Fr (fun y => y = a ∨ T y) W wr)) (fun _ wr => fkept wr a)
  case atStart => exact ⟨[], s, _, h0, HF, HR, Nat.lt_succ_self _, by simp [Hid], Fr.refl _ _⟩
  case round =>
    obtain ⟨pre, s1, f, hj, hR, hrun, hf, hN2, hFr⟩ := hrel
    have b1 : wr.cell? ⟨Bx, 0, none⟩ = some (.pointer (some ⟨a, 0, none⟩)) := hFr.out.cell (fun h => h.elim hBa hTb) g1
    have hO := hR.out.mem
    have hlt := hO.2 a hO.1
    have hk1 := fkept_eq hR.out
    obtain ⟨g, hg⟩ : ∃ g, f = g + 1 := ⟨f - 1, by have := hf.out; omega⟩
    have hsz := size_any hR.out
    have hcl := hR.out.cells
    obtain ⟨q0, _, q5, _, z5⟩ := hcl
    match htw : two s1.b, hsz with
    | none, hsz =>
      simp only [Option.getD_none, Option.isSome_none] at hsz
      have hRn : R = (pre, s1) := by rw [hrun.out, hg, FC.run_none htw]
      have HRN := hid hRn
      clear htw hRn hg hk1
      gi_wp2_with fail
      refine ⟨trivial, (callsIn_wide.2 hsz).mono ?_⟩
      rintro e w1 ⟨rfl, k, rfl⟩
      gi_wp2
      refine bodyPost_ret (results_none rfl _ _ _) rfl ?_
      exact ⟨⟨_, rfl⟩, pre, ⟨s1, HRN.out, hR.out.drewN k⟩, hJ _ _ _ hj ((Fr.refl _ wr).drewN k)⟩
    | some n, hsz =>
      simp only [Option.getD_some, Option.isSome_some] at hsz
      obtain ⟨hn16, hlen2⟩ := two_lt htw
      have hRn := hrun.out
      rw [hg, FC.run_some htw] at hRn
      have HK := hid hk1
      have HG := hid hg
      by_cases h12 : n < 12
      · rw [if_pos h12] at hRn
        have HRN := hid hRn
        clear htw hRn hg hk1
        gi_wp2_with fail
        refine ⟨trivial, (callsIn_wide.2 hsz).mono ?_⟩
        rintro e w1 ⟨rfl, k, rfl⟩
        gi_wp2
        refine bodyPost_ret (results_none rfl _ _ _) rfl ?_
        exact ⟨⟨_, rfl⟩, pre, ⟨_, HRN.out, (hR.out.drewN k).fail 4⟩, hJ _ _ _ hj (((Fr.refl (fun y => y = a) wr).drewN k).setCell (p := ⟨a, 5, none⟩) (.inl rfl) _)⟩
      · rw [if_neg h12] at hRn
        by_cases hmo : s1.most < (n : Int)
        · rw [if_pos hmo] at hRn
          have HRN := hid hRn
          clear htw hRn hg hk1
          gi_wp2_with fail
          refine ⟨trivial, (callsIn_wide.2 hsz).mono ?_⟩
          rintro e w1 ⟨rfl, k, rfl⟩
          gi_wp2
          refine bodyPost_ret (results_none rfl _ _ _) rfl ?_
          exact ⟨⟨_, rfl⟩, pre, ⟨_, HRN.out, (hR.out.drewN k).fail 3⟩, hJ _ _ _ hj (((Fr.refl (fun y => y = a) wr).drewN k).setCell (p := ⟨a, 5, none⟩) (.inl rfl) _)⟩
        · rw [if_neg hmo] at hRn
          have hlq := fun k => flen_any (hR.out.drewN k)
          have hbl : s1.b.length ≤ 1000000 := by have := hN2.out; have := HN.out; omega
          by_cases hsh : s1.b.length < n + 2
          · rw [if_pos hsh] at hRn
            have HRN := hid hRn
            have HLQ := hid hlq
            clear htw hRn hg hk1 hlq
            gi_wp2_with fail
            refine ⟨trivial, (callsIn_wide.2 hsz).mono ?_⟩
            rintro e w1 ⟨rfl, k, rfl⟩
            gi_wp2_with fail
            refine ⟨trivial, (callsIn_wide.2 (HLQ.out k)).mono ?_⟩
            rintro e w1 ⟨rfl, k2, rfl⟩
            gi_wp2
            refine bodyPost_ret (results_none rfl _ _ _) rfl ?_
            exact ⟨⟨_, rfl⟩, pre, ⟨_, HRN.out, hR.out.drewN (k + k2)⟩, hJ _ _ _ hj ((Fr.refl (fun y => y = a) wr).drewN (k + k2))⟩
          · rw [if_neg hsh] at hRn
            obtain ⟨x, hx⟩ : ∃ x, x = (s1.b.drop 2).take n := ⟨_, rfl⟩
            have hxl : x.length = n := by rw [hx, List.length_take, List.length_drop]; omega
            rw [← hx] at hRn
            have HX := hid hx
            have HXL := hid hxl
            have HRN := hid hRn
            have HLQ := hid hlq
            clear hx hxl
            clear htw hRn hg hk1 hlq
            gi_wp2_with fail
            refine ⟨trivial, (callsIn_wide.2 hsz).mono ?_⟩
            rintro e w1 ⟨rfl, k, rfl⟩
            gi_wp2_with fail
            refine ⟨trivial, (callsIn_wide.2 (HLQ.out k)).mono ?_⟩
            rintro e w1 ⟨rfl, k2, rfl⟩
            gi_wp2_with fail
            have hnx := fnext_any (n := 2) (hR.out.drewN (k + k2)) (by omega) (by omega)
            rw [show ((2 : Nat) : Int) = 2 from rfl] at hnx
            refine ⟨trivial, (callsIn_wide.2 hnx).mono ?_⟩
            rintro e w2 ⟨A2, c2, rfl, -, -, hR2, hf2⟩
            have hf12 : Fr (fun y => y = a) wr w2 := Fr.of_drewN hf2
            have b2 : w2.cell? ⟨Bx, 0, none⟩ = some (.pointer (some ⟨a, 0, none⟩)) := hf12.cell hBa b1
            have HR2 := hid hR2
            have HF12 := hid hf12
            have hl2 := hR2.mem.2 a hO.1
            clear hR2 hf2 hf12 b1 hnx
            gi_wp2_with fail
            refine ⟨trivial, (callsIn_wide.2 (fnext_any (n := n) HR2.out (by simp only [List.length_drop]; omega) (by omega))).mono ?_⟩
            rintro e w3 ⟨A3, c3, rfl, hc3, hr3, hR3, hf3⟩
            have HR3 := hid hR3
            have HF13 := hid (HF12.out.trans hf3 (fun _ _ h => h))
            rw [← HX.out] at hr3
            clear hR3 hf3
            gi_wp2_with fail
            refine ⟨trivial, (callsIn_wide.2 (bclone (c := c3) hr3 (by omega) (by omega))).mono ?_⟩
            rintro e w4 ⟨A4, c4, rfl, hown4, hc4, hf4⟩
            have hz3 := HF13.out.size
            obtain ⟨fn, tmps, assign, body, hy, hYR⟩ := hyield pre x (.slice A4 x.length c4) wr w4 hj (HF13.out.trans_no hf4)
              ⟨A4, c4, rfl, hown4.mono (fun y _ hy => by simp only [Ge] at hy ⊢; omega), hc4, by have := hN2.out; omega, by have := HXL.out; omega⟩
            have HR4 := hid (HR3.out.fr hf4 (fun _ _ h => h))
            have HF14 := hid (HF13.out.trans_no hf4)
            clear hown4 hf4 hr3
            gi_wp2_with fail
            refine hYR.mono ?_
            rintro e W5 ⟨rfl, hJ5, hk5⟩
            have HR5 := hid (HR4.out.fr hk5 hT)
            have HF15 := hid (hFr.out.trans ((HF14.out.mono (T := fun y => y = a ∨ T y) fun y _ e => .inl e).trans (hk5.mono (T := fun y => y = a ∨ T y) fun y _ e => .inr e) (fun _ _ h => h)) (fun _ _ h => h))
            clear hk5
            gi_wp2
            go_roundw
            case rel => exact ⟨pre ++ [x], { s1 with b := s1.b.drop (n + 2) }, g, hJ5, by have := HR5.out; simp only [List.drop_drop] at this; rw [Nat.add_comm] at this; exact this, HRN.out, by have := hf.out; have := HG.out; simp only [Hid, List.length_drop]; omega, by have := hN2.out; simp only [Hid, List.length_drop, List.length_append, List.length_cons, List.length_nil]; omega, HF15.out⟩
            case measure => rw [fkept_eq HR5.out, HK.out]; simp only [List.length_drop]; omega
end Go.Proofs.YtpbgcjknhegnmaaDoor
