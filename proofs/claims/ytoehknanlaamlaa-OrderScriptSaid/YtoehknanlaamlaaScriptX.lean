/- OrderScript, walked to its end. -/
import Derived.Test.YtoehknanlaamlaaScriptW
namespace Go.Proofs.Ytoehknanlaamlaa
open Go.RowKit Go.Ost

theorem Acts.fr {w w' : World} {A : Option Addr} {n : Nat} {l : List Act17} (h : Acts w A n l) (hf : Fr No w w') : Acts w' A n l := by
  refine ⟨h.1, fun hn => ?_⟩
  obtain ⟨b, o, e, hc⟩ := h.2 hn
  refine ⟨b, o, e, fun k x hx => ?_⟩
  obtain ⟨h1, h2, h3, B, m, d, h4, h5, h6⟩ := hc k x hx
  exact ⟨hf.cell (fun h => h) h1, hf.cell (fun h => h) h2, h3, B, m, d, hf.cell (fun h => h) h4, h5, (Rd.fr h6 hf fun _ _ _ h => h).mono fun b _ hb => Nat.lt_of_lt_of_le hb hf.size⟩

theorem done_facts (s : OW) (n : Int) (b : Bs) : (s.done n b).1.1.length ≤ s.L.length ∧ (s.done n b).2.least + (s.done n b).2.L.length = s.least + s.L.length := by
  unfold OW.done
  split
  · simp
  · split
    · have h := rel_len (s.put (n - s.least).toNat b)
      simp only [OW.put, List.length_set] at h
      simp only [OW.released, OW.put]
      omega
    · simp
theorem open_facts (s : OW) : s.open_.2.least + s.open_.2.L.length ≤ s.least + s.L.length + 1 := by
  unfold OW.open_
  split
  · simp
  · simp [OW.opened]; omega
theorem RWin.cell2 {w : World} {O : Nat → Prop} {a : Nat} {s : OW} (h : RWin w O a s) : ∃ A c, w.cell? ⟨a, 2, none⟩ = some (.slice A s.L.length c) := by
  obtain ⟨_, _, _, _, _, A, c, _, _, _, hS, _, _⟩ := h
  exact ⟨A, c, hS.c2⟩

section
variable {W w : World} {O1 O2 I : Nat → Prop} {a1 a2 : Nat} {s1 s2 : OW} {A : Option Addr} {c nq : Nat} {bs : Bs}
theorem Inv.qlen (h : Inv W w O1 O2 I a1 a2 s1 s2 A c bs) : Calls Try.prog 15 #[.pointer (some ⟨a1, 0, none⟩)] (w.drewN nq) fun e w'' => e = .returned (.int .i64 s1.L.length) ∧ ∃ m, w'' = w.drewN m :=
  Calls.quiet_of (len_win (h.n_step ((Fr.refl No w).drewN nq)).o)
theorem Inv.qfirst (h : Inv W w O1 O2 I a1 a2 s1 s2 A c bs) : Calls Try.prog 13 #[.pointer (some ⟨a1, 0, none⟩)] (w.drewN nq) fun e w'' => e = .returned (.int .i64 s1.first) ∧ ∃ m, w'' = w.drewN m :=
  Calls.quiet_of (first_win (h.n_step ((Fr.refl No w).drewN nq)).o)
theorem Inv.qready (h : Inv W w O1 O2 I a1 a2 s1 s2 A c bs) : Calls Try.prog 24 #[.pointer (some ⟨a1, 0, none⟩)] (w.drewN nq) fun e w'' => e = .returned (.int .i64 s1.ready) ∧ ∃ m, w'' = w.drewN m :=
  Calls.quiet_of_same ((ready_win (h.n_step ((Fr.refl No w).drewN nq)).o).mono fun _ _ h => ⟨h.1, h.2.symm⟩)
theorem Inv.qrfirst (h : Inv W w O1 O2 I a1 a2 s1 s2 A c bs) : Calls Try.prog 23 #[.pointer (some ⟨a2, 0, none⟩)] (w.drewN nq) fun e w'' => e = .returned (.int .i64 s2.first) ∧ ∃ m, w'' = w.drewN m :=
  Calls.quiet_of_same ((rfirst_win (h.n_step ((Fr.refl No w).drewN nq)).r).mono fun _ _ h => ⟨h.1, h.2.symm⟩)
theorem Inv.qrready (h : Inv W w O1 O2 I a1 a2 s1 s2 A c bs) : Calls Try.prog 25 #[.pointer (some ⟨a2, 0, none⟩)] (w.drewN nq) fun e w'' => e = .returned (.int .i64 s2.ready) ∧ ∃ m, w'' = w.drewN m :=
  Calls.quiet_of_same ((rready_win (h.n_step ((Fr.refl No w).drewN nq)).r).mono fun _ _ h => ⟨h.1, h.2.symm⟩)
end

set_option maxRecDepth 100000 in
set_option maxHeartbeats 4000000 in
theorem script_any {w : World} {A : Option Addr} {n c : Nat} {l : List Act17} (m : Int) (h : Acts w A n l) (hn : n ≤ 9223372036854775807) :
    Calls Try.prog 4 #[.int .i64 m, .slice A n c] w fun e w' => e = .returned (.bool true) ∧ Fr No w w' := by
  have HA := hid h
  cases hlong : longB l
  · by_cases hbad : m < 1 ∨ 64 < m
    · have hlg := long_any (c := c) h hn
      rw [hlong] at hlg
      have HL := hid hlg
      have HB := hid hbad
      clear hlong hlg h hbad
      go_enter Try.func4, Try.ntmps4
      go_wp2_with fail
      refine (HL.out).mono ?_
      rintro e w1 ⟨rfl, rfl⟩
      go_wp2_with fail
      refine (new_bad m w HB.out).mono ?_
      rintro e w1 ⟨rfl, rfl⟩
      go_wp2_with fail
      refine (rnew_bad m w HB.out).mono ?_
      rintro e w1 ⟨rfl, rfl⟩
      go_wp2_with fail
      refine (awake_any w).mono ?_
      rintro e w1 ⟨rfl, f1⟩
      go_wp2_with fail
      go_ret
      exact ⟨rfl, f1⟩
    · have hl : l.length ≤ 150 ∧ ∀ x ∈ l, x.b.length ≤ 100 := by
        unfold longB at hlong
        rw [Bool.or_eq_false_iff] at hlong
        refine ⟨by simpa using hlong.2, fun x hx => ?_⟩
        have h1 := hlong.1
        rw [List.any_eq_false] at h1
        simpa using h1 x hx
      have hll := h.1
      have hl150 : n ≤ 150 := by omega
      have h1 : 1 ≤ m := by omega
      have h2 : m ≤ 64 := by omega
      have hlg := long_any (c := c) h hn
      rw [hlong] at hlg
      have HL := hid hlg
      have HB := hid hl
      have HN := hid hll
      clear hlong hlg h hbad hl hll
      go_enter Try.func4, Try.ntmps4
      go_wp2_with fail
      refine (HL.out).mono ?_
      rintro e w1 ⟨rfl, rfl⟩
      go_wp2_with fail
      refine (new_win m w h1 h2).mono ?_
      rintro e w1 ⟨rfl, ho1, hf1⟩
      go_wp2_with fail
      refine (rnew_win m w1 h1 h2).mono ?_
      rintro e w2 ⟨rfl, hr2, hf2⟩
      have hI : Inv w w2 (fun b => w.heap.size ≤ b ∧ b < w1.heap.size) (fun b => w1.heap.size ≤ b ∧ b < w2.heap.size) No (w.heap.size + 1) w1.heap.size ⟨m.toNat, 1, []⟩ ⟨m.toNat, 1, []⟩ none 0 [] :=
        ⟨ho1.fr hf2 fun _ _ h => h, hr2, Own.nil _ _ _ _, Nat.zero_le _, fun _ h => h.elim, fun b hb hc => by omega, fun _ h => h.elim, fun _ h => h.elim, fun b hb => hb.1, fun b hb => by have := hf1.size; omega, fun _ h => h.elim, hf1.trans_no hf2⟩
      clear ho1 hr2
      go_wp2_with fail
      go_loopw [9] (fun i wr => ∃ (k : Nat) (s : OW) (O1 O2 : Nat → Prop), k ≤ n ∧ i = .int .i64 k ∧ s.least + s.L.length ≤ 1 + k ∧ Inv w wr O1 O2 No (w.heap.size + 1) w1.heap.size s s none 0 []) (fun i _ => n - (intOf i).toNat)
      case atStart => exact ⟨0, _, _, _, Nat.zero_le _, rfl, by simp, hI⟩
      case round =>
        obtain ⟨k, s, O1, O2, hk, rfl, hsl, h3⟩ := hrel
        by_cases hlt : k < n
        · obtain ⟨b, o, rfl, hc⟩ := HA.out.2 (by omega)
          have hkl : k < l.length := by have := HN.out; omega
          obtain ⟨e1, e2, hnb, B, mb, db, e3, hmd, hrb0⟩ := hc k _ (List.getElem?_eq_getElem hkl)
          have hxb := (HB.out).2 _ (List.getElem_mem hkl)
          generalize hx : l[k] = x at e1 e2 e3 hrb0 hnb hxb
          clear hx hc
          obtain ⟨op, xn, bx⟩ := x
          simp only at e1 e2 e3 hrb0 hnb hxb
          have hcx : ∀ w', Fr No w w' → w'.cell? ⟨b, o + k * 3 + 1, none⟩ = some (.int .i64 xn) ∧ w'.cell? ⟨b, o + k * 3 + 2, none⟩ = some (.slice B mb db) ∧ RdB w' (fun b => b < w.heap.size) B mb bx :=
            fun w' hf => ⟨hf.cell (fun h => h) e2, hf.cell (fun h => h) e3, Rd.fr hrb0 hf fun _ _ _ h => h⟩
          have HX := hid hcx
          have c1 := h3.fr.cell (fun h => h) e1
          obtain ⟨c2, c3, hrb⟩ := hcx wr h3.fr
          clear hcx e1 e2 e3 hrb0
          cases op
          · obtain rfl : bx.length = mb := by simpa using hrb.1
            obtain ⟨ls, err, s', he⟩ : ∃ ls err s', s.done xn bx = ((ls, err), s') := ⟨_, _, _, rfl⟩
            have hfa := done_facts s xn bx
            rw [he] at hfa
            have hm64 : ls.length ≤ 64 := by have h64 := h3.o.2.1; have := hfa.1; simp only at this; omega
            have hsl' : s'.least + s'.L.length ≤ 1 + (k + 1) := by have := hfa.2; simp only at this; omega
            have HE := hid he
            clear he hfa
            go_wp2_with fail
            refine (h3.copy hrb (by omega)).mono ?_
            rintro e w3 ⟨A3, q3, I3, rfl, h4⟩
            clear c1 c2 c3 hrb h3
            obtain ⟨d2, d3, hr3⟩ := HX.out w3 h4.fr
            go_wp2_with fail
            refine (h4.done1 xn (by omega) HE.out).mono ?_
            rintro e w4 ⟨X, q4, O1', rfl, hx4, h5⟩
            clear d2 d3 hr3 h4
            obtain ⟨d2, d3, hr4⟩ := HX.out w4 h5.fr
            go_wp2_with fail
            go_region_held3 (fun w' => w'.cell? ⟨b, o + k * 3 + 1, none⟩ = some (.int .i64 xn) ∧ w'.cell? ⟨b, o + k * 3 + 2, none⟩ = some (.slice B bx.length db)) (first | exact ⟨d2, d3⟩ | exact ⟨d2', d3'⟩)
              ((go_at_call 20; refine (Inv.done2 (w := w4.drewN 1) (h5.n_step ((Fr.refl No w4).drewN 1)) (hx4.fr ((Fr.refl No w4).drewN 1) fun _ _ _ h => h) xn hnb (P := fun b => b < w.heap.size) (Rd.drewN hr4 1) (by omega) HE.out).mono ?_; rintro e w5 ⟨Y, q5, O2', rfl, hy5, hx5, h6⟩; obtain ⟨d2', d3', hr5⟩ := HX.out w5 h6.fr))
            clear d2 d3 hr4 h5 hx4
            go_wp2_with fail
            refine (same_lists hx5 hy5 (by omega) (by omega)).mono ?_
            rintro e w6 ⟨rfl, kk, rfl⟩
            rw [show decide (ls = ls) = true from decide_eq_true rfl]
            have h7 := h6.n_step ((Fr.refl No w5).drewN kk)
            clear h6 hx5 hy5
            go_wp2_with fail
            refine (same_bytes (c := q3) (d := db) h7.own.rd (Rd.drewN hr5 kk)).mono ?_
            rintro e w6 ⟨rfl, rfl⟩
            rw [show (bx == bx) = true from beq_self_eq_true bx]
            clear d2' d3' hr5
            go_wp2_with fail
            refine h7.over.mono ?_
            rintro e w8 ⟨rfl, h8⟩
            obtain ⟨Ar, cr, hcr⟩ := h8.r.cell2
            have HJ := hid h8
            clear h7 h8
            go_wp2_with fail
            go_quiet ((first | (go_at_call 15; exact HJ.out.qlen) | (go_at_call 13; exact HJ.out.qfirst) | (go_at_call 24; exact HJ.out.qready) | (go_at_call 23; exact HJ.out.qrfirst) | (go_at_call 25; exact HJ.out.qrready)))
            go_wp2
            go_roundw
            case rel => exact ⟨k + 1, s', O1', O2', by omega, by go_num, by omega, HJ.out.n_step ((Fr.refl No _).drewN _)⟩
            case measure => simp [intOf]; omega
          · obtain ⟨r, s', he⟩ : ∃ r s', s.open_ = (r, s') := ⟨_, _, rfl⟩
            have hsl' : s'.least + s'.L.length ≤ 1 + (k + 1) := by have := open_facts s; rw [he] at this; simp only at this; omega
            have HE := hid he
            clear he
            go_wp2_with fail
            refine (h3.open1 HE.out (by omega)).mono ?_
            rintro e w3 ⟨rfl, h4⟩
            go_wp2_with fail
            refine (h4.open2 HE.out (by omega)).mono ?_
            rintro e w4 ⟨rfl, O2', h5⟩
            obtain ⟨Ar, cr, hcr⟩ := h5.r.cell2
            have HJ := hid h5
            clear h3 h4 h5 c1 c2 c3 hrb
            go_wp2_with fail
            go_quiet ((first | (go_at_call 15; exact HJ.out.qlen) | (go_at_call 13; exact HJ.out.qfirst) | (go_at_call 24; exact HJ.out.qready) | (go_at_call 23; exact HJ.out.qrfirst) | (go_at_call 25; exact HJ.out.qrready)))
            go_wp2
            go_roundw
            case rel => exact ⟨k + 1, s', O1, O2', by omega, by go_num, by omega, HJ.out.n_step ((Fr.refl No _).drewN _)⟩
            case measure => simp [intOf]; omega
        · obtain rfl : k = n := by omega
          go_wp2_with fail
          refine (awake_any wr).mono ?_
          rintro e w3 ⟨rfl, f3⟩
          go_wp2_with fail
          go_ret
          exact ⟨rfl, h3.fr.trans_no f3⟩
  · have hlg := long_any (c := c) h hn
    rw [hlong] at hlg
    have HL := hid hlg
    clear hlong hlg h
    go_enter Try.func4, Try.ntmps4
    go_wp2_with fail
    refine (HL.out).mono ?_
    rintro e w1 ⟨rfl, rfl⟩
    go_wp2_with fail
    refine (awake_any w).mono ?_
    rintro e w1 ⟨rfl, f1⟩
    go_wp2_with fail
    go_ret
    exact ⟨rfl, f1⟩
end Go.Proofs.Ytoehknanlaamlaa
