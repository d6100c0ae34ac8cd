/- The reference's Open, First and Ready (ostiaryref17) in the words of the machine. -/
import Derived.Test.YtoehknanlaamlaaRefA
namespace Go.Proofs.Ytoehknanlaamlaa
open Go.RowKit Go.Ost

theorem info_slot : (Try.prog.info? 59).map (fun i => (i.zero, i.size, i.bytes)) = some (some (.agg #[.bool false, .slice none 0 0]), 2, 32) := by kernel_rfl

theorem own_lit2 {w : World} {T : Value → Prop} {t : TypeId} : Own (w.alloc (.cells #[] t)) (Ge w.heap.size) t T (some ⟨w.heap.size, 0, none⟩) (0 * 2) (0 * 2) [] :=
  ⟨by simp, .inr ⟨w.heap.size, [], rfl, Nat.le_refl _, by simpa using Blk.new w t #[], by simp, by simp⟩⟩

section
variable {w : World} {a : Nat} {O : Nat → Prop} {s : OW}

theorem At_none_iff {b x o : Nat} : At (some ⟨b, o, none⟩) x ↔ x = b := ⟨fun ⟨_, e⟩ => by injection e with e; injection e with e1 _; exact e1.symm, fun h => ⟨o, by rw [h]⟩⟩

theorem Own.row {A : Option Addr} {n N c : Nat} {vals : List Value} {T : Value → Prop} (h : Own w O 59 T A N c vals) : Row w O A n vals ∨ N = 0 := by
  rcases h.2 with ⟨_, h0, _⟩ | ⟨b, ts, e, hO, hb, _, _⟩
  · exact .inr h0
  · refine .inl fun _ => ⟨b, 0, _, e, hO, hb, fun j v hv => ?_⟩
    rw [Nat.zero_add]
    have hj : j < vals.length := (List.getElem?_eq_some_iff.1 hv).1
    simp [List.getElem?_append_left hj, hv]

/-- Behind the two appends (w1, w2) and the store of the new row. -/
theorem RWin.grown {w0 w1 w2 : World} {A A1 A2 : Option Addr} {c c3 c4 n f : Nat} {vals : List Value} {o1 o2 : Obj}
    (hO : ∀ b, O b → b < w0.heap.size) (hm : 1 ≤ s.most ∧ s.most ≤ 64 ∧ s.L.length ≤ s.most) (hl0 : 1 ≤ s.least) (hb : s.least + s.L.length < 4611686018427387903) (ha : O a) (hx : ¬ s.most ≤ s.L.length) (hn : n = s.L.length) (hf : f = s.least)
    (hS : RefS w0 a s.most f A n c) (hV : Slots w0 (fun b => O b ∧ b ≠ a ∧ ¬ At A b) s.L vals)
    (hown1 : Own w1 (Ge w0.heap.size) 59 (fun _ => True) A1 (n * 2) (c3 * 2) vals) (hf1 : Fr (At (some ⟨w0.heap.size, 0, none⟩)) (w0.alloc o1) w1) (hc3 : c3 ≤ maxLen) (hA1 : ∀ b, At A1 b → At (some ⟨w0.heap.size, 0, none⟩) b ∨ (w0.alloc o1).heap.size ≤ b)
    (hown2 : Own w2 (Ge w0.heap.size) 59 (fun _ => True) A2 ((n + 1) * 2) (c4 * 2) (vals ++ [.bool false, .slice none 0 0])) (hf2 : Fr (At A1) (w1.alloc o2) w2) (hc4 : c3 ≤ maxLen → c4 ≤ maxLen) (hA2 : ∀ b, At A2 b → At A1 b ∨ (w1.alloc o2).heap.size ≤ b) :
    RefS w2 a s.most f A n c ∧ ∀ k, Fr O w0 ((w2.setCell ⟨a, 2, none⟩ (.slice A2 (n + 1) c4)).drewN k) ∧ RefS ((w2.setCell ⟨a, 2, none⟩ (.slice A2 (n + 1) c4)).drewN k) a s.most f A2 (n + 1) c4 ∧
      RWin ((w2.setCell ⟨a, 2, none⟩ (.slice A2 (n + 1) c4)).drewN k) (fun b => O b ∨ (w0.heap.size ≤ b ∧ b < ((w2.setCell ⟨a, 2, none⟩ (.slice A2 (n + 1) c4)).drewN k).heap.size)) a s.opened := by
  subst hn hf
  have hal := hO a ha
  have g1 : ∀ b, At A1 b → w0.heap.size ≤ b := fun b hb => by
    rcases hA1 b hb with h | h
    · rw [At_none_iff] at h; omega
    · simp at h; omega
  have F1 : Fr No w0 w1 := ((Fr.refl No w0).alloc o1).trans_new hf1 fun b hb => .inr (by rw [At_none_iff] at hb; omega)
  have F2 : Fr No w0 w2 := (F1.alloc o2).trans_new hf2 fun b hb => .inr (g1 b hb)
  have g2 : ∀ b, At A2 b → w0.heap.size ≤ b := fun b hb => by
    rcases hA2 b hb with h | h
    · exact g1 b h
    · have := F1.size; simp at h; omega
  have S2 : RefS w2 a s.most s.least A s.L.length c := hS.fr F2 fun h => h
  refine ⟨S2, fun k => ?_⟩
  have F3 : Fr (· = a) w2 (w2.setCell ⟨a, 2, none⟩ (.slice A2 (s.L.length + 1) c4)) := (Fr.refl (· = a) w2).setCell (p := ⟨a, 2, none⟩) (.inl rfl) _
  have F : Fr O w0 (w2.setCell ⟨a, 2, none⟩ (.slice A2 (s.L.length + 1) c4)) := Fr.trans (T := (· = a)) F2.of_no F3 fun b _ hb => by rw [hb]; exact ha
  have S3 : RefS (w2.setCell ⟨a, 2, none⟩ (.slice A2 (s.L.length + 1) c4)) a s.most s.least A2 (s.L.length + 1) c4 := Blk.set_ S2 2 _
  have own3 : Own (w2.setCell ⟨a, 2, none⟩ (.slice A2 (s.L.length + 1) c4)) (Ge w0.heap.size) 59 (fun _ => True) A2 ((s.L.length + 1) * 2) (c4 * 2) (vals ++ [.bool false, .slice none 0 0]) :=
    hown2.fr F3 fun b _ hb e => by have : w0.heap.size ≤ b := hb; omega
  have hle := own3.le
  refine ⟨F.drewN k, S3, ?_⟩
  have opl : s.opened.L.length = s.L.length + 1 := by simp [OW.opened]
  refine ⟨?_, ⟨hm.1, hm.2.1, by rw [opl]; simp only [OW.opened]; omega⟩, hl0, by rw [opl]; simp only [OW.opened]; omega, .inl ha, A2, c4, vals ++ [.bool false, .slice none 0 0], by rw [opl]; omega, hc4 hc3, ?_, ?_, ?_⟩
  · rintro b (h | h)
    · exact Nat.lt_of_lt_of_le (hO b h) F.size
    · exact h.2
  · rw [opl]
    exact S3
  · rw [opl]
    rcases Own.row (n := s.L.length + 1) own3 with h | h
    · exact h.mono fun b hb hc => .inr ⟨hc, hb⟩
    · omega
  · have hV3 : Slots (w2.setCell ⟨a, 2, none⟩ (.slice A2 (s.L.length + 1) c4)) (fun b => (O b ∧ b ≠ a ∧ ¬ At A b) ∧ b < w0.heap.size) s.L vals := by
      have h0 : Slots w0 (fun b => (O b ∧ b ≠ a ∧ ¬ At A b) ∧ b < w0.heap.size) s.L vals := hV.mono fun b hb hc => ⟨hc, hb⟩
      exact (h0.fr F2 fun _ _ _ h => h).fr F3 fun b _ hb => hb.1.2.1
    exact (hV3.mono (C' := fun b => (O b ∨ (w0.heap.size ≤ b ∧ b < ((w2.setCell ⟨a, 2, none⟩ (.slice A2 (s.L.length + 1) c4)).drewN k).heap.size)) ∧ b ≠ a ∧ ¬ At A2 b) fun b _ hb => ⟨.inl hb.1.1, hb.1.2.1, fun h => by have := g2 b h; have := hb.2; omega⟩).snoc

theorem ret_two {x y : Int} {v : Value} (h : x = y) : Ending.returned (.tuple #[.int .i64 x, v]) = .returned (.tuple #[.int .i64 y, v]) := by rw [h]

/-- What the reference's Open leaves. -/
def ROpenR (w : World) (O : Nat → Prop) (a : Nat) (s : OW) (e : Ending) (w' : World) : Prop :=
  e = .returned (.tuple #[.int .i64 s.open_.1.1, .int .i64 s.open_.1.2]) ∧ Fr O w w' ∧ ∃ O', RWin w' O' a s.open_.2 ∧ ∀ b, O' b → O b ∨ (w.heap.size ≤ b ∧ b < w'.heap.size)

set_option maxHeartbeats 1000000 in
theorem ropen_win (h : RWin w O a s) (hb : s.least + s.L.length < 4611686018427387903) :
    Calls Try.prog 18 #[.pointer (some ⟨a, 0, none⟩)] w (ROpenR w O a s) := by
  have h' := h
  obtain ⟨hO, hm, hl0, hl1, ha, A, c, vals, hc, hcm, hS, hR, hV⟩ := h'
  have c0 := hS.c0
  have c1 := hS.c1
  have c2 := hS.c2
  have c2f := Blk.frozen hS 2
  have hal := hO a ha
  have hm2 := hm.2.1
  have hm3 := hm.2.2
  have h1 := hm.1
  by_cases hx : s.most ≤ s.L.length
  · have hx' : (s.most : Int) ≤ s.L.length := by omega
    have he : s.open_ = ((0, 8), s) := by simp [OW.open_, hx]
    have HE := hid he
    clear he
    go_enter Try.func18, Try.ntmps18
    go_wp2
    go_quiet (fail)
    go_wp2
    go_ret2
    refine ⟨by rw [HE.out]; rfl, (Fr.refl _ _).drewN _, O, ?_, fun b hb => .inl hb⟩
    rw [HE.out]
    exact h.fr ((Fr.refl No w).drewN _) fun _ _ hb => hb
  · have hx' : ¬ (s.most : Int) ≤ s.L.length := by omega
    have he : s.open_ = (((s.least : Int) + s.L.length, 0), s.opened) := by simp [OW.open_, hx]
    have HE := hid he
    obtain ⟨i0, hi0, hz0, hz1, hz2⟩ := info_parts info_slot
    have hone := hV.one
    have HONE := hid hone
    have HRD := hid (hR.rd hV.1)
    obtain ⟨n, hn⟩ : ∃ n, n = s.L.length := ⟨_, rfl⟩
    obtain ⟨f, hf⟩ : ∃ f, f = s.least := ⟨_, rfl⟩
    rw [← hn] at hm3 hc c2 hx hx' hR hl1 hb HRD
    rw [← hf] at c1 hl0 hl1 hb
    have HN := hid hn
    have HF := hid hf
    have c2a : ∀ k o, ((w.drewN k).alloc o).cell? ⟨a, 2, none⟩ = some (.slice A n c) := fun k o => (World.cell?_alloc_lt (w.drewN k) o ⟨a, 2, none⟩ hal).trans c2
    have hSS : ∀ k, RefS (w.drewN k) a s.most f A n c := fun k => by have h := hS; rw [← hn, ← hf] at h; exact h
    have HSS := hid hSS
    have hVV : ∀ k, Slots (w.drewN k) (fun b => O b ∧ b ≠ a ∧ ¬ At A b) s.L vals := fun k => hV
    have HVV := hid hVV
    clear he hone hn hf hSS hVV
    go_enter Try.func18, Try.ntmps18
    go_wp2
    go_quiet (fail)
    go_wp2_with (first
      | (at_builtin; refine wpList_app _ rfl (.tmp 15) (.tmp 19) _ rfl 59 i0 _ 2 32 Try.underlying47 hi0 hz0 hz1 hz2 rfl (by omega) (T := fun _ => True) (fun _ _ => trivial) (O := Ge w.heap.size) (by simp [Ge]) rfl own_lit2 (m := n) rfl (Rd.alloc (Rd.drewN HRD.out _) _) HONE.out (by simp only [maxLen]; omega) (by omega) ?_; intro A1 c3 w1 hown1 hf1 hc3 hA1; simp only [Nat.zero_add, List.nil_append] at hown1)
      | (at_builtin; go_must (refine wpList_app _ rfl (.tmp 20) (.tmp 22) _ rfl 59 i0 _ 2 32 Try.underlying47 hi0 hz0 hz1 hz2 rfl (by omega) (T := fun _ => True) (fun _ _ => trivial) (O := Ge w.heap.size) (by have := hf1.size; simp [Ge] at this ⊢; omega) rfl (hown1.alloc _) (m := 1) rfl (rd_pair _ _ _ _) (by simp [Value.oneCell']) (by simp only [maxLen]; omega) (by omega) ?_); intro A2 c4 w2 hown2 hf2 hc4 hA2; obtain ⟨S2, HG⟩ := RWin.grown (w0 := w.drewN nq) hO hm (by have := HF.out; omega) (by have := HF.out; have := HN.out; omega) ha (by have := HN.out; omega) HN.out HF.out (HSS.out nq) (HVV.out nq) hown1 hf1 (hc3 (Nat.zero_le _)) hA1 hown2 hf2 hc4 hA2; have k2 := S2.c2; have k2f := Blk.frozen S2 2; have HG' := hid HG; clear HG))
    have k1 := (HG'.out 0).2.1.c1
    have k2' := (HG'.out 0).2.1.c2
    simp only [World.drewN_zero] at k1 k2'
    go_quiet (fail)
    go_wp2
    go_ret2
    refine ⟨?_, (HG'.out _).1.of_drewN, _, by rw [HE.out]; exact (HG'.out _).2.2, fun b hb => hb⟩
    rw [HE.out, ← HN.out, ← HF.out]
    exact ret_two (y := (f : Int) + n) (by omega)

theorem rfirst_win (h : RWin w O a s) :
    Calls Try.prog 23 #[.pointer (some ⟨a, 0, none⟩)] w fun e w' => e = .returned (.int .i64 s.first) ∧ w = w' := by
  obtain ⟨hO, hm, hl0, hl1, ha, A, c, vals, hc, hcm, hS, hR, hV⟩ := h
  have c1 := hS.c1
  have c2 := hS.c2
  rcases hL : s.L with _ | ⟨x, t⟩
  · have hz : s.L.length = 0 := by rw [hL]; rfl
    have hf : s.first = 0 := by simp [OW.first, hL]
    rw [hz] at c2
    rw [hf]
    clear hz hf hL
    go_enter Try.func23, Try.ntmps23
    go_wp2
    go_ret
    exact ⟨rfl, rfl⟩
  · obtain ⟨n, hn⟩ : ∃ n, s.L.length = n + 1 := ⟨t.length, by rw [hL]; rfl⟩
    have hf : s.first = s.least := by simp [OW.first, hL]
    rw [hn] at c2
    rw [hf]
    clear hn hf hL
    go_enter Try.func23, Try.ntmps23
    go_wp2
    go_ret
    exact ⟨rfl, rfl⟩

theorem count_take {L : List (Option Bs)} {k : Nat} {x : Option Bs} (h : L[k]? = some x) : (L.take (k + 1)).countP (·.isSome) = (L.take k).countP (·.isSome) + (if x.isSome then 1 else 0) := by
  obtain ⟨hl, rfl⟩ := List.getElem?_eq_some_iff.1 h
  rw [List.take_succ_eq_append_getElem hl, List.countP_append]
  simp [List.countP_cons]

theorem rready_win (h : RWin w O a s) :
    Calls Try.prog 25 #[.pointer (some ⟨a, 0, none⟩)] w fun e w' => e = .returned (.int .i64 s.ready) ∧ w = w' := by
  obtain ⟨hO, hm, hl0, hl1, ha, A, c, vals, hc, hcm, hS, hR, hV⟩ := h
  have c2 := hS.c2
  have hlen : s.L.length ≤ 64 := by omega
  obtain ⟨n, hn⟩ : ∃ n, n = s.L.length := ⟨_, rfl⟩
  rw [← hn] at c2 hlen hR hc
  have HN := hid hn
  clear hn
  have hcount : ∀ k, (s.L.take k).countP (·.isSome) ≤ k := fun k => Nat.le_trans List.countP_le_length (List.length_take_le _ _)
  rcases Nat.eq_zero_or_pos n with h0 | h0
  · subst h0
    go_enter Try.func25, Try.ntmps25
    go_wp2
    go_loop [3, 4] (fun t i => t = .int .i64 0 ∧ i = .int .i64 0) (fun _ _ => 0)
    case atStart => exact ⟨rfl, rfl⟩
    case round =>
      obtain ⟨rfl, rfl⟩ := hrel
      go_wp2
      go_ret
      refine ⟨?_, rfl⟩
      have : s.L = [] := List.eq_nil_of_length_eq_zero HN.out.symm
      simp [OW.ready, this]
  · obtain ⟨b, o, cs, rfl, hOb, hB, hcs⟩ := hR h0
    go_enter Try.func25, Try.ntmps25
    go_wp2
    go_loop [3, 4] (fun t i => ∃ k : Nat, k ≤ n ∧ i = .int .i64 k ∧ t = .int .i64 ((s.L.take k).countP (·.isSome) : Nat)) (fun _ i => n - (intOf i).toNat)
    case atStart => exact ⟨0, Nat.zero_le _, rfl, by simp⟩
    case round =>
      obtain ⟨k, hk, rfl, rfl⟩ := hrel
      have hck := hcount k
      by_cases hlt : k < n
      · have hkl : k < s.L.length := by have := HN.out; omega
        obtain ⟨hv, _⟩ := hV.2 k _ (List.getElem?_eq_getElem hkl)
        have hcell : w.cell? ⟨b, o + k * 2, none⟩ = some (.bool s.L[k].isSome) := by rw [hB.cell]; exact hcs _ _ hv
        have HT := hid (count_take (List.getElem?_eq_getElem hkl))
        generalize hq : s.L[k].isSome = q at hcell
        have HQ := hid hq
        clear hq hv hcount hcs
        obtain ⟨m, hm⟩ : ∃ m, m = (s.L.take k).countP (·.isSome) := ⟨_, rfl⟩
        have HM := hid hm
        rw [← hm] at hck ⊢
        clear hm
        cases q
        · go_wp2
          go_round
          case rel => exact ⟨k + 1, by omega, by go_num, by rw [HT.out, HQ.out, ← HM.out]; simp⟩
          case measure => simp [intOf]; omega
        · go_wp2
          go_round
          case rel => exact ⟨k + 1, by omega, by go_num, by rw [HT.out, HQ.out, ← HM.out]; simp⟩
          case measure => simp [intOf]; omega
      · obtain rfl : k = n := by omega
        clear hcount
        go_wp2
        go_ret
        refine ⟨?_, rfl⟩
        have h1 := HN.out
        rw [List.take_of_length_le (by omega)]
        rfl
end
end Go.Proofs.Ytoehknanlaamlaa
