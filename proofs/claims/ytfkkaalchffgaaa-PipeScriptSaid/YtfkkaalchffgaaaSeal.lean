/- A sealed channel: its machine, its memory; greet, Send, Close. -/
import Derived.Test.YtfkkaalchffgaaaChunk
import Derived.Test.YtfkkaalchffgaaaRec
namespace Go.Ost
/-- A channel's state: what it keeps; whether a hello came, whether it ended, is broken; whether a hello went out, whether it was closed. -/
structure PC where
  b : List UInt8
  hello : Bool
  ended : Bool
  broken : Bool
  greeted : Bool
  shut : Bool
/-- The record of a part. -/
def datum (x : List UInt8) : List UInt8 := 2 :: be2 x.length ++ x
def PC.greet (s : PC) : List UInt8 := if s.greeted then [] else [1, 0, 1, 1]
def PC.send (s : PC) (bs : List UInt8) : List UInt8 × PC := if s.shut = true ∨ bs = [] then ([], s) else (s.greet ++ ((parts bs (many bs)).map datum).flatten, { s with greeted := true })
def PC.close (s : PC) : List UInt8 × PC := if s.shut then ([], s) else (s.greet ++ [3, 0, 0], { s with greeted := true, shut := true })
end Go.Ost
namespace Go.Proofs.Ytfkkaalchffgaaa
open Go.RowKit Go.Ost
attribute [local go_sem] Oper.semAt_some

/-- A sealed channel at block a, of the machine's state s; O: its blocks. -/
def SWin (w : World) (O : Nat → Prop) (a : Nat) (s : PC) : Prop :=
  (∀ b, O b → b < w.heap.size) ∧ O a ∧ ∃ A c, Blk w a 57 #[.slice A s.b.length c, .bool s.hello, .bool s.ended, .bool s.broken, .bool s.greeted, .bool s.shut] ∧
    s.b.length ≤ c ∧ c ≤ maxLen ∧ RdB w (fun b => O b ∧ b ≠ a) A s.b.length s.b
/-- What a call hands back, and which channel it leaves. -/
def PutR (w : World) (O : Nat → Prop) (a : Nat) (out : List UInt8) (s : PC) (e : Ending) (w' : World) : Prop :=
  ∃ A c, e = .returned (.slice A out.length c) ∧ Ost.Own w' (Ge w.heap.size) 5 Byte A out.length c (out.map bv) ∧ c ≤ maxLen ∧ SWin w' O a s ∧ Fr (· = a) w w'

section
variable {w w' : World} {O S : Nat → Prop} {a : Nat} {s : PC}
theorem SWin.fr (h : SWin w O a s) (hf : Fr S w w') (hd : ∀ b, O b → ¬ S b) : SWin w' O a s := by
  obtain ⟨h0, ha, A, c, h1, h2, h3, h4⟩ := h
  exact ⟨fun b hb => Nat.lt_of_lt_of_le (h0 b hb) hf.size, ha, A, c, h1.fr hf (hd a ha), h2, h3, Rd.fr h4 hf fun b _ hb => hd b hb.1⟩

theorem newE_newB {bs : List UInt8} {err : Int} {e : Ending} (h : NewE w bs err e w') : ∃ A c, e = .returned (.tuple #[.slice A bs.length c, .int .i64 err]) ∧ Ost.Own w' (Ge w.heap.size) 5 Byte A bs.length c (bs.map bv) ∧ c ≤ maxLen ∧ Fr No w w' := h

set_option maxHeartbeats 800000 in
theorem greet_any (h : SWin w O a s) : Calls Try.prog 55 #[.pointer (some ⟨a, 0, none⟩)] w (PutR w O a s.greet { s with greeted := true }) := by
  have h' := h
  obtain ⟨h0, ha, A, c, hB, hc1, hc2, hr⟩ := h'
  have c4 := hB.cell 4
  have f4 := hB.frozen 4
  have hlt := hB.lt
  simp at c4
  cases hg : s.greeted with
  | true =>
    rw [hg] at c4
    go_enter Try.func55, Try.ntmps55
    go_wp2
    go_ret
    refine ⟨none, 0, by simp [PC.greet, hg], by simpa [PC.greet, hg] using Ost.Own.nil _ _ _ _, Nat.zero_le _, ?_, Fr.refl _ _⟩
    have e : ({ s with greeted := true } : PC) = s := by cases s; simp at hg; simp [hg]
    rw [e]
    exact h
  | false =>
    rw [hg] at c4
    go_enter Try.func55, Try.ntmps55
    go_wp2_with fail
    have h1 : RdB ((w.setCell ⟨a, 4, none⟩ (.bool true)).alloc (.cells #[.int .u8 1] 5)) (fun _ => True) (some ⟨w.heap.size, 0, none⟩) 1 [1] := by
      have := rd_one (w.setCell ⟨a, 4, none⟩ (.bool true)) (.int .u8 1) 5
      simpa [RdB, bv] using this
    have hf1 : Fr (· = a) w ((w.setCell ⟨a, 4, none⟩ (.bool true)).alloc (.cells #[.int .u8 1] 5)) := ((Fr.refl (· = a) w).setCell (p := ⟨a, 4, none⟩) (.inl rfl) _).alloc _
    have hB1 := (hB.set_ 4 (.bool true)).alloc (.cells #[.int .u8 1] 5)
    have hr1 : RdB ((w.setCell ⟨a, 4, none⟩ (.bool true)).alloc (.cells #[.int .u8 1] 5)) (fun b => O b ∧ b ≠ a) A s.b.length s.b := Rd.fr hr hf1 fun b _ hb => hb.2
    refine (record_any (c := 1) 1 h1 (Nat.le_refl _) (by omega)).mono ?_
    rintro e w2 ⟨A2, c2, rfl, hown2, hc22, hf2⟩
    have er : recOf 1 [1] = ([1, 0, 1, 1], 0) := by decide
    rw [er] at hown2 ⊢
    go_wp2_with fail
    go_ret
    have eg : s.greet = [1, 0, 1, 1] := by simp [PC.greet, hg]
    rw [eg]
    refine ⟨A2, c2, rfl, hown2.mono fun b _ hb => ?_, hc22, ⟨fun b hb => Nat.lt_of_lt_of_le (h0 b hb) (Nat.le_trans hf1.size hf2.size), ha, A, c, ?_, hc1, hc2, Rd.fr hr1 hf2 fun _ _ _ h => h⟩, hf1.trans_no hf2⟩
    · have := hf1.size
      simp only [Ge] at hb ⊢
      omega
    · simpa using hB1.fr hf2 (fun h => h)

/-- Where it is greeted already or now. -/
theorem chunk_any {A : Option Addr} {n c : Nat} : Calls Try.prog 58 #[.slice A n c, .int .i64 1024] w fun e w' =>
    e = .returned (.func (.func 62) #[] #[.pointer (some ⟨w.heap.size, 0, none⟩), .pointer (some ⟨w.heap.size + 1, 0, none⟩)]) ∧ w' = (w.alloc (.cells #[.slice A n c] 28)).alloc (.cells #[.int .i64 1024] 3) := by
  go_enter Try.func58, Try.ntmps58
  go_wp2
  go_ret
  exact ⟨rfl, rfl⟩

/-- What has gone when the parts of pre are over. -/
def gone (s : PC) (pre : List (List UInt8)) : List UInt8 := s.greet ++ (pre.map datum).flatten
theorem gone_snoc (s : PC) (pre : List (List UInt8)) (x : List UInt8) : gone s (pre ++ [x]) = gone s pre ++ datum x := by simp [gone]

set_option maxRecDepth 100000 in
set_option maxHeartbeats 4000000 in
theorem send_go {O' : Nat → Prop} {b o c : Nat} {bs : List UInt8} (h : SWin w O a s) (hs : s.shut = false) (hr : RdB w O' (some ⟨b, o, none⟩) bs.length bs) (hO' : ∀ b, O' b → b ≠ a ∧ b < w.heap.size) (hnc : bs.length ≤ c) (hlen : bs.length ≤ 9000) (hne : 0 < bs.length) :
    Calls Try.prog 54 #[.pointer (some ⟨a, 0, none⟩), .slice (some ⟨b, o, none⟩) bs.length c] w (PutR w O a (gone s (parts bs (many bs))) { s with greeted := true }) := by
  have h' := h
  obtain ⟨h0, ha, A1, c1, hB, hc1, hc2, hr1⟩ := h'
  have c5 := hB.cell 5
  have hlt := hB.lt
  simp [hs] at c5
  obtain ⟨i0, hi, hz0, hz1, hz2⟩ := info_parts info_u8
  have HL := hid hlen
  generalize hn : bs.length = n at hnc hne hr
  have hn64 : n ≤ 9000 := by omega
  clear hlen
  refine (callsIn_wide (n := 3)).1 ?_
  refine callsIn_of_wp_marks Try.func54 rfl trivial ?_ rfl
  simp only [Try.ntmps54, List.size_toArray, List.length_cons, List.length_nil, Nat.reduceAdd, Nat.reduceSub, Array.replicate_succ, Array.replicate_zero, List.push_toArray, List.append_toArray, List.nil_append, List.cons_append]
  gi_wp2_with fail
  refine ⟨trivial, (callsIn_wide.2 (greet_any h)).mono ?_⟩
  rintro e w1 ⟨A2, c2, rfl, hown, hc2', hS1, hf1⟩
  gi_wp2_with fail
  refine ⟨trivial, (callsIn_wide.2 chunk_any).mono ?_⟩
  rintro e w2 ⟨rfl, rfl⟩
  gi_wp2_with fail
  have hbox : Blk (((w1.alloc (.cells #[.slice A2 s.greet.length c2] 28)).alloc (.cells #[.slice (some ⟨b, o, none⟩) n c] 28)).alloc (.cells #[.int .i64 1024] 3)) w1.heap.size 28 #[.slice A2 s.greet.length c2] := ((Blk.new w1 _ _).alloc _).alloc _
  have hb1 : Blk (((w1.alloc (.cells #[.slice A2 s.greet.length c2] 28)).alloc (.cells #[.slice (some ⟨b, o, none⟩) n c] 28)).alloc (.cells #[.int .i64 1024] 3)) (w1.heap.size + 1) 28 #[.slice (some ⟨b, o, none⟩) n c] := by
    have := (Blk.new (w1.alloc (.cells #[.slice A2 s.greet.length c2] 28)) 28 #[.slice (some ⟨b, o, none⟩) n c]).alloc (.cells #[.int .i64 1024] 3)
    simpa using this
  have hb2 : Blk (((w1.alloc (.cells #[.slice A2 s.greet.length c2] 28)).alloc (.cells #[.slice (some ⟨b, o, none⟩) n c] 28)).alloc (.cells #[.int .i64 1024] 3)) (w1.heap.size + 1 + 1) 3 #[.int .i64 1024] := by
    have := (Blk.new ((w1.alloc (.cells #[.slice A2 s.greet.length c2] 28)).alloc (.cells #[.slice (some ⟨b, o, none⟩) n c] 28)) 3 #[.int .i64 1024])
    simpa using this
  have hf2 : Fr No w1 (((w1.alloc (.cells #[.slice A2 s.greet.length c2] 28)).alloc (.cells #[.slice (some ⟨b, o, none⟩) n c] 28)).alloc (.cells #[.int .i64 1024] 3)) := (((Fr.refl No w1).alloc _).alloc _).alloc _
  have hsz : (((w1.alloc (.cells #[.slice A2 s.greet.length c2] 28)).alloc (.cells #[.slice (some ⟨b, o, none⟩) n c] 28)).alloc (.cells #[.int .i64 1024] 3)).heap.size = w1.heap.size + 3 := by simp
  generalize (((w1.alloc (.cells #[.slice A2 s.greet.length c2] 28)).alloc (.cells #[.slice (some ⟨b, o, none⟩) n c] 28)).alloc (.cells #[.int .i64 1024] 3)) = W0 at hbox hb1 hb2 hf2 hsz
  have hsw := hf1.size
  have hrW : RdB W0 O' (some ⟨b, o, none⟩) n bs := Rd.fr (Rd.fr hr hf1 (fun b _ hb => (hO' b hb).1)) hf2 (fun _ _ _ h => h)
  refine wp_range (gf := 62) (lb := #[.pointer (some ⟨w1.heap.size + 1, 0, none⟩), .pointer (some ⟨w1.heap.size + 1 + 1, 0, none⟩)]) rfl (enters_of Try.func62 (by kernel_rfl) rfl)
    (S := No) (T := fun x => w.heap.size ≤ x ∧ x ≠ w1.heap.size + 1 ∧ x ≠ w1.heap.size + 1 + 1)
    (chunk_iter (Bs := w1.heap.size + 1) hrW (fun x hx hT => absurd (hO' x hx).2 (Nat.not_lt.2 hT.1)) hnc (by omega) (by rw [hb1.cell]; rfl) (by rw [hb2.cell]; rfl) (by simp) (by simp))
    (fun _ h => h.elim) (fun x hx => ⟨by omega, by omega, by omega⟩)
    (fun pre x v Wp A B _ ⟨A', c', e1, e2, e3, e4, e5⟩ hf => ⟨A', c', e1, e2, e3, Rd.fr e4 hf (fun x _ hx ht => by have := hO' x hx; simp only [Two] at ht; omega), e5⟩)
    (fun pre W => ∃ A' c', Blk W w1.heap.size 28 #[.slice A' (gone s pre).length c'] ∧ Ost.Own W (fun x => w.heap.size ≤ x ∧ x ≠ w1.heap.size ∧ x ≠ w1.heap.size + 1 ∧ x ≠ w1.heap.size + 1 + 1 ∧ ¬ Two W0.heap.size x) 5 Byte A' (gone s pre).length c' ((gone s pre).map bv) ∧ c' ≤ maxLen ∧ Fr (Ge w.heap.size) w1 W ∧ (gone s pre).length ≤ 4 + 1027 * pre.length)
    ?hI ?h0 ?round ?done
  case hI =>
    rintro pre A B ⟨A', c', e1, e2, e3, e4, e5⟩ hf
    refine ⟨A', c', e1.fr hf ?_, e2.fr hf ?_, e3, e4.trans hf ?_, e5⟩
    · rintro (h | h)
      · exact h
      · simp only [Two] at h; omega
    · rintro x _ hx (h | h)
      · exact h
      · exact hx.2.2.2.2 h
    · rintro x hx (h | h)
      · exact h.elim
      · simp only [Two, Ge] at h ⊢; omega
  case h0 =>
    refine ⟨A2, c2, by simpa [gone] using hbox, ?_, hc2', hf2.of_no, by simp [gone, PC.greet]; split <;> simp⟩
    have := (hown.mono (O' := fun x => w.heap.size ≤ x ∧ x ≠ w1.heap.size ∧ x ≠ w1.heap.size + 1 ∧ x ≠ w1.heap.size + 1 + 1 ∧ ¬ Two W0.heap.size x) (fun x hl hx => ⟨hx, by omega, by omega, by omega, by simp only [Two]; omega⟩)).fr hf2 (fun _ _ _ h => h)
    simpa [gone] using this
  case round =>
    rintro l pre x v Wp W1 W2 K hszp ⟨A', c', e1, e2, e3, e4, e5⟩ hfp ⟨Ax, cx, rfl, hx1, hx2, hx3, hx4⟩ hK
    have HK := hid hK
    clear hK
    gi_wp2
    refine HK.out _ ?_
    have e1' := e1.fr hfp (by rintro (h | h); exact h; simp only [Two] at h; omega)
    have e2' := e2.fr hfp (by rintro y _ hy (h | h); exact h; exact hy.2.2.2.2 h)
    have e4' : Fr (Ge w.heap.size) w1 W2 := e4.trans hfp (by rintro y hy (h | h); exact h.elim; simp only [Two, Ge] at h ⊢; omega)
    have cb := e1'.cell 0
    simp at cb
    gi_wp2_with fail
    refine ⟨trivial, CallsIn.inRound l ((callsIn_wide.2 (record_any (c := cx) 2 hx3 hx1 (by omega))).mono ?_)⟩
    rintro e W3 ⟨A3, c3, rfl, hown3, hc3, hf3⟩
    have er : recOf 2 x = (datum x, 0) := by
      have : ¬ 1024 < x.length := by omega
      simp [recOf, this, datum]
    rw [er] at hown3 ⊢
    have hB3 := e1'.fr hf3 (fun h => h)
    have cb3 := hB3.cell 0
    have fb3 := hB3.frozen 0
    simp at cb3
    have hown3' := e2'.fr hf3 (fun _ _ _ h => h)
    have hsz3 := hf3.size
    have hsz2 := e4'.size
    have hszq := hfp.size
    have hglen : (gone s pre).length ≤ 100000000 := by omega
    have hdl : (datum x).length ≤ 1027 := by simp [datum, be2]; omega
    gi_wp2_with (gi_at_builtin; refine wpListIn_app _ rfl (.tmp 28) (.tmp 29) _ rfl 5 i0 _ 1 1 Try.underlying28 hi hz0 hz1 hz2 rfl (by omega) byte_zero (O := fun x => w.heap.size ≤ x ∧ x ≠ w1.heap.size ∧ x ≠ w1.heap.size + 1 ∧ x ≠ w1.heap.size + 1 + 1 ∧ ¬ Two W0.heap.size x) ⟨by omega, by omega, by omega, by omega, by simp only [Two]; omega⟩ rfl (by simpa using hown3') (m := (datum x).length) rfl (by simpa using hown3.rd) (bv_all _) (by simp only [maxLen]; omega) (by omega) ?_; intro A4 c4 w4 hown4 hf4 hc4 hA4; have hB4 := hB3.fr hf4 (fun hb => ((hown3'.at_ _ hb).2.1 rfl)); have cb4 := hB4.cell 0; have fb4 := hB4.frozen 0; simp at cb4)
    have hAt : ∀ y, At A' y → w.heap.size ≤ y ∧ y ≠ w1.heap.size ∧ y ≠ w1.heap.size + 1 ∧ y ≠ w1.heap.size + 1 + 1 ∧ ¬ Two W0.heap.size y := fun y hy => hown3'.at_ y hy
    have hfA : ∀ v, Fr (fun y => w.heap.size ≤ y ∧ y ≠ w1.heap.size + 1 ∧ y ≠ w1.heap.size + 1 + 1 ∧ ¬ Two W0.heap.size y) W2 (w4.setCell ⟨w1.heap.size, 0, none⟩ v) := fun v =>
      Fr.setCell (hf3.of_no.trans (hf4.mono (T := fun y => w.heap.size ≤ y ∧ y ≠ w1.heap.size + 1 ∧ y ≠ w1.heap.size + 1 + 1 ∧ ¬ Two W0.heap.size y) (fun y _ hy => ⟨(hAt y hy).1, (hAt y hy).2.2.1, (hAt y hy).2.2.2.1, (hAt y hy).2.2.2.2⟩)) (fun _ _ h => h)) (.inl ⟨hsw, by show w1.heap.size ≠ w1.heap.size + 1; omega, by show w1.heap.size ≠ w1.heap.size + 1 + 1; omega, by simp only [Two]; omega⟩) v
    refine ⟨(hfA _).mono fun y _ hy => ⟨⟨hy.1, hy.2.1, hy.2.2.1⟩, hy.2.2.2⟩, A4, c4, ?_, ?_, hc4 e3, e4'.trans (hfA _) (fun y _ hy => hy.1), ?_⟩
    · rw [gone_snoc, List.length_append]
      simpa using hB4.set_ 0 (.slice A4 ((gone s pre).length + (datum x).length) c4)
    · rw [gone_snoc, List.length_append, List.map_append]
      refine Ost.Own.fr (w := w4) (S := (· = w1.heap.size)) (by simpa using hown4) ((Fr.refl (· = w1.heap.size) w4).setCell (p := ⟨w1.heap.size, 0, none⟩) (.inl rfl) _) (fun y _ hy => hy.2.1)
    · rw [gone_snoc, List.length_append, List.length_append]
      simp only [List.length_cons, List.length_nil]
      omega
  case done =>
    rintro xs W2 W rfl ⟨A', c', e1, e2, e3, e4, e5⟩ hf hsz2 hD
    have cb := e1.cell 0
    simp at cb
    gi_wp2_with fail
    refine ⟨by simp, .inl ⟨_, _, rfl, run_takeDeferred hD, ?_⟩⟩
    refine ⟨_, results_tmp rfl _ _ _, A', c', rfl, ?_, e3, ?_, ?_⟩
    · exact (e2.fr (S := Two W0.heap.size) ((Fr.refl _ _).putObj (.inl (.inl rfl)) _) (fun y _ hy => hy.2.2.2.2)).mono fun y _ hy => hy.1
    · exact hS1.fr (e4.putObj (.inl (by simp only [Ge]; omega)) _) (fun y hy hge => by have := h0 y hy; simp only [Ge] at hge; omega)
    · exact hf1.trans (e4.putObj (.inl (by simp only [Ge]; omega)) _) (fun y hy hge => by simp only [Ge] at hge; omega)
end
end Go.Proofs.Ytfkkaalchffgaaa
