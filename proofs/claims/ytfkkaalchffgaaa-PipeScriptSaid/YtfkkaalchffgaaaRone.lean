/- The reference's Channel: its memory; one, each of its ways. -/
import Derived.Test.YtfkkaalchffgaaaOneC
import Derived.IntWalk
import Derived.Deep.QuietTactic
import Derived.BigQuiet
namespace Go.Proofs.Ytfkkaalchffgaaa
open Go.RowKit Go.Ost

/-- The reference's channel at block a, of the machine's state s. -/
def RWin (w : World) (O : Nat → Prop) (a : Nat) (seals : Bool) (s : PC) : Prop :=
  (∀ b, O b → b < w.heap.size) ∧ O a ∧ ∃ A c, Blk w a 52 #[.bool seals, .slice A s.b.length c, .bool s.hello, .bool s.broken, .bool s.ended, .bool s.greeted, .bool s.shut] ∧
    s.b.length ≤ c ∧ c ≤ maxLen ∧ RdB w (fun b => O b ∧ b ≠ a) A s.b.length s.b
/-- What the reference's 'one' hands back, and which channel it leaves. -/
def RoneR (w : World) (O : Nat → Prop) (a : Nat) (seals : Bool) (r : List UInt8 × Nat × Int × PC) (e : Ending) (w' : World) : Prop :=
  ∃ A n c, e = .returned (.tuple #[.slice A n c, .int .i64 (r.2.1 : Nat), .bool (r.2.1 != 0), .int .i64 r.2.2.1]) ∧ n ≤ c ∧ RdB w' (fun b => O b ∧ b ≠ a) A n r.1 ∧ RWin w' O a seals r.2.2.2 ∧ Fr (· = a) w w'

section
variable {w : World} {O S : Nat → Prop} {a : Nat} {s : PC} {seals : Bool}
theorem RWin.fr {w' : World} (h : RWin w O a seals s) (hf : Fr S w w') (hd : ∀ b, O b → ¬ S b) : RWin w' O a seals s := by
  obtain ⟨h0, ha, A, c, h1, h2, h3, h4⟩ := h
  exact ⟨fun b hb => Nat.lt_of_lt_of_le (h0 b hb) hf.size, ha, A, c, h1.fr hf (hd a ha), h2, h3, Rd.fr h4 hf fun b _ hb => hd b hb.1⟩
theorem roneR_nil {w' : World} (h : RWin w O a seals s) (hf : Fr No w w') (err : Int) : RoneR w O a seals ([], 0, err, s) (.returned (.tuple #[.slice none 0 0, .int .i64 0, .bool false, .int .i64 err])) w' :=
  ⟨none, 0, 0, rfl, Nat.le_refl _, Rd.nil _ _ _, h.fr hf (fun _ _ h => h), hf.of_no⟩
theorem fr_drewN (w : World) (k : Nat) : Fr No w (w.drewN k) := (Fr.refl No w).drewN k

set_option maxHeartbeats 4000000 in
theorem rone_empty (h : RWin w O a seals s) (hb : s.b = []) : Calls Try.prog 30 #[.pointer (some ⟨a, 0, none⟩)] w (RoneR w O a seals ([], 0, 0, s)) := by
  have h' := h
  obtain ⟨h0, ha, A, c, hB, hc1, hc2, hr⟩ := h'
  have c0 := hB.cell 1
  have hlt := hB.lt
  rw [hb] at c0
  simp at c0
  go_enter Try.func30, Try.ntmps30
  go_wp2
  refine bodyPost_ret (v := .tuple #[.slice none 0 0, .int .i64 0, .bool false, .int .i64 0]) (by simp [results, Try.results30, go_sem]) rfl ?_
  exact roneR_nil h (Fr.refl _ _) 0

set_option maxHeartbeats 4000000 in
theorem rone_badkind {z : UInt8} {t : List UInt8} (h : RWin w O a seals s) (hb : s.b = z :: t) (hbad : z.toNat < 1 ∨ 3 < z.toNat ∨ decide (z.toNat = 1) = s.hello) : Calls Try.prog 30 #[.pointer (some ⟨a, 0, none⟩)] w (RoneR w O a seals ([], 0, 4, s)) := by
  have h' := h
  obtain ⟨h0, ha, A, c, hB, hc1, hc2, hr⟩ := h'
  have c1 := hB.cell 1
  have c2 := hB.cell 2
  have hlt := hB.lt
  have hl : 0 < s.b.length := by rw [hb]; simp
  obtain ⟨b, o, rfl, _, hc⟩ := hr.2 hl
  have hz := hc 0 (bv z) (by rw [hb]; rfl)
  rw [Nat.add_zero] at hz
  unfold bv at hz
  simp at c1 c2
  generalize s.b.length = n at hl c1
  generalize hq : s.hello = q at c2 hbad
  have hzl := z.toNat_lt
  have HR := hid hr
  clear hr hc hB
  have hsp : z.toNat < 1 ∨ 3 < z.toNat ∨ (1 ≤ z.toNat ∧ z.toNat ≤ 3 ∧ decide (z.toNat = 1) = q) := by
    rcases hbad with h | h | h
    · exact .inl h
    · exact .inr (.inl h)
    · rcases (by omega : z.toNat < 1 ∨ 3 < z.toNat ∨ (1 ≤ z.toNat ∧ z.toNat ≤ 3)) with h1 | h1 | h1
      · exact .inl h1
      · exact .inr (.inl h1)
      · exact .inr (.inr ⟨h1.1, h1.2, h⟩)
  clear hbad
  rcases hsp with h1 | h1 | ⟨h1, h2, h3⟩
  · go_enter Try.func30, Try.ntmps30
    go_wp2
    refine bodyPost_ret (v := .tuple #[.slice none 0 0, .int .i64 0, .bool false, .int .i64 4]) (by simp [results, Try.results30, go_sem]) rfl ?_
    exact roneR_nil h (Fr.refl _ _) 4
  · go_enter Try.func30, Try.ntmps30
    go_wp2
    refine bodyPost_ret (v := .tuple #[.slice none 0 0, .int .i64 0, .bool false, .int .i64 4]) (by simp [results, Try.results30, go_sem]) rfl ?_
    exact roneR_nil h (Fr.refl _ _) 4
  · subst h3
    have h4 : ((z.toNat : Int) == 1) = decide (z.toNat = 1) := by
      by_cases e : z.toNat = 1
      · simp [e]
      · simp [e]; omega
    generalize decide (z.toNat = 1) = q at c2 h4
    go_enter Try.func30, Try.ntmps30
    go_wp2
    refine bodyPost_ret (v := .tuple #[.slice none 0 0, .int .i64 0, .bool false, .int .i64 4]) (by simp [results, Try.results30, go_sem]) rfl ?_
    exact roneR_nil h (Fr.refl _ _) 4

set_option maxHeartbeats 4000000 in
theorem rone_none1 {z : UInt8} {t : List UInt8} (h : RWin w O a seals s) (hb : s.b = z :: t) (hz : z.toNat = 1) (hh : s.hello = false) (_hs : s.b.length ≤ 100000000) (hn : s.b.length < 3) :
    Calls Try.prog 30 #[.pointer (some ⟨a, 0, none⟩)] w (RoneR w O a seals ([], 0, 0, s)) := by
  have h' := h
  obtain ⟨h0, ha, A, c, hB, hc1, hc2, hr⟩ := h'
  have c1 := hB.cell 1
  have c2 := hB.cell 2
  have hlt := hB.lt
  have hl : 0 < s.b.length := by rw [hb]; simp
  obtain ⟨b, o, rfl, hOb, hc⟩ := hr.2 hl
  have hzc := hc 0 (bv z) (by rw [hb]; rfl)
  rw [Nat.add_zero] at hzc
  unfold bv at hzc
  rw [hz] at hzc
  simp [hh] at c1 c2
  generalize s.b.length = n at hl c1 hn
  clear hr hc hB hb
  go_enter Try.func30, Try.ntmps30
  go_wp2
  refine bodyPost_ret (v := .tuple #[.slice none 0 0, .int .i64 0, .bool false, .int .i64 0]) (by simp [results, Try.results30, go_sem]) rfl ?_
  exact roneR_nil h (Fr.refl _ _) 0

set_option maxHeartbeats 4000000 in
theorem rone_none2 {z : UInt8} {t : List UInt8} (h : RWin w O a seals s) (hb : s.b = z :: t) (hz : z.toNat = 2) (hh : s.hello = true) (_hs : s.b.length ≤ 100000000) (hn : s.b.length < 3) :
    Calls Try.prog 30 #[.pointer (some ⟨a, 0, none⟩)] w (RoneR w O a seals ([], 0, 0, s)) := by
  have h' := h
  obtain ⟨h0, ha, A, c, hB, hc1, hc2, hr⟩ := h'
  have c1 := hB.cell 1
  have c2 := hB.cell 2
  have hlt := hB.lt
  have hl : 0 < s.b.length := by rw [hb]; simp
  obtain ⟨b, o, rfl, hOb, hc⟩ := hr.2 hl
  have hzc := hc 0 (bv z) (by rw [hb]; rfl)
  rw [Nat.add_zero] at hzc
  unfold bv at hzc
  rw [hz] at hzc
  simp [hh] at c1 c2
  generalize s.b.length = n at hl c1 hn
  clear hr hc hB hb
  go_enter Try.func30, Try.ntmps30
  go_wp2
  refine bodyPost_ret (v := .tuple #[.slice none 0 0, .int .i64 0, .bool false, .int .i64 0]) (by simp [results, Try.results30, go_sem]) rfl ?_
  exact roneR_nil h (Fr.refl _ _) 0

set_option maxHeartbeats 4000000 in
theorem rone_none3 {z : UInt8} {t : List UInt8} (h : RWin w O a seals s) (hb : s.b = z :: t) (hz : z.toNat = 3) (hh : s.hello = true) (_hs : s.b.length ≤ 100000000) (hn : s.b.length < 3) :
    Calls Try.prog 30 #[.pointer (some ⟨a, 0, none⟩)] w (RoneR w O a seals ([], 0, 0, s)) := by
  have h' := h
  obtain ⟨h0, ha, A, c, hB, hc1, hc2, hr⟩ := h'
  have c1 := hB.cell 1
  have c2 := hB.cell 2
  have hlt := hB.lt
  have hl : 0 < s.b.length := by rw [hb]; simp
  obtain ⟨b, o, rfl, hOb, hc⟩ := hr.2 hl
  have hzc := hc 0 (bv z) (by rw [hb]; rfl)
  rw [Nat.add_zero] at hzc
  unfold bv at hzc
  rw [hz] at hzc
  simp [hh] at c1 c2
  generalize s.b.length = n at hl c1 hn
  clear hr hc hB hb
  go_enter Try.func30, Try.ntmps30
  go_wp2
  refine bodyPost_ret (v := .tuple #[.slice none 0 0, .int .i64 0, .bool false, .int .i64 0]) (by simp [results, Try.results30, go_sem]) rfl ?_
  exact roneR_nil h (Fr.refl _ _) 0

set_option maxHeartbeats 4000000 in
theorem rone_size1 {z : UInt8} {t : List UInt8} {x y : UInt8} {r : List UInt8} {m : Nat} (h : RWin w O a seals s) (hb : s.b = z :: t) (hz : z.toNat = 1) (hh : s.hello = false) (_hs : s.b.length ≤ 100000000) (hb2 : s.b = z :: x :: y :: r) (hn : 256 * x.toNat + y.toNat = m) (hm : m ≠ 1) :
    Calls Try.prog 30 #[.pointer (some ⟨a, 0, none⟩)] w (RoneR w O a seals ([], 0, 4, s)) := by
  have h' := h
  obtain ⟨h0, ha, A, c, hB, hc1, hc2, hr⟩ := h'
  have c1 := hB.cell 1
  have c2 := hB.cell 2
  have hlt := hB.lt
  have hl : 0 < s.b.length := by rw [hb]; simp
  obtain ⟨b, o, rfl, hOb, hc⟩ := hr.2 hl
  have hzc := hc 0 (bv z) (by rw [hb]; rfl)
  rw [Nat.add_zero] at hzc
  unfold bv at hzc
  rw [hz] at hzc
  simp [hh] at c1 c2
  have hlen : 3 ≤ s.b.length := by rw [hb2]; simp
  have hx := hc 1 (bv x) (by rw [hb2]; rfl)
  have hy := hc 2 (bv y) (by rw [hb2]; rfl)
  unfold bv at hx hy
  have hxl := x.toNat_lt
  have hyl := y.toNat_lt
  have hw1 : IntKind.i64.wrap (256 * (x.toNat : Int)) = 256 * (x.toNat : Int) := IntWalk.i64_in _ (by omega)
  have hw2 : IntKind.i64.wrap (256 * (x.toNat : Int) + (y.toNat : Int)) = 256 * (x.toNat : Int) + (y.toNat : Int) := IntWalk.i64_in _ (by omega)
  have hsum : 256 * (x.toNat : Int) + (y.toNat : Int) = (m : Int) := by omega
  rw [hsum] at hw2
  have hx1 : (0 : Int) ≤ x.toNat := by omega
  have hm1 : ((m : Int) != 1) = true := by simp only [bne_iff_ne, ne_eq]; omega
  generalize s.b.length = n at hl c1 hlen
  have HR := hid hr
  have HC := hid hc
  have HB := hid hB
  have HH := hid h
  clear hr hc hB h hb2 hb hn
  go_enter Try.func30, Try.ntmps30
  go_wp2
  go_quiet (fail)
  clear hw1 hw2 hsum
  go_wp2
  refine bodyPost_ret (v := .tuple #[.slice none 0 0, .int .i64 0, .bool false, .int .i64 4]) (by simp [results, Try.results30, go_sem]) rfl ?_
  exact roneR_nil HH.out (fr_drewN _ _) 4

set_option maxHeartbeats 4000000 in
theorem rone_size3 {z : UInt8} {t : List UInt8} {x y : UInt8} {r : List UInt8} {m : Nat} (h : RWin w O a seals s) (hb : s.b = z :: t) (hz : z.toNat = 3) (hh : s.hello = true) (_hs : s.b.length ≤ 100000000) (hb2 : s.b = z :: x :: y :: r) (hn : 256 * x.toNat + y.toNat = m) (hm : m ≠ 0) :
    Calls Try.prog 30 #[.pointer (some ⟨a, 0, none⟩)] w (RoneR w O a seals ([], 0, 4, s)) := by
  have h' := h
  obtain ⟨h0, ha, A, c, hB, hc1, hc2, hr⟩ := h'
  have c1 := hB.cell 1
  have c2 := hB.cell 2
  have hlt := hB.lt
  have hl : 0 < s.b.length := by rw [hb]; simp
  obtain ⟨b, o, rfl, hOb, hc⟩ := hr.2 hl
  have hzc := hc 0 (bv z) (by rw [hb]; rfl)
  rw [Nat.add_zero] at hzc
  unfold bv at hzc
  rw [hz] at hzc
  simp [hh] at c1 c2
  have hlen : 3 ≤ s.b.length := by rw [hb2]; simp
  have hx := hc 1 (bv x) (by rw [hb2]; rfl)
  have hy := hc 2 (bv y) (by rw [hb2]; rfl)
  unfold bv at hx hy
  have hxl := x.toNat_lt
  have hyl := y.toNat_lt
  have hw1 : IntKind.i64.wrap (256 * (x.toNat : Int)) = 256 * (x.toNat : Int) := IntWalk.i64_in _ (by omega)
  have hw2 : IntKind.i64.wrap (256 * (x.toNat : Int) + (y.toNat : Int)) = 256 * (x.toNat : Int) + (y.toNat : Int) := IntWalk.i64_in _ (by omega)
  have hsum : 256 * (x.toNat : Int) + (y.toNat : Int) = (m : Int) := by omega
  rw [hsum] at hw2
  have hx1 : (0 : Int) ≤ x.toNat := by omega
  have hm1 : ((m : Int) != 0) = true := by simp only [bne_iff_ne, ne_eq]; omega
  generalize s.b.length = n at hl c1 hlen
  have HR := hid hr
  have HC := hid hc
  have HB := hid hB
  have HH := hid h
  clear hr hc hB h hb2 hb hn
  go_enter Try.func30, Try.ntmps30
  go_wp2
  go_quiet (fail)
  clear hw1 hw2 hsum
  go_wp2
  refine bodyPost_ret (v := .tuple #[.slice none 0 0, .int .i64 0, .bool false, .int .i64 4]) (by simp [results, Try.results30, go_sem]) rfl ?_
  exact roneR_nil HH.out (fr_drewN _ _) 4

set_option maxHeartbeats 4000000 in
theorem rone_long2 {z : UInt8} {t : List UInt8} {x y : UInt8} {r : List UInt8} {m : Nat} (h : RWin w O a seals s) (hb : s.b = z :: t) (hz : z.toNat = 2) (hh : s.hello = true) (_hs : s.b.length ≤ 100000000) (hb2 : s.b = z :: x :: y :: r) (hn : 256 * x.toNat + y.toNat = m) (hm : 1024 < m) :
    Calls Try.prog 30 #[.pointer (some ⟨a, 0, none⟩)] w (RoneR w O a seals ([], 0, 3, s)) := by
  have h' := h
  obtain ⟨h0, ha, A, c, hB, hc1, hc2, hr⟩ := h'
  have c1 := hB.cell 1
  have c2 := hB.cell 2
  have hlt := hB.lt
  have hl : 0 < s.b.length := by rw [hb]; simp
  obtain ⟨b, o, rfl, hOb, hc⟩ := hr.2 hl
  have hzc := hc 0 (bv z) (by rw [hb]; rfl)
  rw [Nat.add_zero] at hzc
  unfold bv at hzc
  rw [hz] at hzc
  simp [hh] at c1 c2
  have hlen : 3 ≤ s.b.length := by rw [hb2]; simp
  have hx := hc 1 (bv x) (by rw [hb2]; rfl)
  have hy := hc 2 (bv y) (by rw [hb2]; rfl)
  unfold bv at hx hy
  have hxl := x.toNat_lt
  have hyl := y.toNat_lt
  have hw1 : IntKind.i64.wrap (256 * (x.toNat : Int)) = 256 * (x.toNat : Int) := IntWalk.i64_in _ (by omega)
  have hw2 : IntKind.i64.wrap (256 * (x.toNat : Int) + (y.toNat : Int)) = 256 * (x.toNat : Int) + (y.toNat : Int) := IntWalk.i64_in _ (by omega)
  have hsum : 256 * (x.toNat : Int) + (y.toNat : Int) = (m : Int) := by omega
  rw [hsum] at hw2
  have hx1 : (0 : Int) ≤ x.toNat := by omega
  generalize s.b.length = n at hl c1 hlen
  have HR := hid hr
  have HC := hid hc
  have HB := hid hB
  have HH := hid h
  clear hr hc hB h hb2 hb hn
  go_enter Try.func30, Try.ntmps30
  go_wp2
  go_quiet (fail)
  clear hw1 hw2 hsum
  go_wp2
  refine bodyPost_ret (v := .tuple #[.slice none 0 0, .int .i64 0, .bool false, .int .i64 3]) (by simp [results, Try.results30, go_sem]) rfl ?_
  exact roneR_nil HH.out (fr_drewN _ _) 3

set_option maxHeartbeats 4000000 in
theorem rone_short1 {z : UInt8} {t : List UInt8} {x y : UInt8} {r : List UInt8} (h : RWin w O a seals s) (hb : s.b = z :: t) (hz : z.toNat = 1) (hh : s.hello = false) (_hs : s.b.length ≤ 100000000) (hb2 : s.b = z :: x :: y :: r) (hn : 256 * x.toNat + y.toNat = 1) (hm : s.b.length < 4) :
    Calls Try.prog 30 #[.pointer (some ⟨a, 0, none⟩)] w (RoneR w O a seals ([], 0, 0, s)) := by
  have h' := h
  obtain ⟨h0, ha, A, c, hB, hc1, hc2, hr⟩ := h'
  have c1 := hB.cell 1
  have c2 := hB.cell 2
  have hlt := hB.lt
  have hl : 0 < s.b.length := by rw [hb]; simp
  obtain ⟨b, o, rfl, hOb, hc⟩ := hr.2 hl
  have hzc := hc 0 (bv z) (by rw [hb]; rfl)
  rw [Nat.add_zero] at hzc
  unfold bv at hzc
  rw [hz] at hzc
  simp [hh] at c1 c2
  have hlen : 3 ≤ s.b.length := by rw [hb2]; simp
  have hx := hc 1 (bv x) (by rw [hb2]; rfl)
  have hy := hc 2 (bv y) (by rw [hb2]; rfl)
  unfold bv at hx hy
  have hxl := x.toNat_lt
  have hyl := y.toNat_lt
  have hw1 : IntKind.i64.wrap (256 * (x.toNat : Int)) = 256 * (x.toNat : Int) := IntWalk.i64_in _ (by omega)
  have hw2 : IntKind.i64.wrap (256 * (x.toNat : Int) + (y.toNat : Int)) = 256 * (x.toNat : Int) + (y.toNat : Int) := IntWalk.i64_in _ (by omega)
  have hsum : 256 * (x.toNat : Int) + (y.toNat : Int) = 1 := by omega
  rw [hsum] at hw2
  have hx1 : (0 : Int) ≤ x.toNat := by omega
  generalize s.b.length = n at hl c1 hlen hm
  have HR := hid hr
  have HC := hid hc
  have HB := hid hB
  have HH := hid h
  clear hr hc hB h hb2 hb hn
  go_enter Try.func30, Try.ntmps30
  go_wp2
  go_quiet (fail)
  clear hw1 hw2 hsum
  go_wp2
  refine bodyPost_ret (v := .tuple #[.slice none 0 0, .int .i64 0, .bool false, .int .i64 0]) (by simp [results, Try.results30, go_sem]) rfl ?_
  exact roneR_nil HH.out (fr_drewN _ _) 0

set_option maxHeartbeats 4000000 in
theorem rone_short2 {z : UInt8} {t : List UInt8} {x y : UInt8} {r : List UInt8} {m : Nat} (h : RWin w O a seals s) (hb : s.b = z :: t) (hz : z.toNat = 2) (hh : s.hello = true) (hs : s.b.length ≤ 100000000) (hb2 : s.b = z :: x :: y :: r) (hn : 256 * x.toNat + y.toNat = m) (hm1 : m ≤ 1024) (hm : s.b.length < 3 + m) :
    Calls Try.prog 30 #[.pointer (some ⟨a, 0, none⟩)] w (RoneR w O a seals ([], 0, 0, s)) := by
  have h' := h
  obtain ⟨h0, ha, A, c, hB, hc1, hc2, hr⟩ := h'
  have c1 := hB.cell 1
  have c2 := hB.cell 2
  have hlt := hB.lt
  have hl : 0 < s.b.length := by rw [hb]; simp
  obtain ⟨b, o, rfl, hOb, hc⟩ := hr.2 hl
  have hzc := hc 0 (bv z) (by rw [hb]; rfl)
  rw [Nat.add_zero] at hzc
  unfold bv at hzc
  rw [hz] at hzc
  simp [hh] at c1 c2
  have hlen : 3 ≤ s.b.length := by rw [hb2]; simp
  have hx := hc 1 (bv x) (by rw [hb2]; rfl)
  have hy := hc 2 (bv y) (by rw [hb2]; rfl)
  unfold bv at hx hy
  have hxl := x.toNat_lt
  have hyl := y.toNat_lt
  have hw1 : IntKind.i64.wrap (256 * (x.toNat : Int)) = 256 * (x.toNat : Int) := IntWalk.i64_in _ (by omega)
  have hw2 : IntKind.i64.wrap (256 * (x.toNat : Int) + (y.toNat : Int)) = 256 * (x.toNat : Int) + (y.toNat : Int) := IntWalk.i64_in _ (by omega)
  have hsum : 256 * (x.toNat : Int) + (y.toNat : Int) = (m : Int) := by omega
  rw [hsum] at hw2
  have hx1 : (0 : Int) ≤ x.toNat := by omega
  have hml : m ≤ 1024 := hm1
  generalize s.b.length = n at hl c1 hlen hm hs
  have HR := hid hr
  have HC := hid hc
  have HB := hid hB
  have HH := hid h
  clear hr hc hB h hb2 hb hn
  go_enter Try.func30, Try.ntmps30
  go_wp2
  go_quiet (fail)
  clear hw1 hw2 hsum
  go_wp2
  refine bodyPost_ret (v := .tuple #[.slice none 0 0, .int .i64 0, .bool false, .int .i64 0]) (by simp [results, Try.results30, go_sem]) rfl ?_
  exact roneR_nil HH.out (fr_drewN _ _) 0

set_option maxHeartbeats 4000000 in
theorem rone_nohello {z : UInt8} {t : List UInt8} {x y : UInt8} {r : List UInt8} (h : RWin w O a seals s) (hb : s.b = z :: t) (hz : z.toNat = 1) (hh : s.hello = false) (hs : s.b.length ≤ 100000000) (hb2 : s.b = z :: x :: y :: r) (hn : 256 * x.toNat + y.toNat = 1) {v : UInt8} (hv3 : s.b[3]? = some v) (hv1 : v ≠ 1) :
    Calls Try.prog 30 #[.pointer (some ⟨a, 0, none⟩)] w (RoneR w O a seals ([], 0, 4, s)) := by
  have h' := h
  obtain ⟨h0, ha, A, c, hB, hc1, hc2, hr⟩ := h'
  have c1 := hB.cell 1
  have c2 := hB.cell 2
  have hlt := hB.lt
  have hl : 0 < s.b.length := by rw [hb]; simp
  obtain ⟨b, o, rfl, hOb, hc⟩ := hr.2 hl
  have hzc := hc 0 (bv z) (by rw [hb]; rfl)
  rw [Nat.add_zero] at hzc
  unfold bv at hzc
  rw [hz] at hzc
  simp [hh] at c1 c2
  have hlen : 3 ≤ s.b.length := by rw [hb2]; simp
  have hx := hc 1 (bv x) (by rw [hb2]; rfl)
  have hy := hc 2 (bv y) (by rw [hb2]; rfl)
  unfold bv at hx hy
  have hxl := x.toNat_lt
  have hyl := y.toNat_lt
  have hw1 : IntKind.i64.wrap (256 * (x.toNat : Int)) = 256 * (x.toNat : Int) := IntWalk.i64_in _ (by omega)
  have hw2 : IntKind.i64.wrap (256 * (x.toNat : Int) + (y.toNat : Int)) = 256 * (x.toNat : Int) + (y.toNat : Int) := IntWalk.i64_in _ (by omega)
  have hsum : 256 * (x.toNat : Int) + (y.toNat : Int) = 1 := by omega
  rw [hsum] at hw2
  have hx1 : (0 : Int) ≤ x.toNat := by omega
  have hl4 : 4 ≤ s.b.length := by have := (List.getElem?_eq_some_iff.1 hv3).1; omega
  have hv := hc 3 (bv v) (by rw [List.getElem?_map, hv3]; rfl)
  unfold bv at hv
  have hvn : ((v.toNat : Int) != 1) = true := by
    simp only [bne_iff_ne, ne_eq]
    intro e
    exact hv1 (UInt8.toNat_inj.1 (by simpa using (by omega : v.toNat = 1)))
  have HV := hid hv3
  clear hv3
  generalize s.b.length = n at hl c1 hlen hl4 hs
  have HR := hid hr
  have HC := hid hc
  have HB := hid hB
  have HH := hid h
  clear hr hc hB h hb2 hb hn
  go_enter Try.func30, Try.ntmps30
  go_wp2
  go_quiet (fail)
  clear hw1 hw2 hsum
  go_wp2
  refine bodyPost_ret (v := .tuple #[.slice none 0 0, .int .i64 0, .bool false, .int .i64 4]) (by simp [results, Try.results30, go_sem]) rfl ?_
  exact roneR_nil HH.out (fr_drewN _ _) 4

set_option maxHeartbeats 4000000 in
theorem rone_hello {z : UInt8} {t : List UInt8} {x y : UInt8} {r : List UInt8} (h : RWin w O a seals s) (hb : s.b = z :: t) (hz : z.toNat = 1) (hh : s.hello = false) (hs : s.b.length ≤ 100000000) (hb2 : s.b = z :: x :: y :: r) (hn : 256 * x.toNat + y.toNat = 1) (hv3 : s.b[3]? = some 1) :
    Calls Try.prog 30 #[.pointer (some ⟨a, 0, none⟩)] w (RoneR w O a seals ([], 4, 0, { s with hello := true })) := by
  have h' := h
  obtain ⟨h0, ha, A, c, hB, hc1, hc2, hr⟩ := h'
  have c1 := hB.cell 1
  have c2 := hB.cell 2
  have hlt := hB.lt
  have hl : 0 < s.b.length := by rw [hb]; simp
  obtain ⟨b, o, rfl, hOb, hc⟩ := hr.2 hl
  have hzc := hc 0 (bv z) (by rw [hb]; rfl)
  rw [Nat.add_zero] at hzc
  unfold bv at hzc
  rw [hz] at hzc
  simp [hh] at c1 c2
  have hlen : 3 ≤ s.b.length := by rw [hb2]; simp
  have hx := hc 1 (bv x) (by rw [hb2]; rfl)
  have hy := hc 2 (bv y) (by rw [hb2]; rfl)
  unfold bv at hx hy
  have hxl := x.toNat_lt
  have hyl := y.toNat_lt
  have hw1 : IntKind.i64.wrap (256 * (x.toNat : Int)) = 256 * (x.toNat : Int) := IntWalk.i64_in _ (by omega)
  have hw2 : IntKind.i64.wrap (256 * (x.toNat : Int) + (y.toNat : Int)) = 256 * (x.toNat : Int) + (y.toNat : Int) := IntWalk.i64_in _ (by omega)
  have hsum : 256 * (x.toNat : Int) + (y.toNat : Int) = 1 := by omega
  rw [hsum] at hw2
  have hx1 : (0 : Int) ≤ x.toNat := by omega
  have hl4 : 4 ≤ s.b.length := by have := (List.getElem?_eq_some_iff.1 hv3).1; omega
  have hv := hc 3 (bv 1) (by rw [List.getElem?_map, hv3]; rfl)
  have f2 := hB.frozen 2
  unfold bv at hv
  have e1 : (1 : UInt8).toNat = 1 := rfl
  rw [e1] at hv
  have HV := hid hv3
  clear hv3 e1
  generalize hsl : s.b.length = n at hl c1 hlen hl4 hs
  have HSL := hid hsl
  clear hsl
  have HR := hid hr
  have HC := hid hc
  have HB := hid hB
  have HH := hid h
  clear hr hc hB h hb2 hb hn
  go_enter Try.func30, Try.ntmps30
  go_wp2
  go_quiet (fail)
  clear hw1 hw2 hsum
  go_wp2
  refine bodyPost_ret (v := .tuple #[.slice none 0 0, .int .i64 4, .bool true, .int .i64 0]) (by simp [results, Try.results30, go_sem]) rfl ?_
  have hf : Fr (· = a) w ((w.drewN nq).setCell ⟨a, 2, none⟩ (.bool true)) := ((Fr.refl (· = a) w).drewN nq).setCell (p := ⟨a, 2, none⟩) (.inl rfl) _
  have hs1 := HSL.out
  subst hs1
  exact ⟨none, 0, 0, rfl, Nat.le_refl _, Rd.nil _ _ _, ⟨fun y hy => Nat.lt_of_lt_of_le (h0 y hy) hf.size, ha, some ⟨b, o, none⟩, c, by simpa [hh] using (HB.out.drewN nq).set_ 2 (.bool true), hc1, hc2, Rd.fr HR.out hf (fun y _ hy => hy.2)⟩, hf⟩

set_option maxHeartbeats 4000000 in
theorem rone_close {z : UInt8} {t : List UInt8} {x y : UInt8} {r : List UInt8} (h : RWin w O a seals s) (hb : s.b = z :: t) (hz : z.toNat = 3) (hh : s.hello = true) (hs : s.b.length ≤ 100000000) (hb2 : s.b = z :: x :: y :: r) (hn : 256 * x.toNat + y.toNat = 0) :
    Calls Try.prog 30 #[.pointer (some ⟨a, 0, none⟩)] w (RoneR w O a seals ([], 3, 0, { s with ended := true })) := by
  have h' := h
  obtain ⟨h0, ha, A, c, hB, hc1, hc2, hr⟩ := h'
  have c1 := hB.cell 1
  have c2 := hB.cell 2
  have hlt := hB.lt
  have hl : 0 < s.b.length := by rw [hb]; simp
  obtain ⟨b, o, rfl, hOb, hc⟩ := hr.2 hl
  have hzc := hc 0 (bv z) (by rw [hb]; rfl)
  rw [Nat.add_zero] at hzc
  unfold bv at hzc
  rw [hz] at hzc
  simp [hh] at c1 c2
  have hlen : 3 ≤ s.b.length := by rw [hb2]; simp
  have hx := hc 1 (bv x) (by rw [hb2]; rfl)
  have hy := hc 2 (bv y) (by rw [hb2]; rfl)
  unfold bv at hx hy
  have hxl := x.toNat_lt
  have hyl := y.toNat_lt
  have hw1 : IntKind.i64.wrap (256 * (x.toNat : Int)) = 256 * (x.toNat : Int) := IntWalk.i64_in _ (by omega)
  have hw2 : IntKind.i64.wrap (256 * (x.toNat : Int) + (y.toNat : Int)) = 256 * (x.toNat : Int) + (y.toNat : Int) := IntWalk.i64_in _ (by omega)
  have hsum : 256 * (x.toNat : Int) + (y.toNat : Int) = 0 := by omega
  rw [hsum] at hw2
  have hx1 : (0 : Int) ≤ x.toNat := by omega
  have f4 := hB.frozen 4
  have c4 := hB.cell 4
  simp at c4
  generalize hsl : s.b.length = n at hl c1 hlen hs
  have HSL := hid hsl
  clear hsl
  have HR := hid hr
  have HC := hid hc
  have HB := hid hB
  have HH := hid h
  clear hr hc hB h hb2 hb hn
  go_enter Try.func30, Try.ntmps30
  go_wp2
  go_quiet (fail)
  clear hw1 hw2 hsum
  go_wp2
  refine bodyPost_ret (v := .tuple #[.slice none 0 0, .int .i64 3, .bool true, .int .i64 0]) (by simp [results, Try.results30, go_sem]) rfl ?_
  have hf : Fr (· = a) w ((w.drewN nq).setCell ⟨a, 4, none⟩ (.bool true)) := ((Fr.refl (· = a) w).drewN nq).setCell (p := ⟨a, 4, none⟩) (.inl rfl) _
  have hs1 := HSL.out
  subst hs1
  exact ⟨none, 0, 0, rfl, Nat.le_refl _, Rd.nil _ _ _, ⟨fun y hy => Nat.lt_of_lt_of_le (h0 y hy) hf.size, ha, some ⟨b, o, none⟩, c, by simpa [hh] using (HB.out.drewN nq).set_ 4 (.bool true), hc1, hc2, Rd.fr HR.out hf (fun y _ hy => hy.2)⟩, hf⟩

set_option maxHeartbeats 4000000 in
theorem rone_data {z : UInt8} {t : List UInt8} {x y : UInt8} {r : List UInt8} {m : Nat} (h : RWin w O a seals s) (hb : s.b = z :: t) (hz : z.toNat = 2) (hh : s.hello = true) (hs : s.b.length ≤ 100000000) (hb2 : s.b = z :: x :: y :: r) (hn : 256 * x.toNat + y.toNat = m) (hm1 : m ≤ 1024) (hm : 3 + m ≤ s.b.length) :
    Calls Try.prog 30 #[.pointer (some ⟨a, 0, none⟩)] w (RoneR w O a seals ((s.b.drop 3).take m, 3 + m, 0, s)) := by
  have h' := h
  obtain ⟨h0, ha, A, c, hB, hc1, hc2, hr⟩ := h'
  have c1 := hB.cell 1
  have c2 := hB.cell 2
  have hlt := hB.lt
  have hl : 0 < s.b.length := by rw [hb]; simp
  obtain ⟨b, o, rfl, hOb, hc⟩ := hr.2 hl
  have hzc := hc 0 (bv z) (by rw [hb]; rfl)
  rw [Nat.add_zero] at hzc
  unfold bv at hzc
  rw [hz] at hzc
  simp [hh] at c1 c2
  have hlen : 3 ≤ s.b.length := by rw [hb2]; simp
  have hx := hc 1 (bv x) (by rw [hb2]; rfl)
  have hy := hc 2 (bv y) (by rw [hb2]; rfl)
  unfold bv at hx hy
  have hxl := x.toNat_lt
  have hyl := y.toNat_lt
  have hw1 : IntKind.i64.wrap (256 * (x.toNat : Int)) = 256 * (x.toNat : Int) := IntWalk.i64_in _ (by omega)
  have hw2 : IntKind.i64.wrap (256 * (x.toNat : Int) + (y.toNat : Int)) = 256 * (x.toNat : Int) + (y.toNat : Int) := IntWalk.i64_in _ (by omega)
  have hsum : 256 * (x.toNat : Int) + (y.toNat : Int) = (m : Int) := by omega
  rw [hsum] at hw2
  have hx1 : (0 : Int) ≤ x.toNat := by omega
  have hml : m ≤ 1024 := hm1
  generalize hsl : s.b.length = n at hl c1 hlen hm hs hc1
  have HSL := hid hsl
  have hne : 3 + m ≠ 0 := by omega
  clear hsl
  have HR := hid hr
  have HC := hid hc
  have HB := hid hB
  have HH := hid h
  clear hr hc hB h hb2 hb hn
  go_enter Try.func30, Try.ntmps30
  go_wp2
  go_quiet (fail)
  clear hw1 hw2 hsum
  have hr1 : RdB (w.drewN nq) (fun b => O b ∧ b ≠ a) (some ⟨b, o, none⟩) n s.b := by have := HR.out; rw [HSL.out] at this; exact this
  rcases (by omega : c = 3 ∨ 3 < c) with hc3 | hc3
  · subst hc3
    go_wp2
    refine bodyPost_ret (v := .tuple #[.slice (some ⟨b, o, none⟩) m 0, .int .i64 (3 + (m : Nat)), .bool true, .int .i64 0]) (by simp [results, Try.results30, go_sem]) rfl ?_
    have hm0 : m = 0 := by omega
    subst hm0
    exact ⟨some ⟨b, o, none⟩, 0, 0, by simp, Nat.le_refl _, by simpa [RdB] using Rd.nil _ _ (some ⟨b, o, none⟩), HH.out.fr (fr_drewN _ _) (fun _ _ h => h), (fr_drewN _ _).of_no⟩
  · go_wp2
    refine bodyPost_ret (v := .tuple #[.slice (some ⟨b, o + 3, none⟩) m (c - 3), .int .i64 (3 + (m : Nat)), .bool true, .int .i64 0]) (by simp [results, Try.results30, go_sem]) rfl ?_
    have hcut := (Rd.cut hr1 (k := 3) (cap := c) (by omega) hc1).take (k := m) (by omega)
    rw [if_neg (by omega)] at hcut
    exact ⟨some ⟨b, o + 3, none⟩, m, c - 3, by simp, by omega, by simpa [RdB, add_lit_none, List.map_drop, List.map_take] using hcut, HH.out.fr (fr_drewN _ _) (fun _ _ h => h), (fr_drewN _ _).of_no⟩
end
end Go.Proofs.Ytfkkaalchffgaaa
