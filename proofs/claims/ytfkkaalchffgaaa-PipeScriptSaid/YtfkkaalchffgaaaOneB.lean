/- sealed.one behind a good kind: each of its ways. -/
import Derived.Test.YtfkkaalchffgaaaOneA
namespace Go.Proofs.Ytfkkaalchffgaaa
open Go.RowKit Go.Ost

section
variable {w : World} {O : Nat → Prop} {a : Nat} {s : PC}

set_option maxHeartbeats 4000000 in
theorem one_none1 {z : UInt8} {t : List UInt8} (h : SWin w O a s) (hb : s.b = z :: t) (hz : z.toNat = 1) (hh : s.hello = false) (hs : s.b.length ≤ 100000000) (hn : sizeOfRec s.b = none) :
    Calls Try.prog 57 #[.pointer (some ⟨a, 0, none⟩)] w (OneR w O a ([], 0, 0, s)) := by
  have h' := h
  obtain ⟨h0, ha, A, c, hB, hc1, hc2, hr⟩ := h'
  have c0 := hB.cell 0
  have c1 := hB.cell 1
  have hlt := hB.lt
  have hl : 0 < s.b.length := by rw [hb]; simp
  obtain ⟨b, o, rfl, hOb, hc⟩ := hr.2 hl
  have hzc := hc 0 (bv z) (by rw [hb]; rfl)
  rw [Nat.add_zero] at hzc
  have HC := hid hc
  have HR := hid hr
  have HB := hid hB
  simp [hh] at c0 c1
  have hkz := kind_any (c := c) (n := s.b.length) hzc (by omega)
  rw [hz] at hkz
  have hsz := size_any (c := c) HR.out (by omega) (by omega)
  have HBB := hid hb
  clear hr hc hB hb hh hzc
  rw [hn] at hsz
  simp only [Option.getD_none, Option.isSome_none] at hsz
  go_enter Try.func57, Try.ntmps57
  go_wp2_with fail
  refine hkz.mono ?_
  rintro e w' ⟨rfl, rfl⟩
  go_wp2_with fail
  refine hsz.mono ?_
  rintro e w1 ⟨rfl, hf1⟩
  have hB1 := HB.out.fr hf1 (fun h => h)
  have g0 := hB1.cell 0
  have g1 := hB1.cell 1
  have z1 := hB1.frozen 1
  have g2 := hB1.cell 2
  have z2 := hB1.frozen 2
  simp at g0 g1 g2
  clear hsz hkz
  go_wp2
  go_ret3
  exact oneR_nil h hf1 0

set_option maxHeartbeats 4000000 in
theorem one_none2 {z : UInt8} {t : List UInt8} (h : SWin w O a s) (hb : s.b = z :: t) (hz : z.toNat = 2) (hh : s.hello = true) (hs : s.b.length ≤ 100000000) (hn : sizeOfRec s.b = none) :
    Calls Try.prog 57 #[.pointer (some ⟨a, 0, none⟩)] w (OneR w O a ([], 0, 0, s)) := by
  have h' := h
  obtain ⟨h0, ha, A, c, hB, hc1, hc2, hr⟩ := h'
  have c0 := hB.cell 0
  have c1 := hB.cell 1
  have hlt := hB.lt
  have hl : 0 < s.b.length := by rw [hb]; simp
  obtain ⟨b, o, rfl, hOb, hc⟩ := hr.2 hl
  have hzc := hc 0 (bv z) (by rw [hb]; rfl)
  rw [Nat.add_zero] at hzc
  have HC := hid hc
  have HR := hid hr
  have HB := hid hB
  simp [hh] at c0 c1
  have hkz := kind_any (c := c) (n := s.b.length) hzc (by omega)
  rw [hz] at hkz
  have hsz := size_any (c := c) HR.out (by omega) (by omega)
  have HBB := hid hb
  clear hr hc hB hb hh hzc
  rw [hn] at hsz
  simp only [Option.getD_none, Option.isSome_none] at hsz
  go_enter Try.func57, Try.ntmps57
  go_wp2_with fail
  refine hkz.mono ?_
  rintro e w' ⟨rfl, rfl⟩
  go_wp2_with fail
  refine hsz.mono ?_
  rintro e w1 ⟨rfl, hf1⟩
  have hB1 := HB.out.fr hf1 (fun h => h)
  have g0 := hB1.cell 0
  have g1 := hB1.cell 1
  have z1 := hB1.frozen 1
  have g2 := hB1.cell 2
  have z2 := hB1.frozen 2
  simp at g0 g1 g2
  clear hsz hkz
  go_wp2
  go_ret3
  exact oneR_nil h hf1 0

set_option maxHeartbeats 4000000 in
theorem one_none3 {z : UInt8} {t : List UInt8} (h : SWin w O a s) (hb : s.b = z :: t) (hz : z.toNat = 3) (hh : s.hello = true) (hs : s.b.length ≤ 100000000) (hn : sizeOfRec s.b = none) :
    Calls Try.prog 57 #[.pointer (some ⟨a, 0, none⟩)] w (OneR w O a ([], 0, 0, s)) := by
  have h' := h
  obtain ⟨h0, ha, A, c, hB, hc1, hc2, hr⟩ := h'
  have c0 := hB.cell 0
  have c1 := hB.cell 1
  have hlt := hB.lt
  have hl : 0 < s.b.length := by rw [hb]; simp
  obtain ⟨b, o, rfl, hOb, hc⟩ := hr.2 hl
  have hzc := hc 0 (bv z) (by rw [hb]; rfl)
  rw [Nat.add_zero] at hzc
  have HC := hid hc
  have HR := hid hr
  have HB := hid hB
  simp [hh] at c0 c1
  have hkz := kind_any (c := c) (n := s.b.length) hzc (by omega)
  rw [hz] at hkz
  have hsz := size_any (c := c) HR.out (by omega) (by omega)
  have HBB := hid hb
  clear hr hc hB hb hh hzc
  rw [hn] at hsz
  simp only [Option.getD_none, Option.isSome_none] at hsz
  go_enter Try.func57, Try.ntmps57
  go_wp2_with fail
  refine hkz.mono ?_
  rintro e w' ⟨rfl, rfl⟩
  go_wp2_with fail
  refine hsz.mono ?_
  rintro e w1 ⟨rfl, hf1⟩
  have hB1 := HB.out.fr hf1 (fun h => h)
  have g0 := hB1.cell 0
  have g1 := hB1.cell 1
  have z1 := hB1.frozen 1
  have g2 := hB1.cell 2
  have z2 := hB1.frozen 2
  simp at g0 g1 g2
  clear hsz hkz
  go_wp2
  go_ret3
  exact oneR_nil h hf1 0

set_option maxHeartbeats 4000000 in
theorem one_size1 {z : UInt8} {t : List UInt8} {m : Nat} (h : SWin w O a s) (hb : s.b = z :: t) (hz : z.toNat = 1) (hh : s.hello = false) (hs : s.b.length ≤ 100000000) (hn : sizeOfRec s.b = some m) (hm : m ≠ 1) :
    Calls Try.prog 57 #[.pointer (some ⟨a, 0, none⟩)] w (OneR w O a ([], 0, 4, s)) := by
  have h' := h
  obtain ⟨h0, ha, A, c, hB, hc1, hc2, hr⟩ := h'
  have c0 := hB.cell 0
  have c1 := hB.cell 1
  have hlt := hB.lt
  have hl : 0 < s.b.length := by rw [hb]; simp
  obtain ⟨b, o, rfl, hOb, hc⟩ := hr.2 hl
  have hzc := hc 0 (bv z) (by rw [hb]; rfl)
  rw [Nat.add_zero] at hzc
  have HC := hid hc
  have HR := hid hr
  have HB := hid hB
  simp [hh] at c0 c1
  have hkz := kind_any (c := c) (n := s.b.length) hzc (by omega)
  rw [hz] at hkz
  have hsz := size_any (c := c) HR.out (by omega) (by omega)
  have HBB := hid hb
  clear hr hc hB hb hh hzc
  rw [hn] at hsz
  simp only [Option.getD_some, Option.isSome_some] at hsz
  go_enter Try.func57, Try.ntmps57
  go_wp2_with fail
  refine hkz.mono ?_
  rintro e w' ⟨rfl, rfl⟩
  go_wp2_with fail
  refine hsz.mono ?_
  rintro e w1 ⟨rfl, hf1⟩
  have hB1 := HB.out.fr hf1 (fun h => h)
  have g0 := hB1.cell 0
  have g1 := hB1.cell 1
  have z1 := hB1.frozen 1
  have g2 := hB1.cell 2
  have z2 := hB1.frozen 2
  simp at g0 g1 g2
  clear hsz hkz
  go_wp2
  go_ret3
  exact oneR_nil h hf1 4

set_option maxHeartbeats 4000000 in
theorem one_size3 {z : UInt8} {t : List UInt8} {m : Nat} (h : SWin w O a s) (hb : s.b = z :: t) (hz : z.toNat = 3) (hh : s.hello = true) (hs : s.b.length ≤ 100000000) (hn : sizeOfRec s.b = some m) (hm : m ≠ 0) :
    Calls Try.prog 57 #[.pointer (some ⟨a, 0, none⟩)] w (OneR w O a ([], 0, 4, s)) := by
  have h' := h
  obtain ⟨h0, ha, A, c, hB, hc1, hc2, hr⟩ := h'
  have c0 := hB.cell 0
  have c1 := hB.cell 1
  have hlt := hB.lt
  have hl : 0 < s.b.length := by rw [hb]; simp
  obtain ⟨b, o, rfl, hOb, hc⟩ := hr.2 hl
  have hzc := hc 0 (bv z) (by rw [hb]; rfl)
  rw [Nat.add_zero] at hzc
  have HC := hid hc
  have HR := hid hr
  have HB := hid hB
  simp [hh] at c0 c1
  have hkz := kind_any (c := c) (n := s.b.length) hzc (by omega)
  rw [hz] at hkz
  have hsz := size_any (c := c) HR.out (by omega) (by omega)
  have HBB := hid hb
  clear hr hc hB hb hh hzc
  rw [hn] at hsz
  simp only [Option.getD_some, Option.isSome_some] at hsz
  go_enter Try.func57, Try.ntmps57
  go_wp2_with fail
  refine hkz.mono ?_
  rintro e w' ⟨rfl, rfl⟩
  go_wp2_with fail
  refine hsz.mono ?_
  rintro e w1 ⟨rfl, hf1⟩
  have hB1 := HB.out.fr hf1 (fun h => h)
  have g0 := hB1.cell 0
  have g1 := hB1.cell 1
  have z1 := hB1.frozen 1
  have g2 := hB1.cell 2
  have z2 := hB1.frozen 2
  simp at g0 g1 g2
  clear hsz hkz
  go_wp2
  go_ret3
  exact oneR_nil h hf1 4

set_option maxHeartbeats 4000000 in
theorem one_long2 {z : UInt8} {t : List UInt8} {m : Nat} (h : SWin w O a s) (hb : s.b = z :: t) (hz : z.toNat = 2) (hh : s.hello = true) (hs : s.b.length ≤ 100000000) (hn : sizeOfRec s.b = some m) (hm : 1024 < m) :
    Calls Try.prog 57 #[.pointer (some ⟨a, 0, none⟩)] w (OneR w O a ([], 0, 3, s)) := by
  have h' := h
  obtain ⟨h0, ha, A, c, hB, hc1, hc2, hr⟩ := h'
  have c0 := hB.cell 0
  have c1 := hB.cell 1
  have hlt := hB.lt
  have hl : 0 < s.b.length := by rw [hb]; simp
  obtain ⟨b, o, rfl, hOb, hc⟩ := hr.2 hl
  have hzc := hc 0 (bv z) (by rw [hb]; rfl)
  rw [Nat.add_zero] at hzc
  have HC := hid hc
  have HR := hid hr
  have HB := hid hB
  simp [hh] at c0 c1
  have hkz := kind_any (c := c) (n := s.b.length) hzc (by omega)
  rw [hz] at hkz
  have hsz := size_any (c := c) HR.out (by omega) (by omega)
  have HBB := hid hb
  clear hr hc hB hb hh hzc
  rw [hn] at hsz
  simp only [Option.getD_some, Option.isSome_some] at hsz
  go_enter Try.func57, Try.ntmps57
  go_wp2_with fail
  refine hkz.mono ?_
  rintro e w' ⟨rfl, rfl⟩
  go_wp2_with fail
  refine hsz.mono ?_
  rintro e w1 ⟨rfl, hf1⟩
  have hB1 := HB.out.fr hf1 (fun h => h)
  have g0 := hB1.cell 0
  have g1 := hB1.cell 1
  have z1 := hB1.frozen 1
  have g2 := hB1.cell 2
  have z2 := hB1.frozen 2
  simp at g0 g1 g2
  clear hsz hkz
  go_wp2
  go_ret3
  exact oneR_nil h hf1 3

set_option maxHeartbeats 4000000 in
theorem one_short1 {z : UInt8} {t : List UInt8} (h : SWin w O a s) (hb : s.b = z :: t) (hz : z.toNat = 1) (hh : s.hello = false) (hs : s.b.length ≤ 100000000) (hn : sizeOfRec s.b = some 1) (hm : s.b.length < 4) :
    Calls Try.prog 57 #[.pointer (some ⟨a, 0, none⟩)] w (OneR w O a ([], 0, 0, s)) := by
  have h' := h
  obtain ⟨h0, ha, A, c, hB, hc1, hc2, hr⟩ := h'
  have c0 := hB.cell 0
  have c1 := hB.cell 1
  have hlt := hB.lt
  have hl : 0 < s.b.length := by rw [hb]; simp
  obtain ⟨b, o, rfl, hOb, hc⟩ := hr.2 hl
  have hzc := hc 0 (bv z) (by rw [hb]; rfl)
  rw [Nat.add_zero] at hzc
  have HC := hid hc
  have HR := hid hr
  have HB := hid hB
  simp [hh] at c0 c1
  have hkz := kind_any (c := c) (n := s.b.length) hzc (by omega)
  rw [hz] at hkz
  have hsz := size_any (c := c) HR.out (by omega) (by omega)
  have HBB := hid hb
  clear hr hc hB hb hh hzc
  rw [hn] at hsz
  simp only [Option.getD_some, Option.isSome_some] at hsz
  go_enter Try.func57, Try.ntmps57
  go_wp2_with fail
  refine hkz.mono ?_
  rintro e w' ⟨rfl, rfl⟩
  go_wp2_with fail
  refine hsz.mono ?_
  rintro e w1 ⟨rfl, hf1⟩
  have hB1 := HB.out.fr hf1 (fun h => h)
  have g0 := hB1.cell 0
  have g1 := hB1.cell 1
  have z1 := hB1.frozen 1
  have g2 := hB1.cell 2
  have z2 := hB1.frozen 2
  simp at g0 g1 g2
  clear hsz hkz
  go_wp2
  go_ret3
  exact oneR_nil h hf1 0

set_option maxHeartbeats 4000000 in
theorem one_short2 {z : UInt8} {t : List UInt8} {m : Nat} (h : SWin w O a s) (hb : s.b = z :: t) (hz : z.toNat = 2) (hh : s.hello = true) (hs : s.b.length ≤ 100000000) (hn : sizeOfRec s.b = some m) (hm1 : m ≤ 1024) (hm : s.b.length < 3 + m) :
    Calls Try.prog 57 #[.pointer (some ⟨a, 0, none⟩)] w (OneR w O a ([], 0, 0, s)) := by
  have h' := h
  obtain ⟨h0, ha, A, c, hB, hc1, hc2, hr⟩ := h'
  have c0 := hB.cell 0
  have c1 := hB.cell 1
  have hlt := hB.lt
  have hl : 0 < s.b.length := by rw [hb]; simp
  obtain ⟨b, o, rfl, hOb, hc⟩ := hr.2 hl
  have hzc := hc 0 (bv z) (by rw [hb]; rfl)
  rw [Nat.add_zero] at hzc
  have HC := hid hc
  have HR := hid hr
  have HB := hid hB
  simp [hh] at c0 c1
  have hkz := kind_any (c := c) (n := s.b.length) hzc (by omega)
  rw [hz] at hkz
  have hsz := size_any (c := c) HR.out (by omega) (by omega)
  have HBB := hid hb
  clear hr hc hB hb hh hzc
  rw [hn] at hsz
  simp only [Option.getD_some, Option.isSome_some] at hsz
  go_enter Try.func57, Try.ntmps57
  go_wp2_with fail
  refine hkz.mono ?_
  rintro e w' ⟨rfl, rfl⟩
  go_wp2_with fail
  refine hsz.mono ?_
  rintro e w1 ⟨rfl, hf1⟩
  have hB1 := HB.out.fr hf1 (fun h => h)
  have g0 := hB1.cell 0
  have g1 := hB1.cell 1
  have z1 := hB1.frozen 1
  have g2 := hB1.cell 2
  have z2 := hB1.frozen 2
  simp at g0 g1 g2
  clear hsz hkz
  go_wp2
  go_ret3
  exact oneR_nil h hf1 0

set_option maxHeartbeats 4000000 in
theorem one_data {z : UInt8} {t : List UInt8} {m : Nat} (h : SWin w O a s) (hb : s.b = z :: t) (hz : z.toNat = 2) (hh : s.hello = true) (hs : s.b.length ≤ 100000000) (hn : sizeOfRec s.b = some m) (hm1 : m ≤ 1024) (hm : 3 + m ≤ s.b.length) :
    Calls Try.prog 57 #[.pointer (some ⟨a, 0, none⟩)] w (OneR w O a ((s.b.drop 3).take m, 3 + m, 0, s)) := by
  have h' := h
  obtain ⟨h0, ha, A, c, hB, hc1, hc2, hr⟩ := h'
  have c0 := hB.cell 0
  have c1 := hB.cell 1
  have hlt := hB.lt
  have hl : 0 < s.b.length := by rw [hb]; simp
  obtain ⟨b, o, rfl, hOb, hc⟩ := hr.2 hl
  have hzc := hc 0 (bv z) (by rw [hb]; rfl)
  rw [Nat.add_zero] at hzc
  have HC := hid hc
  have HR := hid hr
  have HB := hid hB
  simp [hh] at c0 c1
  have hkz := kind_any (c := c) (n := s.b.length) hzc (by omega)
  rw [hz] at hkz
  have hsz := size_any (c := c) HR.out (by omega) (by omega)
  have HBB := hid hb
  clear hr hc hB hb hh hzc
  rw [hn] at hsz
  simp only [Option.getD_some, Option.isSome_some] at hsz
  go_enter Try.func57, Try.ntmps57
  go_wp2_with fail
  refine hkz.mono ?_
  rintro e w' ⟨rfl, rfl⟩
  go_wp2_with fail
  refine hsz.mono ?_
  rintro e w1 ⟨rfl, hf1⟩
  have hB1 := HB.out.fr hf1 (fun h => h)
  have g0 := hB1.cell 0
  have g1 := hB1.cell 1
  have z1 := hB1.frozen 1
  have g2 := hB1.cell 2
  have z2 := hB1.frozen 2
  simp at g0 g1 g2
  clear hsz hkz
  have hr1 : RdB w1 (fun b => O b ∧ b ≠ a) (some ⟨b, o, none⟩) s.b.length s.b := Rd.fr HR.out hf1 (fun _ _ _ h => h)
  rcases (by omega : c = 3 ∨ 3 < c) with hc3 | hc3
  · subst hc3
    go_wp2
    go_ret3
    have hm0 : m = 0 := by omega
    subst hm0
    exact ⟨_, 0, 0, rfl, Nat.le_refl _, by simpa [RdB] using Rd.nil w1 _ _, h.fr hf1 (fun _ _ h => h), hf1.of_no⟩
  · go_wp2
    go_ret3
    have hcut := (Rd.cut hr1 (k := 3) (cap := c) (by omega) hc1).take (k := m) (by omega)
    rw [if_neg (by omega)] at hcut
    exact ⟨some ⟨b, o + 3, none⟩, m, c - 3, by simp, by omega, by simpa [RdB, add_lit_none, List.map_drop, List.map_take] using hcut, h.fr hf1 (fun _ _ h => h), hf1.of_no⟩

set_option maxHeartbeats 4000000 in
theorem one_close {z : UInt8} {t : List UInt8} (h : SWin w O a s) (hb : s.b = z :: t) (hz : z.toNat = 3) (hh : s.hello = true) (hs : s.b.length ≤ 100000000) (hn : sizeOfRec s.b = some 0) (hm : 3 ≤ s.b.length) :
    Calls Try.prog 57 #[.pointer (some ⟨a, 0, none⟩)] w (OneR w O a ([], 3, 0, { s with ended := true })) := by
  have h' := h
  obtain ⟨h0, ha, A, c, hB, hc1, hc2, hr⟩ := h'
  have c0 := hB.cell 0
  have c1 := hB.cell 1
  have hlt := hB.lt
  have hl : 0 < s.b.length := by rw [hb]; simp
  obtain ⟨b, o, rfl, hOb, hc⟩ := hr.2 hl
  have hzc := hc 0 (bv z) (by rw [hb]; rfl)
  rw [Nat.add_zero] at hzc
  have HC := hid hc
  have HR := hid hr
  have HB := hid hB
  simp [hh] at c0 c1
  have hkz := kind_any (c := c) (n := s.b.length) hzc (by omega)
  rw [hz] at hkz
  have hsz := size_any (c := c) HR.out (by omega) (by omega)
  have HBB := hid hb
  clear hr hc hB hb hh hzc
  rw [hn] at hsz
  simp only [Option.getD_some, Option.isSome_some] at hsz
  go_enter Try.func57, Try.ntmps57
  go_wp2_with fail
  refine hkz.mono ?_
  rintro e w' ⟨rfl, rfl⟩
  go_wp2_with fail
  refine hsz.mono ?_
  rintro e w1 ⟨rfl, hf1⟩
  have hB1 := HB.out.fr hf1 (fun h => h)
  have g0 := hB1.cell 0
  have g1 := hB1.cell 1
  have z1 := hB1.frozen 1
  have g2 := hB1.cell 2
  have z2 := hB1.frozen 2
  simp at g0 g1 g2
  clear hsz hkz
  have hr1 : RdB w1 (fun b => O b ∧ b ≠ a) (some ⟨b, o, none⟩) s.b.length s.b := Rd.fr HR.out hf1 (fun _ _ _ h => h)
  rcases (by omega : c = 3 ∨ 3 < c) with hc3 | hc3
  · subst hc3
    go_wp2
    go_ret3
    have hm0 : 0 = 0 := by omega
    clear hm0
    have hf2 : Fr (· = a) w1 (w1.setCell ⟨a, 2, none⟩ (.bool true)) := (Fr.refl (· = a) w1).setCell (p := ⟨a, 2, none⟩) (.inl rfl) _
    have hW : SWin (w1.setCell ⟨a, 2, none⟩ (.bool true)) O a { s with ended := true } := ⟨fun b hb => Nat.lt_of_lt_of_le (h0 b hb) (Nat.le_trans hf1.size hf2.size), ha, _, _, by simpa using hB1.set_ 2 (.bool true), hc1, hc2, Rd.fr hr1 hf2 (fun b _ hb => hb.2)⟩
    exact ⟨_, 0, _, rfl, Nat.zero_le _, Rd.nil _ _ _, hW, hf1.of_no.trans hf2 (fun _ _ h => h)⟩
  · go_wp2
    go_ret3
    have hf2 : Fr (· = a) w1 (w1.setCell ⟨a, 2, none⟩ (.bool true)) := (Fr.refl (· = a) w1).setCell (p := ⟨a, 2, none⟩) (.inl rfl) _
    have hW : SWin (w1.setCell ⟨a, 2, none⟩ (.bool true)) O a { s with ended := true } := ⟨fun b hb => Nat.lt_of_lt_of_le (h0 b hb) (Nat.le_trans hf1.size hf2.size), ha, _, _, by simpa using hB1.set_ 2 (.bool true), hc1, hc2, Rd.fr hr1 hf2 (fun b _ hb => hb.2)⟩
    exact ⟨_, 0, _, rfl, Nat.zero_le _, Rd.nil _ _ _, hW, hf1.of_no.trans hf2 (fun _ _ h => h)⟩

set_option maxHeartbeats 4000000 in
theorem one_hello {z : UInt8} {t : List UInt8} (h : SWin w O a s) (hb : s.b = z :: t) (hz : z.toNat = 1) (hh : s.hello = false) (hs : s.b.length ≤ 100000000) (hn : sizeOfRec s.b = some 1) (hm : 4 ≤ s.b.length) (hv3 : s.b[3]? = some 1) :
    Calls Try.prog 57 #[.pointer (some ⟨a, 0, none⟩)] w (OneR w O a ([], 4, 0, { s with hello := true })) := by
  have h' := h
  obtain ⟨h0, ha, A, c, hB, hc1, hc2, hr⟩ := h'
  have c0 := hB.cell 0
  have c1 := hB.cell 1
  have hlt := hB.lt
  have hl : 0 < s.b.length := by rw [hb]; simp
  obtain ⟨b, o, rfl, hOb, hc⟩ := hr.2 hl
  have hzc := hc 0 (bv z) (by rw [hb]; rfl)
  rw [Nat.add_zero] at hzc
  have HC := hid hc
  have HR := hid hr
  have HB := hid hB
  simp [hh] at c0 c1
  have hkz := kind_any (c := c) (n := s.b.length) hzc (by omega)
  rw [hz] at hkz
  have hsz := size_any (c := c) HR.out (by omega) (by omega)
  have HBB := hid hb
  clear hr hc hB hb hh hzc
  rw [hn] at hsz
  simp only [Option.getD_some, Option.isSome_some] at hsz
  go_enter Try.func57, Try.ntmps57
  go_wp2_with fail
  refine hkz.mono ?_
  rintro e w' ⟨rfl, rfl⟩
  go_wp2_with fail
  refine hsz.mono ?_
  rintro e w1 ⟨rfl, hf1⟩
  have hB1 := HB.out.fr hf1 (fun h => h)
  have g0 := hB1.cell 0
  have g1 := hB1.cell 1
  have z1 := hB1.frozen 1
  have g2 := hB1.cell 2
  have z2 := hB1.frozen 2
  simp at g0 g1 g2
  clear hsz hkz
  have hr1 : RdB w1 (fun b => O b ∧ b ≠ a) (some ⟨b, o, none⟩) s.b.length s.b := Rd.fr HR.out hf1 (fun _ _ _ h => h)
  have hv : w1.cell? ⟨b, o + 3, none⟩ = some (.int .u8 1) := hf1.cell (fun h => h) (HC.out 3 (bv 1) (by simp [hv3]))
  have hc3 : 3 < c := by omega
  · go_wp2
    go_ret3
    have hf2 : Fr (· = a) w1 (w1.setCell ⟨a, 1, none⟩ (.bool true)) := (Fr.refl (· = a) w1).setCell (p := ⟨a, 1, none⟩) (.inl rfl) _
    have hW : SWin (w1.setCell ⟨a, 1, none⟩ (.bool true)) O a { s with hello := true } := ⟨fun b hb => Nat.lt_of_lt_of_le (h0 b hb) (Nat.le_trans hf1.size hf2.size), ha, _, _, by simpa using hB1.set_ 1 (.bool true), hc1, hc2, Rd.fr hr1 hf2 (fun b _ hb => hb.2)⟩
    exact ⟨none, 0, 0, rfl, Nat.le_refl _, Rd.nil _ _ _, hW, hf1.of_no.trans hf2 (fun _ _ h => h)⟩

set_option maxHeartbeats 4000000 in
theorem one_nohello {z : UInt8} {t : List UInt8} {v : UInt8} (h : SWin w O a s) (hb : s.b = z :: t) (hz : z.toNat = 1) (hh : s.hello = false) (hs : s.b.length ≤ 100000000) (hn : sizeOfRec s.b = some 1) (hm : 4 ≤ s.b.length) (hv3 : s.b[3]? = some v) (hv1 : v ≠ 1) :
    Calls Try.prog 57 #[.pointer (some ⟨a, 0, none⟩)] w (OneR w O a ([], 0, 4, s)) := by
  have h' := h
  obtain ⟨h0, ha, A, c, hB, hc1, hc2, hr⟩ := h'
  have c0 := hB.cell 0
  have c1 := hB.cell 1
  have hlt := hB.lt
  have hl : 0 < s.b.length := by rw [hb]; simp
  obtain ⟨b, o, rfl, hOb, hc⟩ := hr.2 hl
  have hzc := hc 0 (bv z) (by rw [hb]; rfl)
  rw [Nat.add_zero] at hzc
  have HC := hid hc
  have HR := hid hr
  have HB := hid hB
  simp [hh] at c0 c1
  have hkz := kind_any (c := c) (n := s.b.length) hzc (by omega)
  rw [hz] at hkz
  have hsz := size_any (c := c) HR.out (by omega) (by omega)
  have HBB := hid hb
  clear hr hc hB hb hh hzc
  rw [hn] at hsz
  simp only [Option.getD_some, Option.isSome_some] at hsz
  have hv2 : ((v.toNat : Int) == 1) = false := by
    have : v.toNat ≠ 1 := fun e => hv1 (UInt8.toNat_inj.1 (by simpa using e))
    simp; omega
  go_enter Try.func57, Try.ntmps57
  go_wp2_with fail
  refine hkz.mono ?_
  rintro e w' ⟨rfl, rfl⟩
  go_wp2_with fail
  refine hsz.mono ?_
  rintro e w1 ⟨rfl, hf1⟩
  have hB1 := HB.out.fr hf1 (fun h => h)
  have g0 := hB1.cell 0
  have g1 := hB1.cell 1
  have z1 := hB1.frozen 1
  have g2 := hB1.cell 2
  have z2 := hB1.frozen 2
  simp at g0 g1 g2
  clear hsz hkz
  have hr1 : RdB w1 (fun b => O b ∧ b ≠ a) (some ⟨b, o, none⟩) s.b.length s.b := Rd.fr HR.out hf1 (fun _ _ _ h => h)
  have hv : w1.cell? ⟨b, o + 3, none⟩ = some (.int .u8 (v.toNat : Int)) := hf1.cell (fun h => h) (HC.out 3 (bv v) (by simp [hv3]))
  have hc3 : 3 < c := by omega
  · go_wp2
    go_ret3
    exact oneR_nil h hf1 4
end
end Go.Proofs.Ytfkkaalchffgaaa
