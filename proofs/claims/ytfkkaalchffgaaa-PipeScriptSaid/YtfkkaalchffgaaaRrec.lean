/- The reference's Record, for every input that its premises let in. -/
import Derived.Test.YtfkkaalchffgaaaRec
namespace Go.Proofs.Ytfkkaalchffgaaa
open Go.RowKit Go.Ost

section
variable {w : World} {O : Nat → Prop} {A : Option Addr} {n c : Nat} {bs : List UInt8}
set_option maxHeartbeats 1600000 in
theorem rrecord_bad (kind : Int) (h : RdB w O A n bs) (hbad : kind < 1 ∨ 3 < kind ∨ (kind = 1 ∧ bs ≠ [1]) ∨ (kind = 3 ∧ bs ≠ [])) :
    Calls Try.prog 19 #[.int .i64 kind, .slice A n c] w (NewE w [] 4) := by
  have hl : bs.length = n := by simpa using h.1
  have hcv := conv_rd (c := c) h
  rcases hbad with hk | hk | ⟨rfl, hb⟩ | ⟨rfl, hb⟩
  · clear hl
    go_enter Try.func19, Try.ntmps19
    go_wp2
    go_ret2
    exact newE_nil (Fr.refl _ _)
  · clear hl
    go_enter Try.func19, Try.ntmps19
    go_wp2
    go_ret2
    exact newE_nil (Fr.refl _ _)
  · have hne : (bs == [1]) = false := by simpa using hb
    clear hb
    clear hl
    go_enter Try.func19, Try.ntmps19
    go_wp2
    go_ret2
    exact newE_nil (Fr.refl _ _)
  · have hn : 0 < n := by
      rcases Nat.eq_zero_or_pos n with h0 | h0
      · exact absurd (List.eq_nil_of_length_eq_zero (by omega)) hb
      · exact h0
    clear hl hb
    go_enter Try.func19, Try.ntmps19
    go_wp2
    go_ret2
    exact newE_nil (Fr.refl _ _)

/-- Three values in a new block: a row of the call's own. -/
theorem own_three {w : World} {x y z : UInt8} : Own (w.alloc (.cells #[bv x, bv y, bv z] 5)) (Ge w.heap.size) 5 Byte (some ⟨w.heap.size, 0, none⟩) 3 3 ([x, y, z].map bv) :=
  ⟨rfl, .inr ⟨w.heap.size, [], rfl, Nat.le_refl _, by simpa using Blk.new w 5 #[bv x, bv y, bv z], by simp, by simp⟩⟩

set_option maxHeartbeats 1600000 in
theorem rrecord_good (kind : Int) (h : RdB w O A n bs) (hn : n ≤ 140737488355328) (h1 : 1 ≤ kind) (h3 : kind ≤ 3) (hb1 : kind = 1 → bs = [1]) (hb3 : kind = 3 → bs = []) :
    Calls Try.prog 19 #[.int .i64 kind, .slice A n c] w (NewE w (if 1024 < bs.length then [] else UInt8.ofNat kind.toNat :: be2 bs.length ++ bs) (if 1024 < bs.length then 3 else 0)) := by
  obtain ⟨i0, hi, hz0, hz1, hz2⟩ := info_parts info_u8
  have hl : bs.length = n := by simpa using h.1
  have hcv := conv_rd (c := c) h
  have hk : kind = 1 ∨ kind = 2 ∨ kind = 3 := by omega
  by_cases hlong : 1024 < bs.length
  · obtain rfl : kind = 2 := by
      rcases hk with rfl | rfl | rfl
      · have := hb1 rfl; subst this; simp at hlong
      · rfl
      · have := hb3 rfl; subst this; simp at hlong
    rw [if_pos hlong, if_pos hlong]
    rw [hl] at hlong
    clear hl hb1 hb3
    go_enter Try.func19, Try.ntmps19
    go_wp2
    go_ret2
    exact newE_nil (Fr.refl _ _)
  · rw [if_neg hlong, if_neg hlong]
    rw [hl] at hlong ⊢
    have h256 : n < 65536 := by omega
    have HL := hid hl
    have q1 : IntKind.u8.wrap ((n : Int) / 256) = ((UInt8.ofNat (n / 256)).toNat : Int) := by rw [← u8_of]; congr 1
    have q2 : (n : Int) % 256 = ((UInt8.ofNat (n % 256)).toNat : Int) := by rw [UInt8.toNat_ofNat']; omega
    have HBE : be2 n = [UInt8.ofNat (n / 256), UInt8.ofNat (n % 256)] := rfl
    generalize UInt8.ofNat (n / 256) = y at q1 HBE
    generalize UInt8.ofNat (n % 256) = z at q2 HBE
    have HBE' := hid HBE
    clear HBE
    rcases hk with rfl | rfl | rfl
    · have HB : (bs == [1]) = true := by rw [hb1 rfl]; rfl
      clear hl hb1 hb3
      go_enter Try.func19, Try.ntmps19
      go_wp2_with (at_builtin; refine wpList_app _ rfl (.tmp 43) (.tmp 44) _ rfl 5 i0 _ 1 1 Try.underlying28 hi hz0 hz1 hz2 rfl (by omega) byte_zero (O := Ge w.heap.size) (by simp [Ge]) rfl (own_three (x := 1) (y := y) (z := z)) (m := n) rfl (by rw [Nat.mul_one]; exact Rd.alloc h _) (bv_all _) (by simp only [maxLen]; omega) (by omega) ?_; intro A1 c1 w1 hown1 hf1 hc1 _)
      go_ret2
      refine ⟨A1, c1, ?_, ?_, hc1 (by decide), ((Fr.refl No w).alloc _).trans_new hf1 (fun b hb => by obtain ⟨o, e⟩ := hb; injection e with e; injection e with e; omega)⟩
      · simp [HBE'.out, HL.out]
        omega
      · have hlen : (UInt8.ofNat (Int.toNat 1) :: (be2 n ++ bs)).length = (3 + n) * 1 := by simp [HBE'.out, HL.out]; omega
        rw [hlen, HBE'.out]
        simpa using hown1
    · clear hcv
      clear hl hb1 hb3
      go_enter Try.func19, Try.ntmps19
      go_wp2_with (at_builtin; refine wpList_app _ rfl (.tmp 43) (.tmp 44) _ rfl 5 i0 _ 1 1 Try.underlying28 hi hz0 hz1 hz2 rfl (by omega) byte_zero (O := Ge w.heap.size) (by simp [Ge]) rfl (own_three (x := 2) (y := y) (z := z)) (m := n) rfl (by rw [Nat.mul_one]; exact Rd.alloc h _) (bv_all _) (by simp only [maxLen]; omega) (by omega) ?_; intro A1 c1 w1 hown1 hf1 hc1 _)
      go_ret2
      refine ⟨A1, c1, ?_, ?_, hc1 (by decide), ((Fr.refl No w).alloc _).trans_new hf1 (fun b hb => by obtain ⟨o, e⟩ := hb; injection e with e; injection e with e; omega)⟩
      · simp [HBE'.out, HL.out]
        omega
      · have hlen : (UInt8.ofNat (Int.toNat 2) :: (be2 n ++ bs)).length = (3 + n) * 1 := by simp [HBE'.out, HL.out]; omega
        rw [hlen, HBE'.out]
        simpa using hown1
    · have HB : ¬ 0 < n := by have := hb3 rfl; subst this; simp at hl; omega
      clear hl hb1 hb3
      go_enter Try.func19, Try.ntmps19
      go_wp2_with (at_builtin; refine wpList_app _ rfl (.tmp 43) (.tmp 44) _ rfl 5 i0 _ 1 1 Try.underlying28 hi hz0 hz1 hz2 rfl (by omega) byte_zero (O := Ge w.heap.size) (by simp [Ge]) rfl (own_three (x := 3) (y := y) (z := z)) (m := n) rfl (by rw [Nat.mul_one]; exact Rd.alloc h _) (bv_all _) (by simp only [maxLen]; omega) (by omega) ?_; intro A1 c1 w1 hown1 hf1 hc1 _)
      go_ret2
      refine ⟨A1, c1, ?_, ?_, hc1 (by decide), ((Fr.refl No w).alloc _).trans_new hf1 (fun b hb => by obtain ⟨o, e⟩ := hb; injection e with e; injection e with e; omega)⟩
      · simp [HBE'.out, HL.out]
        omega
      · have hlen : (UInt8.ofNat (Int.toNat 3) :: (be2 n ++ bs)).length = (3 + n) * 1 := by simp [HBE'.out, HL.out]; omega
        rw [hlen, HBE'.out]
        simpa using hown1

theorem rrecord_any (kind : Int) (h : RdB w O A n bs) (hn : n ≤ 140737488355328) :
    Calls Try.prog 19 #[.int .i64 kind, .slice A n c] w (NewE w (recOf kind bs).1 (recOf kind bs).2) := by
  by_cases hbad : kind < 1 ∨ 3 < kind ∨ (kind = 1 ∧ bs ≠ [1]) ∨ (kind = 3 ∧ bs ≠ [])
  · rw [recOf, if_pos hbad]
    exact rrecord_bad kind h hbad
  · rw [recOf, if_neg hbad]
    have hg := rrecord_good (c := c) kind h hn (by omega) (by omega)
      (fun e => Decidable.byContradiction fun hb => hbad (.inr (.inr (.inl ⟨e, hb⟩)))) (fun e => Decidable.byContradiction fun hb => hbad (.inr (.inr (.inr ⟨e, hb⟩))))
    split at hg <;> rename_i hx
    · rw [if_pos hx]; exact hg
    · rw [if_neg hx]; exact hg
end
end Go.Proofs.Ytfkkaalchffgaaa
