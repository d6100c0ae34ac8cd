/- frame.Put and the reference's Put. -/
import Derived.Test.YtpbgcjknhegnmaaDoorKit
import Derived.Test.YtpbgcjknhegnmaaDoorSlice
namespace Go.Ost
/-- A number of two bytes, the high one first. -/
def be2 (n : Nat) : List UInt8 := [UInt8.ofNat (n / 256), UInt8.ofNat (n % 256)]
/-- Which frame a message has. -/
def frameOf (b : List UInt8) : List UInt8 × Int := if b.length < 12 then ([], 4) else if 65535 < b.length then ([], 3) else (be2 b.length ++ b, 0)
end Go.Ost
namespace Go.Proofs.YtpbgcjknhegnmaaDoor
open Go.RowKit Go.Ost

theorem u8_of {n : Nat} : IntKind.u8.wrap (n : Int) = ((UInt8.ofNat n).toNat : Int) := by
  rw [IntKind.wrap_u8, UInt8.toNat_ofNat']
  omega
/-- A call hands back a new row of bytes and a number. -/
def NewE (w : World) (bs : List UInt8) (err : Int) (e : Ending) (w' : World) : Prop :=
  ∃ A c, e = .returned (.tuple #[.slice A bs.length c, .int .i64 err]) ∧ Ost.Own w' (Ge w.heap.size) 5 Byte A bs.length c (bs.map bv) ∧ c ≤ maxLen ∧ Fr No w w'
theorem newE_nil (w : World) (err : Int) : NewE w [] err (.returned (.tuple #[.slice none 0 0, .int .i64 err])) w := ⟨none, 0, rfl, Ost.Own.nil _ _ _ _, Nat.zero_le _, Fr.refl _ _⟩

theorem own_two {w : World} {x y : UInt8} : Ost.Own (w.alloc (.cells #[bv x, bv y] 5)) (Ge w.heap.size) 5 Byte (some ⟨w.heap.size, 0, none⟩) 2 2 ([x, y].map bv) :=
  ⟨rfl, .inr ⟨w.heap.size, [], rfl, Nat.le_refl _, by simpa using Blk.new w 5 #[bv x, bv y], by simp, by simp⟩⟩

section
variable {w : World} {O : Nat → Prop} {A : Option Addr} {n c : Nat} {bs : List UInt8}
set_option maxHeartbeats 1600000 in
theorem fput_any (h : RdB w O A n bs) (hn : n ≤ 140737488355328) : Calls Tryd.prog 11 #[.slice A n c] w (NewE w (frameOf bs).1 (frameOf bs).2) := by
  obtain ⟨i0, hi, hz0, hz1, hz2⟩ := info_parts info_u8
  have hl : bs.length = n := by simpa using h.1
  by_cases h12 : n < 12
  · have e : frameOf bs = ([], 4) := by unfold frameOf; rw [if_pos (by omega)]
    rw [e]
    clear hl
    go_enter Tryd.func11, Tryd.ntmps11
    go_wp2
    go_ret2
    exact newE_nil w 4
  · by_cases h16 : 65535 < n
    · have e : frameOf bs = ([], 3) := by unfold frameOf; rw [if_neg (by omega), if_pos (by omega)]
      rw [e]
      clear hl
      go_enter Tryd.func11, Tryd.ntmps11
      go_wp2
      go_ret2
      exact newE_nil w 3
    · have e : frameOf bs = (be2 n ++ bs, 0) := by unfold frameOf; rw [if_neg (by omega), if_neg (by omega), hl]
      rw [e]
      have HL := hid hl
      have hs1 : IntKind.u8.wrap ((n : Int) / 256) = ((UInt8.ofNat (n / 256)).toNat : Int) := by rw [← u8_of]; congr 1
      have hs2 : IntKind.u8.wrap (n : Int) = ((UInt8.ofNat (n % 256)).toNat : Int) := by rw [← u8_of, IntKind.wrap_u8, IntKind.wrap_u8]; omega
      have hbe : be2 n = [UInt8.ofNat (n / 256), UInt8.ofNat (n % 256)] := rfl
      rw [hbe]
      generalize UInt8.ofNat (n / 256) = x at hs1
      generalize UInt8.ofNat (n % 256) = y at hs2
      have hown : Ost.Own (w.alloc (.cells #[.int .u8 (x.toNat : Int), .int .u8 (y.toNat : Int)] 5)) (Ge w.heap.size) 5 Byte (some ⟨w.heap.size, 0, none⟩) (2 * 1) (2 * 1) ([x, y].map bv) := own_two
      have HO := hid hown
      clear hl hbe hown
      go_enter Tryd.func11, Tryd.ntmps11
      go_wp2_with (at_builtin; refine wpList_app _ rfl (.tmp 19) (.tmp 20) _ rfl 5 i0 _ 1 1 Tryd.underlying22 hi hz0 hz1 hz2 rfl (by omega) byte_zero (O := Ge w.heap.size) (by simp [Ge]) rfl HO.out (m := n) rfl (by rw [Nat.mul_one]; exact Rd.alloc h _) (bv_all _) (by simp only [maxLen]; omega) (by omega) ?_; intro A1 c1 w1 hown1 hf1 hc1 _)
      go_ret2
      have hl := HL.out
      subst hl
      have hlx : (x :: y :: bs).length = 2 + bs.length := by simp only [List.length_cons]; omega
      refine ⟨A1, c1, by rw [hlx]; rfl, by rw [hlx]; simpa using hown1, hc1 (by unfold maxLen; omega), ?_⟩
      exact ((Fr.refl No w).alloc _).trans_new hf1 (fun b hb => by obtain ⟨o, e⟩ := hb; injection e with e; injection e with e; omega)

set_option maxHeartbeats 1600000 in
theorem rput_any (h : RdB w O A n bs) (hn : n ≤ 140737488355328) : Calls Tryd.prog 12 #[.slice A n c] w (NewE w (frameOf bs).1 (frameOf bs).2) := by
  obtain ⟨i0, hi, hz0, hz1, hz2⟩ := info_parts info_u8
  have hl : bs.length = n := by simpa using h.1
  by_cases h12 : n < 12
  · have e : frameOf bs = ([], 4) := by unfold frameOf; rw [if_pos (by omega)]
    rw [e]
    clear hl
    go_enter Tryd.func12, Tryd.ntmps12
    go_wp2
    go_ret2
    exact newE_nil w 4
  · by_cases h16 : 65535 < n
    · have e : frameOf bs = ([], 3) := by unfold frameOf; rw [if_neg (by omega), if_pos (by omega)]
      rw [e]
      clear hl
      go_enter Tryd.func12, Tryd.ntmps12
      go_wp2
      go_ret2
      exact newE_nil w 3
    · have e : frameOf bs = (be2 n ++ bs, 0) := by unfold frameOf; rw [if_neg (by omega), if_neg (by omega), hl]
      rw [e]
      have HL := hid hl
      have hs1 : IntKind.u8.wrap ((n : Int) / 256) = ((UInt8.ofNat (n / 256)).toNat : Int) := by rw [← u8_of]; congr 1
      have hs2 : IntKind.u8.wrap ((n : Int) % 256) = ((UInt8.ofNat (n % 256)).toNat : Int) := by rw [← u8_of]; congr 1
      have hbe : be2 n = [UInt8.ofNat (n / 256), UInt8.ofNat (n % 256)] := rfl
      rw [hbe]
      generalize UInt8.ofNat (n / 256) = x at hs1
      generalize UInt8.ofNat (n % 256) = y at hs2
      have hown : Ost.Own (w.alloc (.cells #[.int .u8 (x.toNat : Int), .int .u8 (y.toNat : Int)] 5)) (Ge w.heap.size) 5 Byte (some ⟨w.heap.size, 0, none⟩) (2 * 1) (2 * 1) ([x, y].map bv) := own_two
      have HO := hid hown
      clear hl hbe hown
      go_enter Tryd.func12, Tryd.ntmps12
      go_wp2_with (at_builtin; go_must (refine wpList_app _ rfl (.tmp 18) (.tmp 19) _ rfl 5 i0 _ 1 1 Tryd.underlying22 hi hz0 hz1 hz2 rfl (by omega) byte_zero (O := Ge w.heap.size) (by simp [Ge]) rfl HO.out (m := n) rfl (by rw [Nat.mul_one]; exact Rd.alloc h _) (bv_all _) (by simp only [maxLen]; omega) (by omega) ?_; intro A1 c1 w1 hown1 hf1 hc1 _))
      go_ret2
      have hl := HL.out
      subst hl
      have hlx : (x :: y :: bs).length = 2 + bs.length := by simp only [List.length_cons]; omega
      refine ⟨A1, c1, by rw [hlx]; rfl, by rw [hlx]; simpa using hown1, hc1 (by unfold maxLen; omega), ?_⟩
      exact ((Fr.refl No w).alloc _).trans_new hf1 (fun b hb => by obtain ⟨o, e⟩ := hb; injection e with e; injection e with e; omega)
end
end Go.Proofs.YtpbgcjknhegnmaaDoor
