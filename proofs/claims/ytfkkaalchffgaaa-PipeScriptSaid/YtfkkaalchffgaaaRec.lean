/- octet.Put16, pipe.Record and the reference's Record: each for every input that its premises let in. -/
import Derived.Test.YtfkkaalchffgaaaCat
import Derived.Test.YtfkkaalchffgaaaOver
namespace Go.Ost
/-- A number of two bytes, the high one first. -/
def be2 (n : Nat) : List UInt8 := [UInt8.ofNat (n / 256), UInt8.ofNat (n % 256)]
/-- Which bytes a record has; none: it is refused with this number. -/
def recOf (kind : Int) (b : List UInt8) : List UInt8 × Int :=
  if kind < 1 ∨ 3 < kind ∨ (kind = 1 ∧ b ≠ [1]) ∨ (kind = 3 ∧ b ≠ []) then ([], 4)
  else if 1024 < b.length then ([], 3)
  else (UInt8.ofNat kind.toNat :: be2 b.length ++ b, 0)
end Go.Ost
namespace Go.Proofs.Ytfkkaalchffgaaa
open Go.RowKit Go.Ost

theorem u8_of {n : Nat} : IntKind.u8.wrap (n : Int) = ((UInt8.ofNat n).toNat : Int) := by
  rw [IntKind.wrap_u8, UInt8.toNat_ofNat']
  omega
theorem be2_zero (n : Nat) : (be2 n)[0]? = some (UInt8.ofNat (n / 256)) := rfl

set_option maxHeartbeats 1600000 in
theorem put2 {w : World} {n : Nat} (h : n < 65536) :
    Calls Try.prog 31 #[.int .i64 n] w fun e w' => ∃ A c, e = .returned (.tuple #[.slice A 2 c, .int .i64 0]) ∧ Own w' (Ge w.heap.size) 5 Byte A 2 c ((be2 n).map bv) ∧ c ≤ maxLen ∧ Fr No w w' := by
  obtain ⟨i0, hi, hz0, hz1, hz2⟩ := info_parts info_u8
  have h16 : (n : Int) / 65536 = 0 := by omega
  go_enter Try.func31, Try.ntmps31
  go_wp2
  go_loopw [5, 19] (fun s i wr => ∃ (k : Nat) (A2 : Option Addr) (c2 : Nat), k ≤ 2 ∧ i = .int .i64 k ∧ s = .slice A2 k c2 ∧ Hid (Own wr (Ge (w.heap.size + 1)) 5 Byte A2 k c2 (((be2 n).take k).map bv)) ∧ c2 ≤ maxLen ∧ Hid (Fr No w wr) ∧ Hid (Blk wr w.heap.size 65 #[.int .u8 0, .int .u8 0])) (fun _ i _ => 2 - (intOf i).toNat)
  case atStart => exact ⟨0, none, 0, by omega, rfl, rfl, Own.nil _ _ _ _, Nat.zero_le _, (Fr.refl No w).alloc _, Blk.new w _ _⟩
  case round =>
    obtain ⟨k, A2, c2, hk, rfl, rfl, hown, hc2, hf2, hv⟩ := hrel
    by_cases hlt : k < 2
    · have e0 := hv.out.cell 0
      have e1 := hv.out.cell 1
      have hlt2 := hv.out.lt
      have hsz := hf2.out.size
      rcases (by omega : k = 0 ∨ k = 1) with rfl | rfl
      · have hsh : IntKind.u8.wrap ((n : Int) / 256) = ((UInt8.ofNat (n / 256)).toNat : Int) := by rw [← u8_of]; congr 1
        generalize HB : UInt8.ofNat (n / 256) = hb at hsh
        go_wp2_with (at_builtin; refine wpList_app _ rfl (.tmp 22) (.tmp 32) _ rfl 5 i0 _ 1 1 Try.underlying28 hi hz0 hz1 hz2 rfl (by omega) byte_zero (O := Ge (w.heap.size + 1)) (by simp [Ge]; omega) rfl (by simpa using (hown.out).alloc _) (m := 1) rfl (rd_one _ _ _) (by intro u hu; simp at hu; rw [hu]; rfl) (by simp only [maxLen]; omega) (by omega) ?_; intro A3 c3 w3 hown3 hf3 hc3 hA3)
        go_roundw
        case rel => exact ⟨1, A3, c3, by omega, by go_num, by go_num, by simpa [Hid, HB, be2, bv] using hown3, hc3 hc2, (hf2.out.alloc _).trans_new hf3 (fun b hb => .inr (Nat.le_of_succ_le (hown.out.at_ b hb))), (hv.out.alloc _).fr hf3 (fun hb => absurd (hown.out.at_ _ hb) (by simp [Ge]))⟩
        case measure => simp [intOf]
      · have hsh : IntKind.u8.wrap (n : Int) = ((UInt8.ofNat (n % 256)).toNat : Int) := by rw [← u8_of, IntKind.wrap_u8, IntKind.wrap_u8]; omega
        generalize HB : UInt8.ofNat (n % 256) = hb at hsh
        go_wp2_with (at_builtin; refine wpList_app _ rfl (.tmp 22) (.tmp 32) _ rfl 5 i0 _ 1 1 Try.underlying28 hi hz0 hz1 hz2 rfl (by omega) byte_zero (O := Ge (w.heap.size + 1)) (by simp [Ge]; omega) rfl (by simpa using (hown.out).alloc _) (m := 1) rfl (rd_one _ _ _) (by intro u hu; simp at hu; rw [hu]; rfl) (by simp only [maxLen]; omega) (by omega) ?_; intro A3 c3 w3 hown3 hf3 hc3 hA3)
        go_roundw
        case rel => exact ⟨2, A3, c3, by omega, by go_num, by go_num, by simpa [Hid, HB, be2, bv] using hown3, hc3 hc2, (hf2.out.alloc _).trans_new hf3 (fun b hb => .inr (Nat.le_of_succ_le (hown.out.at_ b hb))), (hv.out.alloc _).fr hf3 (fun hb => absurd (hown.out.at_ _ hb) (by simp [Ge]))⟩
        case measure => simp [intOf]
    · obtain rfl : k = 2 := by omega
      go_wp2
      go_ret2
      exact ⟨A2, c2, rfl, hown.out.mono (fun b _ hb => Nat.le_of_succ_le hb), hc2, hf2.out⟩

set_option maxHeartbeats 400000 in
theorem put16 {w : World} {n : Nat} (h : n < 65536) :
    Calls Try.prog 27 #[.int .i64 n] w fun e w' => ∃ A c, e = .returned (.tuple #[.slice A 2 c, .int .i64 0]) ∧ Own w' (Ge w.heap.size) 5 Byte A 2 c ((be2 n).map bv) ∧ c ≤ maxLen ∧ Fr No w w' := by
  go_enter Try.func27, Try.ntmps27
  go_wp2_with fail
  refine (put2 h).mono ?_
  rintro e w1 ⟨A1, c1, rfl, hown, hc1, hf1⟩
  go_wp2_with fail
  go_ret2
  exact ⟨A1, c1, rfl, hown, hc1, hf1⟩

/-- What a call that hands back bytes and a number answers: new memory. -/
def NewE (w : World) (bs : List UInt8) (err : Int) (e : Ending) (w' : World) : Prop :=
  ∃ A c, e = .returned (.tuple #[.slice A bs.length c, .int .i64 err]) ∧ Own w' (Ge w.heap.size) 5 Byte A bs.length c (bs.map bv) ∧ c ≤ maxLen ∧ Fr No w w'
theorem newE_nil {w w' : World} {err : Int} (h : Fr No w w') : NewE w [] err (.returned (.tuple #[.slice none 0 0, .int .i64 err])) w' := ⟨none, 0, rfl, Own.nil _ _ _ _, Nat.zero_le _, h⟩

section
variable {w : World} {O : Nat → Prop} {A : Option Addr} {n c : Nat} {bs : List UInt8}
set_option maxHeartbeats 1600000 in
theorem record_bad (kind : Int) (h : RdB w O A n bs) (hbad : kind < 1 ∨ 3 < kind ∨ (kind = 1 ∧ bs ≠ [1]) ∨ (kind = 3 ∧ bs ≠ [])) :
    Calls Try.prog 18 #[.int .i64 kind, .slice A n c] w (NewE w [] 4) := by
  have hl : bs.length = n := by simpa using h.1
  have hcv := conv_rd (c := c) h
  rcases hbad with hk | hk | ⟨rfl, hb⟩ | ⟨rfl, hb⟩
  · clear hl
    go_enter Try.func18, Try.ntmps18
    go_wp2
    go_ret2
    exact newE_nil (Fr.refl _ _)
  · clear hl
    go_enter Try.func18, Try.ntmps18
    go_wp2
    go_ret2
    exact newE_nil (Fr.refl _ _)
  · have hne : (bs == [1]) = false := by simpa using hb
    clear hb
    clear hl
    go_enter Try.func18, Try.ntmps18
    go_wp2
    go_ret2
    exact newE_nil (Fr.refl _ _)
  · have hn : 0 < n := by
      rcases Nat.eq_zero_or_pos n with h0 | h0
      · exact absurd (List.eq_nil_of_length_eq_zero (by omega)) hb
      · exact h0
    clear hl hb
    go_enter Try.func18, Try.ntmps18
    go_wp2
    go_ret2
    exact newE_nil (Fr.refl _ _)

set_option maxHeartbeats 1600000 in
theorem record_good (kind : Int) (h : RdB w O A n bs) (hnc : n ≤ c) (hn : n ≤ 140737488355328) (h1 : 1 ≤ kind) (h3 : kind ≤ 3) (hb1 : kind = 1 → bs = [1]) (hb3 : kind = 3 → bs = []) :
    Calls Try.prog 18 #[.int .i64 kind, .slice A n c] w (NewE w (if 1024 < bs.length then [] else UInt8.ofNat kind.toNat :: be2 bs.length ++ bs) (if 1024 < bs.length then 3 else 0)) := by
  have hl : bs.length = n := by simpa using h.1
  have hcv := conv_rd (c := c) h
  have hk : kind = 1 ∨ kind = 2 ∨ kind = 3 := by omega
  by_cases hlong : 1024 < bs.length
  · obtain rfl : kind = 2 := by
      rcases hk with rfl | rfl | rfl
      · have := hb1 rfl; subst this; simp at hlong
      · rfl
      · have := hb3 rfl; subst this; simp at hlong
    rw [if_pos hlong, if_pos hlong]
    rw [hl] at hlong
    clear hl hb1 hb3
    go_enter Try.func18, Try.ntmps18
    go_wp2
    go_ret2
    exact newE_nil (Fr.refl _ _)
  · rw [if_neg hlong, if_neg hlong]
    rw [hl] at hlong ⊢
    have h256 : n < 65536 := by omega
    have HL := hid hl
    rcases hk with rfl | rfl | rfl
    · have HB : (bs == [1]) = true := by rw [hb1 rfl]; rfl
      clear hl hb1 hb3
      go_enter Try.func18, Try.ntmps18
      go_wp2_with fail
      refine (put16 h256).mono ?_
      rintro e w1 ⟨A1, c1, rfl, hown1, hc1, hf1⟩
      go_wp2_with fail
      have hk1 : RdB (w1.alloc (.cells #[.int .u8 1] 5)) (fun _ => True) (some ⟨w1.heap.size, 0, none⟩) 1 [1] := rd_one w1 (.int .u8 1) _
      have hr1 : RdB (w1.alloc (.cells #[.int .u8 1] 5)) (Ge w.heap.size) A1 2 (be2 n) := Rd.alloc hown1.rd _
      have hr2 : RdB (w1.alloc (.cells #[.int .u8 1] 5)) O A n bs := Rd.alloc (Rd.fr h hf1 (fun _ _ _ hb => hb)) _
      have h3 := rdl_three (t := 28) (Rd.val (c := 1) hk1 (Nat.le_refl _)) (Rd.val (c := c1) hr1 hown1.le) (Rd.val (c := c) hr2 hnc)
      rw [World.size_alloc] at h3
      refine (concat (c := 3) h3 (by omega) (by simp [be2]; have := HL.out; omega)).mono ?_
      rintro e w2 ⟨A2, c2, rfl, hown2, hc2, hf2⟩
      go_wp2_with fail
      go_ret2
      have hl2 : ([[1], be2 n, bs] : List (List UInt8)).flatten = UInt8.ofNat (Int.toNat 1) :: be2 n ++ bs := by simp
      rw [hl2] at hown2
      refine ⟨A2, c2, by simp, hown2.mono (fun b _ hb => ?_), hc2, ((hf1.alloc _).alloc _).trans_no hf2⟩
      have := hf1.size
      simp [Ge] at hb ⊢
      omega
    · clear hcv
      clear hl hb1 hb3
      go_enter Try.func18, Try.ntmps18
      go_wp2_with fail
      refine (put16 h256).mono ?_
      rintro e w1 ⟨A1, c1, rfl, hown1, hc1, hf1⟩
      go_wp2_with fail
      have hk1 : RdB (w1.alloc (.cells #[.int .u8 2] 5)) (fun _ => True) (some ⟨w1.heap.size, 0, none⟩) 1 [2] := rd_one w1 (.int .u8 2) _
      have hr1 : RdB (w1.alloc (.cells #[.int .u8 2] 5)) (Ge w.heap.size) A1 2 (be2 n) := Rd.alloc hown1.rd _
      have hr2 : RdB (w1.alloc (.cells #[.int .u8 2] 5)) O A n bs := Rd.alloc (Rd.fr h hf1 (fun _ _ _ hb => hb)) _
      have h3 := rdl_three (t := 28) (Rd.val (c := 1) hk1 (Nat.le_refl _)) (Rd.val (c := c1) hr1 hown1.le) (Rd.val (c := c) hr2 hnc)
      rw [World.size_alloc] at h3
      refine (concat (c := 3) h3 (by omega) (by simp [be2]; have := HL.out; omega)).mono ?_
      rintro e w2 ⟨A2, c2, rfl, hown2, hc2, hf2⟩
      go_wp2_with fail
      go_ret2
      have hl2 : ([[2], be2 n, bs] : List (List UInt8)).flatten = UInt8.ofNat (Int.toNat 2) :: be2 n ++ bs := by simp
      rw [hl2] at hown2
      refine ⟨A2, c2, by simp, hown2.mono (fun b _ hb => ?_), hc2, ((hf1.alloc _).alloc _).trans_no hf2⟩
      have := hf1.size
      simp [Ge] at hb ⊢
      omega
    · have HB : ¬ 0 < n := by have := hb3 rfl; subst this; simp at hl; omega
      clear hl hb1 hb3
      go_enter Try.func18, Try.ntmps18
      go_wp2_with fail
      refine (put16 h256).mono ?_
      rintro e w1 ⟨A1, c1, rfl, hown1, hc1, hf1⟩
      go_wp2_with fail
      have hk1 : RdB (w1.alloc (.cells #[.int .u8 3] 5)) (fun _ => True) (some ⟨w1.heap.size, 0, none⟩) 1 [3] := rd_one w1 (.int .u8 3) _
      have hr1 : RdB (w1.alloc (.cells #[.int .u8 3] 5)) (Ge w.heap.size) A1 2 (be2 n) := Rd.alloc hown1.rd _
      have hr2 : RdB (w1.alloc (.cells #[.int .u8 3] 5)) O A n bs := Rd.alloc (Rd.fr h hf1 (fun _ _ _ hb => hb)) _
      have h3 := rdl_three (t := 28) (Rd.val (c := 1) hk1 (Nat.le_refl _)) (Rd.val (c := c1) hr1 hown1.le) (Rd.val (c := c) hr2 hnc)
      rw [World.size_alloc] at h3
      refine (concat (c := 3) h3 (by omega) (by simp [be2]; have := HL.out; omega)).mono ?_
      rintro e w2 ⟨A2, c2, rfl, hown2, hc2, hf2⟩
      go_wp2_with fail
      go_ret2
      have hl2 : ([[3], be2 n, bs] : List (List UInt8)).flatten = UInt8.ofNat (Int.toNat 3) :: be2 n ++ bs := by simp
      rw [hl2] at hown2
      refine ⟨A2, c2, by simp, hown2.mono (fun b _ hb => ?_), hc2, ((hf1.alloc _).alloc _).trans_no hf2⟩
      have := hf1.size
      simp [Ge] at hb ⊢
      omega

theorem record_any (kind : Int) (h : RdB w O A n bs) (hnc : n ≤ c) (hn : n ≤ 140737488355328) :
    Calls Try.prog 18 #[.int .i64 kind, .slice A n c] w (NewE w (recOf kind bs).1 (recOf kind bs).2) := by
  by_cases hbad : kind < 1 ∨ 3 < kind ∨ (kind = 1 ∧ bs ≠ [1]) ∨ (kind = 3 ∧ bs ≠ [])
  · rw [recOf, if_pos hbad]
    exact record_bad kind h hbad
  · rw [recOf, if_neg hbad]
    have hg := record_good (c := c) kind h hnc hn (by omega) (by omega)
      (fun e => Decidable.byContradiction fun hb => hbad (.inr (.inr (.inl ⟨e, hb⟩)))) (fun e => Decidable.byContradiction fun hb => hbad (.inr (.inr (.inr ⟨e, hb⟩))))
    split at hg <;> rename_i hx
    · rw [if_pos hx]; exact hg
    · rw [if_neg hx]; exact hg
end
end Go.Proofs.Ytfkkaalchffgaaa
