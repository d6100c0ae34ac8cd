/- The contracts of the verifier's small functions (Pick, SameBytes, CopyBytes, OverBytes, SameLists) and of slices.Clone at bytes, each for every input that its premises let in. -/
import Derived.Test.YtfkkaalchffgaaaRows
import Derived.Test.YtfkkaalchffgaaaApp
import Derived.WalkLawsBesides
import Derived.Deep.QuietTactic
import Derived.BigQuiet
namespace Go.Proofs.Ytfkkaalchffgaaa
open Go.RowKit Go.Ost

theorem info_u8 : (Try.prog.info? 5).map (fun i => (i.zero, i.size, i.bytes)) = some (some (.int .u8 0), 1, 1) := by kernel_rfl
theorem info_bs : (Try.prog.info? 28).map (fun i => (i.zero, i.size, i.bytes)) = some (some (.slice none 0 0), 1, 24) := by kernel_rfl

/-- What is spare in a row of bytes. -/
def Byte (v : Value) : Prop := ∃ x : UInt8, v = bv x

theorem strOf (bs : List UInt8) (s : ByteArray) : ((bs.map fun x : UInt8 => ((x.toNat : Nat) : Int)).foldl (fun r n => r.push (UInt8.ofNat n.toNat)) s) = ⟨s.data ++ bs.toArray⟩ := by
  induction bs generalizing s with
  | nil => simp
  | cons x l ih =>
    simp only [List.map_cons, List.foldl_cons, Int.toNat_natCast]
    rw [ih]
    have e : UInt8.ofNat x.toNat = x := by simp
    rw [e]
    simp [ByteArray.push]

theorem conv_rd {w : World} {O : Nat → Prop} {A : Option Addr} {n c : Nat} {bs : List UInt8} (h : RdB w O A n bs) :
    (convert 28 9 (.slice A n c)).run Try.prog w = .ok (.string ⟨bs.toArray⟩) w := by
  rw [run_convert_bytes_string w 28 9 5 A n c Try.underlying28 Try.underlying5 Try.underlying9]
  rcases A with _ | a
  · rcases Nat.eq_zero_or_pos n with h0 | h0
    · subst h0
      have : bs = [] := List.eq_nil_of_length_eq_zero (by simpa using h.1)
      subst this
      simp [Conv.bytesToString, Sem.run_pure]; rfl
    · obtain ⟨_, _, e, _⟩ := h.2 h0; cases e
  · have hl : bs.length = n := by simpa using h.1
    have e : (bs.map fun x : UInt8 => ((x.toNat : Nat) : Int)).map (Value.int .u8) = bs.map bv := by simp [bv, Function.comp_def]
    have hc : (loadCells a n).run Try.prog w = .ok ((bs.map fun x : UInt8 => ((x.toNat : Nat) : Int)).map (Value.int .u8)).toArray w := by
      rw [e]
      have h1 := run_loadCells_list (P := Try.prog) (w := w) a (bs.map bv) (by
        intro j v hj
        have hp : 0 < n := by
          have := (List.getElem?_eq_some_iff.1 hj).1
          simp at this; omega
        obtain ⟨b, o, ea, _, hk⟩ := h.2 hp
        injection ea with ea
        subst ea
        rw [add_lit_none]
        exact hk j v hj)
      rw [List.length_map, hl] at h1
      exact h1
    rw [run_bytesToString w a n c _ hc, strOf]
    simp

set_option maxHeartbeats 400000 in
theorem same_bytes {w : World} {O O' : Nat → Prop} {A B : Option Addr} {n m c d : Nat} {xs ys : List UInt8} (ha : RdB w O A n xs) (hb : RdB w O' B m ys) :
    Calls Try.prog 12 #[.slice A n c, .slice B m d] w fun e w' => e = .returned (.bool (xs == ys)) ∧ w = w' := by
  have h1 := conv_rd (c := c) ha
  have h2 := conv_rd (c := d) hb
  go_enter Try.func12, Try.ntmps12
  go_wp2
  go_ret
  exact ⟨rfl, rfl⟩

theorem pick_pos (x n : Int) (hn : 1 ≤ n) (h : 0 ≤ x.tmod n) : x.tmod n = x % n := by
  have h0 := Int.emod_nonneg x (show n ≠ 0 by omega)
  have h1 := Int.emod_lt_of_pos x (show 0 < n by omega)
  rw [Int.tmod_eq_emod] at h ⊢
  split at h <;> simp_all <;> omega
theorem pick_neg (x n : Int) (hn : 1 ≤ n) (h : x.tmod n < 0) : -n < x.tmod n ∧ x.tmod n + n = x % n := by
  have h0 := Int.emod_nonneg x (show n ≠ 0 by omega)
  have h1 := Int.emod_lt_of_pos x (show 0 < n by omega)
  have ha : (n.natAbs : Int) = n := by omega
  rw [Int.tmod_eq_emod] at h ⊢
  split at h
  · omega
  · rename_i hh
    rw [if_neg hh]
    rw [ha]
    have : x % n ≠ 0 := fun e => hh (.inr (Int.dvd_of_emod_eq_zero e))
    omega

set_option maxHeartbeats 400000 in
theorem pick_any (x n : Int) (w : World) (hn : 1 ≤ n) (hn2 : n ≤ 4611686018427387904) :
    Calls Try.prog 16 #[.int .i64 x, .int .i64 n] w fun e w' => e = .returned (.int .i64 (x % n)) ∧ w = w' := by
  by_cases hx : x.tmod n < 0
  · obtain ⟨b1, e1⟩ := pick_neg x n hn hx
    go_enter Try.func16, Try.ntmps16
    go_wp2
    go_ret
    exact ⟨rfl, rfl⟩
  · have e1 := pick_pos x n hn (by omega)
    go_enter Try.func16, Try.ntmps16
    go_wp2
    go_ret
    exact ⟨rfl, rfl⟩

/-- A call hands back a new row of bytes. -/
def NewB (w : World) (bs : List UInt8) (e : Ending) (w' : World) : Prop :=
  ∃ A c, e = .returned (.slice A bs.length c) ∧ Own w' (Ge w.heap.size) 5 Byte A bs.length c (bs.map bv) ∧ c ≤ maxLen ∧ Fr No w w'

theorem byte_zero : ∀ v ∈ (Value.int .u8 0).cells.toList, Byte v := by
  intro v hv
  simp [Value.cells] at hv
  exact ⟨0, by simp [hv, bv]⟩
theorem bv_all (bs : List UInt8) : ∀ u ∈ bs.map bv, u.oneCell' = true := by
  intro u hu
  obtain ⟨x, _, rfl⟩ := List.mem_map.1 hu
  rfl
theorem own_lit {w : World} {T : Value → Prop} {t : TypeId} : Own (w.alloc (.cells #[] t)) (Ge w.heap.size) t T (some ⟨w.heap.size, 0, none⟩) (0 * 1) (0 * 1) [] :=
  ⟨by simp, .inr ⟨w.heap.size, [], rfl, Nat.le_refl _, by simpa using Blk.new w t #[], by simp, by simp⟩⟩

set_option maxHeartbeats 400000 in
theorem copy_bytes {w : World} {O : Nat → Prop} {A : Option Addr} {n c : Nat} {bs : List UInt8} (h : RdB w O A n bs) (hn : n ≤ 140737488355328) :
    Calls Try.prog 23 #[.slice A n c] w (NewB w bs) := by
  obtain ⟨i0, hi, hz0, hz1, hz2⟩ := info_parts info_u8
  go_enter Try.func23, Try.ntmps23
  go_wp2_with (at_builtin; refine wpList_app _ rfl (.tmp 3) (.tmp 4) _ rfl 5 i0 _ 1 1 Try.underlying28 hi hz0 hz1 hz2 rfl (by omega) byte_zero (O := Ge w.heap.size) (by simp [Ge]) rfl own_lit (m := n) rfl (by rw [Nat.mul_one]; exact Rd.alloc h _) (bv_all _) (by simp only [maxLen]; omega) (by omega) ?_; intro A1 c1 w1 hown1 hf1 hc1 _)
  go_ret
  have hl : bs.length = n := by simpa using h.1
  subst hl
  refine ⟨A1, c1, by simp, by simpa using hown1, hc1 (Nat.zero_le _), ?_⟩
  exact ((Fr.refl No w).alloc _).trans_new hf1 (fun b hb => by obtain ⟨o, e⟩ := hb; injection e with e; injection e with e; omega)

set_option maxHeartbeats 400000 in
theorem clone_bytes {w : World} {O : Nat → Prop} {A : Option Addr} {n c : Nat} {bs : List UInt8} (h : RdB w O A n bs) (hn : n ≤ 140737488355328) :
    Calls Try.prog 73 #[.slice A n c] w (NewB w bs) := by
  obtain ⟨i0, hi, hz0, hz1, hz2⟩ := info_parts info_u8
  have hl : bs.length = n := by simpa using h.1
  have hq := Lib.run_eql_slice_nil (P := Try.prog) w 28 5 A n c 0 0 Try.underlying28
  rcases A with _ | ad
  · rcases Nat.eq_zero_or_pos n with h0 | h0
    · subst h0
      have hb : bs = [] := List.eq_nil_of_length_eq_zero hl
      subst hb
      clear hl
      go_enter Try.func73, Try.ntmps73
      go_wp2
      go_ret
      exact ⟨none, 0, rfl, Own.nil _ _ _ _, Nat.zero_le _, Fr.refl _ _⟩
    · obtain ⟨_, _, e, _⟩ := h.2 h0; cases e
  · have HL := hid hl
    clear hl
    go_enter Try.func73, Try.ntmps73
    go_wp2_with (at_builtin; refine wpList_app _ rfl (.tmp 5) (.tmp 6) _ rfl 5 i0 _ 1 1 Try.underlying28 hi hz0 hz1 hz2 rfl (by omega) byte_zero (O := Ge w.heap.size) (by simp [Ge]) rfl own_lit (m := n) rfl (by rw [Nat.mul_one]; exact Rd.alloc h _) (bv_all _) (by simp only [maxLen]; omega) (by omega) ?_; intro A1 c1 w1 hown1 hf1 hc1 _)
    go_ret
    have hl := HL.out
    subst hl
    refine ⟨A1, c1, by simp, by simpa using hown1, hc1 (Nat.zero_le _), ?_⟩
    exact ((Fr.refl No w).alloc _).trans_new hf1 (fun b hb => by obtain ⟨o, e⟩ := hb; injection e with e; injection e with e; omega)
end Go.Proofs.Ytfkkaalchffgaaa
