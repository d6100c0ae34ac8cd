/- octet.get, Get16, record.size and record.kind: the number of two bytes behind the first. -/
import Derived.Test.YtfkkaalchffgaaaAt
import Derived.Deep.LoopGhost
import Derived.Deep.QuietTactic
import Derived.BigQuiet
namespace Go.Proofs.Ytfkkaalchffgaaa
open Go.RowKit Go.Ost

/-- What get tells at place 1, of two bytes. -/
def GetR (w : World) (bs : List UInt8) (e : Ending) (w' : World) : Prop :=
  (3 ≤ bs.length → ∃ x y : UInt8, bs[1]? = some x ∧ bs[2]? = some y ∧ e = .returned (.tuple #[.int .i64 (256 * x.toNat + y.toNat), .int .i64 3, .agg #[.int .i64 0, .int .i64 0]])) ∧
  (bs.length < 3 → e = .returned (.tuple #[.int .i64 0, .int .i64 0, .agg #[.int .i64 4, .int .i64 bs.length]])) ∧ Fr No w w'

section
variable {w : World} {O : Nat → Prop} {A : Option Addr} {n c : Nat} {bs : List UInt8}
set_option maxHeartbeats 4000000 in
theorem get_short1 (h : RdB w O A 1 bs) : Calls Try.prog 64 #[.slice A 1 c, .int .i64 1, .int .i64 2] w fun e w' => e = .returned (.tuple #[.int .i64 0, .int .i64 0, .agg #[.int .i64 4, .int .i64 1]]) ∧ Fr No w w' := by
  have hnil : A = none → 1 = 0 := fun e => by obtain ⟨_, _, e', _⟩ := h.2 (by omega); rw [e] at e'; cases e'
  go_enter Try.func64, Try.ntmps64
  go_wp2
  go_loopw [9, 23] (fun a i wr => a = .int .i64 0 ∧ i = .int .i64 0 ∧ Hid (Fr No w wr) ∧ Hid (Blk wr w.heap.size 94 #[.int .i64 0, .int .i64 0])) (fun _ _ _ => 0)
  case atStart => exact ⟨rfl, rfl, (Fr.refl _ _).alloc _, Blk.new w _ _⟩
  case round =>
    obtain ⟨rfl, rfl, hf, hB⟩ := hrel
    go_wp2_with fail
    refine (at_out (c := c) (i := 1) (Nat.le_refl _) hnil).mono ?_
    rintro e w1 ⟨rfl, hf1⟩
    have hB1 := hB.out.fr hf1 (fun h => h)
    have c0 := hB1.cell 0
    have c1 := hB1.cell 1
    have z0 := hB1.frozen 0
    have z1 := hB1.frozen 1
    simp at c0 c1
    go_wp2
    have hBB := (hB1.set_ 0 (.int .i64 4)).set_ 1 (.int .i64 1)
    have d0 := hBB.cell 0
    have d1 := hBB.cell 1
    simp at d0 d1
    refine bodyPost_ret (v := .tuple #[.int .i64 0, .int .i64 0, .agg #[.int .i64 4, .int .i64 1]]) ?_ rfl ?_
    · simp [results, Try.results64, go_sem, d0, d1]
    · exact ⟨rfl, ((hf.out.trans_no hf1).setCell (p := ⟨w.heap.size, 0, none⟩) (.inr (Nat.le_refl _)) _).setCell (p := ⟨w.heap.size, 1, none⟩) (.inr (Nat.le_refl _)) _⟩

theorem or0 (x : UInt8) : bits .or .i64 0 (wrap64 (x.toNat : Int)) = (x.toNat : Int) := by
  have h : ∀ n : Fin 256, bits .or .i64 0 (wrap64 (n.val : Int)) = (n.val : Int) := by decide +kernel
  exact h ⟨x.toNat, x.toNat_lt⟩

theorem wraps32 (n : Int) (h0 : 0 ≤ n) (h1 : n < 2 ^ 32) : IntKind.i64.wrap n = n := by rw [IntKind.wrap_i64]; omega
theorem or8n (a b : Nat) (ha : a < 256) (hb : b < 256) : bits .or .i64 ((a : Int) * 256) (b : Int) = (a : Int) * 256 + (b : Int) :=
  bits_join .i64 32 (by decide) wraps32 8 ((a : Int) * 256) b (by omega) (by omega) (by omega) (by omega) (by omega) (by omega)
theorem w64n (a : Nat) (ha : a < 70000) : wrap64 (a : Int) = a := by unfold wrap64; omega
theorem or8 (x y : UInt8) : bits .or .i64 (wrap64 ((x.toNat : Int) * 256)) (wrap64 (y.toNat : Int)) = 256 * (x.toNat : Int) + (y.toNat : Int) := by
  have hx := x.toNat_lt
  have hy := y.toNat_lt
  generalize x.toNat = a at hx
  generalize y.toNat = b at hy
  have e1 : wrap64 ((a : Int) * 256) = (a : Int) * 256 := by
    have := w64n (a * 256) (by omega)
    simpa using this
  rw [e1, w64n b (by omega), or8n a b (by omega) (by omega), Int.mul_comm]

set_option maxHeartbeats 4000000 in
theorem get_long {b o : Nat} {x y : UInt8} (h1 : w.cell? ⟨b, o + 1, none⟩ = some (bv x)) (h2 : 3 ≤ n → w.cell? ⟨b, o + 2, none⟩ = some (bv y)) (hn : 2 ≤ n) (hn2 : n ≤ 140737488355328) :
    Calls Try.prog 64 #[.slice (some ⟨b, o, none⟩) n c, .int .i64 1, .int .i64 2] w fun e w' => e = .returned (if 3 ≤ n then .tuple #[.int .i64 (256 * x.toNat + y.toNat), .int .i64 3, .agg #[.int .i64 0, .int .i64 0]] else .tuple #[.int .i64 0, .int .i64 0, .agg #[.int .i64 4, .int .i64 2]]) ∧ Fr No w w' := by
  go_enter Try.func64, Try.ntmps64
  go_wp2
  go_loopw [9, 23] (fun a i wr => ∃ k : Nat, i = .int .i64 k ∧ (k ≤ 2 ∧ (k = 2 → 3 ≤ n)) ∧ a = .int .i64 (if k = 0 then 0 else if k = 1 then x.toNat else 256 * x.toNat + y.toNat : Nat) ∧ Hid (Fr No w wr) ∧ Hid (Blk wr w.heap.size 94 #[.int .i64 0, .int .i64 0])) (fun _ i _ => 2 - (intOf i).toNat)
  case atStart => exact ⟨0, rfl, by omega, rfl, (Fr.refl _ _).alloc _, Blk.new w _ _⟩
  case round =>
    obtain ⟨k, rfl, ⟨hk, hk2⟩, rfl, hf, hB⟩ := hrel
    rcases (by omega : k = 0 ∨ k = 1 ∨ k = 2) with rfl | rfl | rfl
    · have hx := hf.out.cell (fun h => h) h1
      go_wp2_with fail
      refine (at_in (c := c) (i := 1) hx (by omega)).mono ?_
      rintro e w1 ⟨rfl, hf1⟩
      unfold bv
      go_wp2
      go_roundw
      case rel => exact ⟨1, by go_num, by omega, by simp [or0], hf.out.trans_no hf1, hB.out.fr hf1 (fun h => h)⟩
      case measure => simp [intOf]
    · by_cases h3 : 3 ≤ n
      · have hy := hf.out.cell (fun h => h) (h2 h3)
        simp only [Nat.reduceEqDiff, if_false, if_true]
        go_wp2_with fail
        refine (at_in (c := c) (i := 2) hy (by omega)).mono ?_
        rintro e w1 ⟨rfl, hf1⟩
        unfold bv
        go_wp2
        go_roundw
        case rel => exact ⟨2, by go_num, ⟨by omega, fun _ => h3⟩, by simp [or8], hf.out.trans_no hf1, hB.out.fr hf1 (fun h => h)⟩
        case measure => simp [intOf]
      · have hn2' : n = 2 := by omega
        subst hn2'
        simp only [Nat.reduceEqDiff, if_false, if_true]
        go_wp2_with fail
        refine (at_out (c := c) (i := 2) (Nat.le_refl _) (fun e => by cases e)).mono ?_
        rintro e w1 ⟨rfl, hf1⟩
        have hB1 := hB.out.fr hf1 (fun h => h)
        have c0 := hB1.cell 0
        have c1 := hB1.cell 1
        have z0 := hB1.frozen 0
        have z1 := hB1.frozen 1
        simp at c0 c1
        go_wp2
        have hBB := (hB1.set_ 0 (.int .i64 4)).set_ 1 (.int .i64 2)
        have d0 := hBB.cell 0
        have d1 := hBB.cell 1
        simp at d0 d1
        refine bodyPost_ret (v := .tuple #[.int .i64 0, .int .i64 0, .agg #[.int .i64 4, .int .i64 2]]) ?_ rfl ?_
        · simp [results, Try.results64, go_sem, d0, d1]
        · exact ⟨by simp, ((hf.out.trans_no hf1).setCell (p := ⟨w.heap.size, 0, none⟩) (.inr (Nat.le_refl _)) _).setCell (p := ⟨w.heap.size, 1, none⟩) (.inr (Nat.le_refl _)) _⟩
    · have h3 := hk2 rfl
      have c0 := hB.out.cell 0
      have c1 := hB.out.cell 1
      have z0 := hB.out.frozen 0
      have z1 := hB.out.frozen 1
      simp at c0 c1
      simp only [Nat.reduceEqDiff, if_false]
      go_wp2
      have hBB := (hB.out.set_ 0 (.int .i64 0)).set_ 1 (.int .i64 0)
      have d0 := hBB.cell 0
      have d1 := hBB.cell 1
      simp at d0 d1
      refine bodyPost_ret (v := .tuple #[.int .i64 (256 * x.toNat + y.toNat), .int .i64 3, .agg #[.int .i64 0, .int .i64 0]]) ?_ rfl ?_
      · simp [results, Try.results64, go_sem, d0, d1]
      · exact ⟨rfl, (hf.out.setCell (p := ⟨w.heap.size, 0, none⟩) (.inr (Nat.le_refl _)) _).setCell (p := ⟨w.heap.size, 1, none⟩) (.inr (Nat.le_refl _)) _⟩

/-- What get tells at place 1, of two bytes: the number, where there are so many; else the fault. -/
def gotV (bs : List UInt8) : Value :=
  match bs with
  | _ :: x :: y :: _ => .tuple #[.int .i64 (256 * x.toNat + y.toNat), .int .i64 3, .agg #[.int .i64 0, .int .i64 0]]
  | l => .tuple #[.int .i64 0, .int .i64 0, .agg #[.int .i64 4, .int .i64 l.length]]

theorem get_any (h : RdB w O A n bs) (hn : 1 ≤ n) (hn2 : n ≤ 140737488355328) :
    Calls Try.prog 64 #[.slice A n c, .int .i64 1, .int .i64 2] w fun e w' => e = .returned (gotV bs) ∧ Fr No w w' := by
  have hl : bs.length = n := by simpa using h.1
  match bs, h, hl with
  | [], _, hl => simp at hl; omega
  | [z], h, hl =>
    simp at hl
    subst hl
    exact get_short1 h
  | [z, x], h, hl =>
    simp at hl
    subst hl
    obtain ⟨b, o, rfl, _, hc⟩ := h.2 (by omega)
    have := get_long (w := w) (n := 2) (c := c) (b := b) (o := o) (x := x) (y := x) (hc 1 _ rfl) (by omega) (by omega) (by omega)
    simpa [gotV] using this
  | z :: x :: y :: t, h, hl =>
    simp at hl
    obtain ⟨b, o, rfl, _, hc⟩ := h.2 (by omega)
    have := get_long (w := w) (n := n) (c := c) (b := b) (o := o) (x := x) (y := y) (hc 1 _ rfl) (fun _ => hc 2 _ rfl) (by omega) hn2
    rw [if_pos (by omega)] at this
    exact this

set_option maxHeartbeats 800000 in
theorem get16_any (h : RdB w O A n bs) (hn : 1 ≤ n) (hn2 : n ≤ 140737488355328) :
    Calls Try.prog 63 #[.slice A n c, .int .i64 1] w fun e w' => e = .returned (gotV bs) ∧ Fr No w w' := by
  obtain ⟨q1, q2, q3, q4, hq⟩ : ∃ q1 q2 q3 q4, gotV bs = .tuple #[.int .i64 q1, .int .i64 q2, .agg #[.int .i64 q3, .int .i64 q4]] := by
    unfold gotV
    split <;> exact ⟨_, _, _, _, rfl⟩
  have hg := fun ob => get_any (w := w.alloc ob) (c := c) (Rd.alloc h ob) hn hn2
  rw [hq] at hg ⊢
  go_enter Try.func63, Try.ntmps63
  go_wp2_with fail
  refine (hg _).mono ?_
  rintro e w1 ⟨rfl, hf1⟩
  have hB := (Blk.new w 94 #[.int .i64 0, .int .i64 0]).fr hf1 (fun h => h)
  have c0 := hB.cell 0
  have c1 := hB.cell 1
  have z0 := hB.frozen 0
  have z1 := hB.frozen 1
  simp at c0 c1
  go_wp2
  have hBB := (hB.set_ 0 (.int .i64 q3)).set_ 1 (.int .i64 q4)
  have d0 := hBB.cell 0
  have d1 := hBB.cell 1
  simp at d0 d1
  refine bodyPost_ret (v := .tuple #[.int .i64 q1, .int .i64 q2, .agg #[.int .i64 q3, .int .i64 q4]]) ?_ rfl ?_
  · simp [results, Try.results63, go_sem, d0, d1]
  · exact ⟨rfl, ((((Fr.refl No w).alloc _).trans_no hf1).setCell (p := ⟨w.heap.size, 0, none⟩) (.inr (Nat.le_refl _)) _).setCell (p := ⟨w.heap.size, 1, none⟩) (.inr (Nat.le_refl _)) _⟩

/-- How many bytes a record says that it carries; none: that has not come. -/
def sizeOfRec (bs : List UInt8) : Option Nat :=
  match bs with
  | _ :: x :: y :: _ => some (256 * x.toNat + y.toNat)
  | _ => none

set_option maxHeartbeats 800000 in
theorem size_any (h : RdB w O A n bs) (hn : 1 ≤ n) (hn2 : n ≤ 140737488355328) :
    Calls Try.prog 61 #[.slice A n c] w fun e w' => e = .returned (.tuple #[.int .i64 ((sizeOfRec bs).getD 0 : Nat), .bool (sizeOfRec bs).isSome]) ∧ Fr No w w' := by
  obtain ⟨q1, q2, q3, q4, hq, hq1, hq3⟩ : ∃ q1 q2 q3 q4 : Int, gotV bs = .tuple #[.int .i64 q1, .int .i64 q2, .agg #[.int .i64 q3, .int .i64 q4]] ∧ q1 = ((sizeOfRec bs).getD 0 : Nat) ∧ (q3 == 0) = (sizeOfRec bs).isSome := by
    unfold gotV sizeOfRec
    split <;> exact ⟨_, _, _, _, rfl, by simp, by simp⟩
  have hg := get16_any (c := c) h hn hn2
  rw [hq] at hg
  rw [← hq1, ← hq3]
  clear hq1 hq3 hq
  go_enter Try.func61, Try.ntmps61
  go_wp2_with fail
  refine hg.mono ?_
  rintro e w1 ⟨rfl, hf1⟩
  clear hg
  go_wp2
  go_quiet (fail)
  go_wp2
  go_ret2
  exact ⟨rfl, (hf1.alloc _).drewN _⟩

theorem kind_any {b o : Nat} {x : UInt8} (h : w.cell? ⟨b, o, none⟩ = some (bv x)) (hn : 1 ≤ n) :
    Calls Try.prog 60 #[.slice (some ⟨b, o, none⟩) n c] w fun e w' => e = .returned (.int .i64 (x.toNat : Int)) ∧ w = w' := by
  unfold bv at h
  have e0 : (⟨b, o + 0, none⟩ : Addr) = ⟨b, o, none⟩ := by simp
  have hx := x.toNat_lt
  go_enter Try.func60, Try.ntmps60
  go_wp2
  go_ret
  exact ⟨rfl, rfl⟩
end
end Go.Proofs.Ytfkkaalchffgaaa
