/- The verifier's LentBytes (a copy with marked spare room) and KeptBytes. -/
import Derived.Test.YtpbgcjknhegnmaaDoorKit
import Derived.Test.YtpbgcjknhegnmaaDoorSlice
import Derived.Laws.CopyOwn
import Derived.Deep.OwnRows
import Derived.Deep.LoopGhost
import Derived.Deep.RegionHeld3
namespace Go.Ost
open Go.RowKit
/-- The markB at place i. -/
def markB (i : Nat) : UInt8 := UInt8.ofNat (160 + i % 90)
/-- Bytes and three marks. -/
def lent (bs : List UInt8) : List UInt8 := bs ++ [markB bs.length, markB (bs.length + 1), markB (bs.length + 2)]
theorem lent_len (bs : List UInt8) : (lent bs).length = bs.length + 3 := by simp [lent]
theorem lent_at (bs : List UInt8) (k : Nat) (hk : k < 3) : (lent bs)[bs.length + k]? = some (markB (bs.length + k)) := by
  unfold lent
  rw [List.getElem?_append_right (by omega), Nat.add_sub_cancel_left]
  rcases (by omega : k = 0 ∨ k = 1 ∨ k = 2) with rfl | rfl | rfl <;> rfl

/-- 'copy' to the head of a block that is known whole. -/
theorem run_cp {P : Program} {w : World} {O : Nat → Prop} (dT sT ty elem : TypeId) (hu : P.underlying dT = some (.slice elem)) (hsz : (P.info? elem).map (·.size) = some 1) {g : Nat} {t : TypeId} {cur : List Value} (hB : Blk w g t cur.toArray)
    {B : Option Addr} {m d dc sc : Nat} {cs : List Value} (hr : Rd w O B m cs) (h1 : ∀ u ∈ cs, u.oneCell' = true) (hd : m ≤ d) (hfit : m ≤ cur.length) :
    ∃ w2, (Builtin.copy_ #[dT, sT] ty #[.slice (some ⟨g, 0, none⟩) d dc, .slice B m sc]).run P w = .ok (goInt m) w2 ∧ Blk w2 g t (cs ++ cur.drop m).toArray ∧ Fr (· = g) w w2 := by
  have hl := hr.1
  rcases Nat.eq_zero_or_pos m with h0 | h0
  · subst h0
    have : cs = [] := List.eq_nil_of_length_eq_zero hl
    subst this
    exact ⟨w, run_copy_none (P := P) w dT sT ty elem (some ⟨g, 0, none⟩) B d dc 0 sc hu hsz (by simp), by simpa using hB, Fr.refl _ _⟩
  · obtain ⟨b, o, rfl, _, hc⟩ := hr.2 h0
    have hrun := run_copy_row (P := P) w dT sT ty elem g 0 d dc ⟨b, o, none⟩ m sc cur.toArray t cs hu hsz hB (by rw [hl, show Nat.min m d = min m d from rfl, Nat.min_eq_left hd]) (fun j v hv => by rw [add_lit_none]; exact hc j v hv) (by simp; omega) h1
    rw [hl] at hrun
    refine ⟨_, hrun, ?_, ⟨rfl, rfl, rfl, by simp [World.setRow], fun k _ hk => setRow_other w g k _ hk⟩⟩
    have := setRow_heap w g cur.toArray (([] : List Value) ++ (cs ++ cur.drop m)).toArray t _ hB
    simpa [Blk] using this
end Go.Ost
namespace Go.Proofs.YtpbgcjknhegnmaaDoor
open Go.RowKit Go.Ost

theorem size_u8 : (Tryd.prog.info? 5).map (·.size) = some 1 := by kernel_rfl

set_option maxHeartbeats 1600000 in
theorem lent_any {w : World} {O : Nat → Prop} {A : Option Addr} {n c : Nat} {bs : List UInt8} (h : RdB w O A n bs) (hn : n ≤ 1000000) :
    Calls Tryd.prog 10 #[.slice A n c] w fun e w' => e = .returned (.slice (some ⟨w.heap.size, 0, none⟩) n (n + 3)) ∧ RdB w' (fun b => b = w.heap.size) (some ⟨w.heap.size, 0, none⟩) (n + 3) (lent bs) ∧ Fr No w w' := by
  obtain ⟨i0, hi, hz0, hz1, hz2⟩ := info_parts info_u8
  have hl : bs.length = n := by simpa using h.1
  have HL := hid hl
  clear hl
  go_enter Tryd.func10, Tryd.ntmps10
  go_wp2_with (refine wpList_make_row _ rfl (.tmp 7) (.tmp 7) 22 rfl 5 i0 _ Tryd.underlying22 hi hz0 hz1 rfl .i64 .i64 (n + 3) (by go_num) (by go_num) (by rw [hz2]; omega) (by omega) ?_)
  have hB0 := Blk.new w 5 (madeCells #[.int .u8 0] (n + 3))
  have hB0' : Blk (w.alloc (.cells (madeCells #[.int .u8 0] (n + 3)) 5)) w.heap.size 5 (madeCells #[.int .u8 0] (n + 3)).toList.toArray := by simpa using hB0
  obtain ⟨w2, hcp, hB2, hf2⟩ := run_cp (P := Tryd.prog) 22 22 3 5 Tryd.underlying22 size_u8 hB0' (d := n + 3) (dc := n + 3) (sc := c) (Rd.alloc h (.cells (madeCells #[.int .u8 0] (n + 3)) 5)) (bv_all _) (by omega) (by simp [size_madeCells])
  have hfw : Fr No w w2 := ((Fr.refl No w).alloc _).trans hf2 (fun b hb e => by omega)
  clear hB0 hB0' hf2
  rw [hcp]
  clear hcp
  go_wp2_with fail
  go_loopw [4] (fun i wr => ∃ (k : Nat) (L : List Value), k ≤ 3 ∧ i = .int .i64 (n + k : Nat) ∧ Hid (Blk wr w.heap.size 5 L.toArray) ∧ L.length = n + 3 ∧ Hid (L.take (n + k) = ((lent bs).take (n + k)).map bv) ∧ Hid (Fr No w wr)) (fun i _ => n + 3 - (intOf i).toNat)
  case atStart =>
    refine ⟨0, _, by omega, rfl, hB2, by simp [HL.out, size_madeCells], ?_, hfw⟩
    simp only [Hid, Nat.add_zero]
    rw [List.take_append_of_le_length (by simp [HL.out])]
    unfold lent
    rw [List.take_append_of_le_length (by simp [HL.out])]
    rw [← HL.out, ← List.map_take, List.take_length]
  case round =>
    clear hB2 hfw
    obtain ⟨k, L, hk, rfl, hB, hL, ht, hf⟩ := hrel
    by_cases hlt : k < 3
    · have hc := hB.out.cell (n + k)
      have hfz := hB.out.frozen (n + k)
      rw [List.getElem?_toArray, List.getElem?_eq_getElem (by omega)] at hc
      have hm : (160 + ((n : Int) + k) % 90 : Int) = ((markB (n + k)).toNat : Int) := by
        unfold markB
        rw [UInt8.toNat_ofNat']
        omega
      have HM := hid hm
      clear hm
      go_wp2
      go_roundw
      case rel =>
        rw [HM.out]
        refine ⟨k + 1, L.set (n + k) (bv (markB (n + k))), by omega, by go_num, ?_, by simpa using hL, ?_, ?_⟩
        · have := hB.out.set_ (n + k) (bv (markB (n + k)))
          simpa [Hid, bv] using this
        · have hla := lent_at bs k hlt
          rw [HL.out] at hla
          obtain ⟨h1, h2⟩ := List.getElem?_eq_some_iff.1 hla
          simp only [Hid, ← Nat.add_assoc]
          rw [List.take_succ_eq_append_getElem (by simpa using by omega), List.take_succ_eq_append_getElem h1, List.map_append, h2, ← ht.out]
          rw [List.take_set, List.set_eq_of_length_le (by simp; omega)]
          simp
        · exact hf.out.setCell (.inr (Nat.le_refl _)) _
      case measure => simp [intOf]; omega
    · obtain rfl : 3 = k := by omega
      go_wp2
      go_ret
      refine ⟨rfl, ?_, hf.out⟩
      have h1 := ht.out
      rw [List.take_of_length_le (by omega), List.take_of_length_le (by rw [lent_len, HL.out]; exact Nat.le_refl _)] at h1
      rw [h1] at hB
      refine ⟨by simp [lent_len, HL.out], fun _ => ⟨_, _, rfl, rfl, fun j v hv => ?_⟩⟩
      rw [Nat.zero_add, hB.out.cell]
      simpa using hv

theorem lent_room {w : World} {O : Nat → Prop} {A : Option Addr} {n c m : Nat} {bs : List UInt8} (hm : n + 3 = m) (h : RdB w O A n bs) (hn : n ≤ 1000000) :
    Calls Tryd.prog 10 #[.slice A n c] w fun e w' => e = .returned (.slice (some ⟨w.heap.size, 0, none⟩) n m) ∧ RdB w' (fun b => b = w.heap.size) (some ⟨w.heap.size, 0, none⟩) m (lent bs) ∧ Fr No w w' := by
  subst hm
  exact lent_any h hn

set_option maxHeartbeats 1600000 in
/-- KeptBytes at a slice that LentBytes made, and that nobody has turned. -/
theorem kept_any {w : World} {O O' : Nat → Prop} {A : Option Addr} {n c g m : Nat} {bs : List UInt8} (hm : n + 3 = m) (hin : RdB w O' (some ⟨g, 0, none⟩) m (lent bs)) (h : RdB w O A n bs) (hn : n ≤ 1000000) :
    Calls Tryd.prog 15 #[.slice (some ⟨g, 0, none⟩) n m, .slice A n c] w fun e w' => e = .returned (.bool true) ∧ Fr No w w' := by
  have e1 : (n : Int) + 3 = (m : Int) := by omega
  have e2 : n ≤ m := by omega
  have e3 : (m : Int) ≤ 1000003 := by omega
  have e4 : m ≠ 0 := by omega
  have e5 : 0 < m := by omega
  have e6 : IntKind.i64.wrap (m : Int) = (m : Int) := by rw [IntKind.wrap_i64]; omega
  have hsl : ∀ (w : World) (b : Nat), (Instr.slice 22 (.slice (some ⟨b, 0, none⟩) n m) none (some (.int .i64 (m : Int))) none).run Tryd.prog w = .ok (.slice (some ⟨b, 0, none⟩) m m) w := fun w b => by
    have hs : (sizeOf (Tryd.prog.elem 22)).run Tryd.prog w = .ok 1 w := by kernel_rfl
    rw [run_slice_h (P := Tryd.prog) (w := w) 22 (some ⟨b, 0, none⟩) n m Tryd.underlying22 .i64 (m : Int) (by omega) (Int.le_refl _), hs]
    simp [Result.andThen, sliced, e4, add_lit_none]
  have HM := hid hm
  clear hm
  go_enter Tryd.func15, Tryd.ntmps15
  go_wp2
  go_region_held3 (fun _ => True) (trivial)
    (first
      | ((go_at_call 10; refine (lent_room (w := w.drew) (c := c) HM.out h hn).mono ?_; rintro e w1 ⟨rfl, h1, hf1⟩; have hin1 : RdB w1 O' (some ⟨g, 0, none⟩) m (lent bs) := Rd.fr (w := w.drew) hin hf1 (fun _ _ _ h => h)))
      | ((go_at_call 14; refine (same_bytes (w := w1) (c := m) (d := m) hin1 h1).mono ?_; rintro e w2 ⟨rfl, rfl⟩)))
  go_wp2
  go_ret
  exact ⟨by simp, Fr.of_drew hf1⟩
end Go.Proofs.YtpbgcjknhegnmaaDoor
