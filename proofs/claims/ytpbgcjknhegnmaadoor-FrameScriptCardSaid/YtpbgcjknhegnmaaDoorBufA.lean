/- bytes.Buffer inside a frame.Reader, its bytes read from an offset on: Len, Bytes, tryGrowByReslice, Next, Reset; bytes.Clone. -/
import Derived.Test.YtpbgcjknhegnmaaDoorKit
import Derived.Test.YtpbgcjknhegnmaaDoorSlice
import Derived.Deep.QuietTactic
import Derived.BigQuiet
import Derived.IntWalk
import Derived.Lib.Buffer
namespace Go.Proofs.YtpbgcjknhegnmaaDoor
open Go.RowKit Go.Ost

/-- A reader at block a: its most, whether it is broken, its error, the bytes of its buffer, how many of them are read; A, c, lr: the buffer's slice and its mark; O: the reader's blocks. -/
def FW (w : World) (O : Nat → Prop) (a : Nat) (most : Int) (br : Bool) (er : Int) (all : List UInt8) (off : Nat) (A : Option Addr) (c : Nat) (lr : Int) : Prop :=
  (∀ y, O y → y < w.heap.size) ∧ O a ∧ off ≤ all.length ∧ Blk w a 56 #[.int .i64 most, .bool br, .slice A all.length c, .int .i64 off, .int .i8 lr, .int .i64 er] ∧
    Ost.Own w (fun y => O y ∧ y ≠ a) 5 Byte A all.length c (all.map bv) ∧ c ≤ maxLen

section
variable {w w' : World} {O S : Nat → Prop} {a : Nat} {most : Int} {br : Bool} {er : Int} {all : List UInt8} {off : Nat} {A : Option Addr} {c : Nat} {lr : Int}
theorem FW.fr (h : FW w O a most br er all off A c lr) (hf : Fr S w w') (hd : ∀ y, O y → ¬ S y) : FW w' O a most br er all off A c lr := by
  obtain ⟨h1, h2, h3, h4, h5, h6⟩ := h
  exact ⟨fun y hy => Nat.lt_of_lt_of_le (h1 y hy) hf.size, h2, h3, h4.fr hf (hd a h2), h5.fr hf (fun y _ hy => hd y hy.1), h6⟩
theorem FW.drewN (h : FW w O a most br er all off A c lr) (k : Nat) : FW (w.drewN k) O a most br er all off A c lr := h
theorem FW.len (h : FW w O a most br er all off A c lr) : all.length ≤ c := h.2.2.2.2.1.le

/-- The world but for draws. -/
def Same (w w' : World) : Prop := ∃ k, w' = w.drewN k

theorem len_q (h : FW w O a most br er all off A c lr) : Calls Tryd.prog 35 #[.pointer (some ⟨a, 2, none⟩)] w fun e w' => e = .returned (.int .i64 (all.length - off : Nat)) ∧ ∃ k, w' = w.drewN k := by
  obtain ⟨_, _, h3, h4, h5, h6⟩ := h
  have c2 := h4.cell 2
  have c3 := h4.cell 3
  have hle := h5.le
  unfold maxLen at h6
  simp at c2 c3
  obtain ⟨m, hm⟩ : ∃ m, all.length = off + m := ⟨all.length - off, by omega⟩
  rw [hm] at c2 hle ⊢
  have e1 : off + m - off = m := by omega
  rw [e1]
  clear hm e1 h5 h4 h3
  go_enter Tryd.func35, Tryd.ntmps35
  go_wp2
  go_quiet (fail)
  go_wp2
  go_ret
  exact ⟨by simp; omega, _, rfl⟩

/-- 's[l:h]': the value that comes back, named. -/
theorem slice_mid {A : Option Addr} {n c l h : Nat} (hl : l ≤ h) (hh : h ≤ c) : ∃ A', (∀ w, (Instr.slice 22 (.slice A n c) (some (.int .i64 (l : Int))) (some (.int .i64 (h : Int))) none).run Tryd.prog w = .ok (.slice A' (h - l) (c - l)) w) ∧ (l < h → A' = A.map (·.add (l * 1))) := by
  have hs : ∀ w, (sizeOf (Tryd.prog.elem 22)).run Tryd.prog w = .ok 1 w := fun w => by kernel_rfl
  have hr := fun w => run_slice_lh (P := Tryd.prog) (w := w) 22 A n c Tryd.underlying22 .i64 .i64 (l : Int) (h : Int) (by omega) (by omega) (by omega)
  refine ⟨(match sliced A l h c 1 with | .slice A' _ _ => A' | _ => none), fun w => ?_, fun hlt => ?_⟩
  · rw [hr w, hs w]
    simp only [Result.andThen, Int.toNat_natCast]
    unfold sliced
    split <;> simp
  · unfold sliced
    have hne : c ≠ l := by omega
    split <;> simp_all

theorem rd_mid {w : World} {O : Nat → Prop} {A A' : Option Addr} {n l h : Nat} {vs : List Value} (hr : Rd w O A n vs) (hl : l ≤ h) (hh : h ≤ n) (hA : l < h → A' = A.map (·.add (l * 1))) : Rd w O A' (h - l) ((vs.drop l).take (h - l)) := by
  refine ⟨by rw [List.length_take, List.length_drop, hr.1]; omega, fun hn => ?_⟩
  obtain ⟨b, o, rfl, hb, hc⟩ := hr.2 (by omega)
  refine ⟨b, o + l, ?_, hb, fun j v hv => ?_⟩
  · rw [hA (by omega), Option.map_some, Nat.mul_one, add_lit_none]
  · rw [Nat.add_assoc]
    rw [List.getElem?_take] at hv
    split at hv
    · exact hc _ v (by rw [← hv, List.getElem?_drop])
    · cases hv

/-- What Bytes hands back. -/
def BytesR (w : World) (O : Nat → Prop) (a : Nat) (bs : List UInt8) (e : Ending) (w' : World) : Prop :=
  ∃ A c, e = .returned (.slice A bs.length c) ∧ bs.length ≤ c ∧ RdB w' (fun y => O y ∧ y ≠ a) A bs.length bs ∧ ∃ k, w' = w.drewN k

theorem bytes_q (h : FW w O a most br er all off A c lr) : Calls Tryd.prog 42 #[.pointer (some ⟨a, 2, none⟩)] w (BytesR w O a (all.drop off)) := by
  obtain ⟨_, _, h3, h4, h5, h6⟩ := h
  have c2 := h4.cell 2
  have c3 := h4.cell 3
  have hle := h5.le
  have hlen : (all.drop off).length = all.length - off := List.length_drop
  have hrd : RdB w (fun y => O y ∧ y ≠ a) A all.length all := h5.rd
  unfold maxLen at h6
  simp at c2 c3
  obtain ⟨A', hsl, hA'⟩ := slice_from (P := Tryd.prog) (t := 22) (s := 1) Tryd.underlying22 (fun w => by kernel_rfl) A (n := all.length) (c := c) (l := off) h3 hle
  have hres : RdB w (fun y => O y ∧ y ≠ a) A' (all.length - off) (all.drop off) := by
    have := rd_mid hrd h3 (Nat.le_refl _) (A' := A') hA'
    rw [List.take_of_length_le (by simp)] at this
    unfold RdB
    rw [List.map_drop]
    exact this
  have HLEN := hid hlen
  clear hlen
  go_enter Tryd.func42, Tryd.ntmps42
  go_wp2
  go_quiet (fail)
  go_wp2
  go_ret
  exact ⟨A', c - off, by rw [HLEN.out]; rfl, by rw [HLEN.out]; omega, by rw [HLEN.out]; exact hres.drewN _, _, rfl⟩

theorem own_more {n : Nat} {O2 : Nat → Prop} (h : Ost.Own w O2 5 Byte A all.length c (all.map bv)) (hn : all.length + n ≤ c) : ∃ xs : List UInt8, xs.length = n ∧ Ost.Own w O2 5 Byte A (all.length + n) c ((all ++ xs).map bv) := by
  obtain ⟨h1, h2⟩ := h
  rcases h2 with ⟨rfl, e1, e2⟩ | ⟨b, ts, rfl, hO, hB, hl, hT⟩
  · obtain rfl : n = 0 := by omega
    exact ⟨[], rfl, by simp, .inl ⟨rfl, by omega, e2⟩⟩
  · have hex : ∀ l : List Value, (∀ v ∈ l, Byte v) → ∃ xs : List UInt8, l = xs.map bv := by
      intro l
      induction l with
      | nil => exact fun _ => ⟨[], rfl⟩
      | cons v l ih =>
        intro hv
        obtain ⟨xs, hx⟩ := ih fun u hu => hv u (List.mem_cons_of_mem _ hu)
        obtain ⟨x, hx0⟩ := hv v (List.mem_cons_self ..)
        exact ⟨x :: xs, by simp [hx, hx0]⟩
    obtain ⟨xs, hx⟩ := hex (ts.take n) fun v hv => hT v (List.mem_of_mem_take hv)
    have hxl : xs.length = n := by
      have := congrArg List.length hx
      simp only [List.length_take, List.length_map] at this
      omega
    refine ⟨xs, hxl, by simp [hxl], .inr ⟨b, ts.drop n, rfl, hO, ?_, by rw [List.length_drop]; omega, fun v hv => hT v (List.mem_of_mem_drop hv)⟩⟩
    have e : (all ++ xs).map bv ++ ts.drop n = all.map bv ++ ts := by rw [List.map_append, ← hx, List.append_assoc, List.take_append_drop]
    rw [e]
    exact hB

/-- tryGrowByReslice, where there is room. -/
def RoomR (w : World) (O : Nat → Prop) (a : Nat) (most : Int) (br : Bool) (er : Int) (all : List UInt8) (off n : Nat) (A : Option Addr) (c : Nat) (lr : Int) (e : Ending) (w' : World) : Prop :=
  ∃ xs : List UInt8, xs.length = n ∧ e = .returned (.tuple #[.int .i64 all.length, .bool true]) ∧ FW w' O a most br er (all ++ xs) off A c lr ∧ Fr (· = a) w w'

theorem try_room {n : Nat} (h : FW w O a most br er all off A c lr) (hn : all.length + n ≤ c) : Calls Tryd.prog 37 #[.pointer (some ⟨a, 2, none⟩), .int .i64 n] w (RoomR w O a most br er all off n A c lr) := by
  obtain ⟨h1, h2, h3, h4, h5, h6⟩ := h
  have c2 := h4.cell 2
  have f2 := h4.frozen 2
  have hle := h5.le
  have hlt := h4.lt
  unfold maxLen at h6
  simp at c2
  obtain ⟨xs, hx, hown⟩ := own_more h5 hn
  have HX := hid hx
  clear hx
  have hlen : (all ++ xs).length = all.length + n := by rw [List.length_append, HX.out]
  have HLEN := hid hlen
  clear hlen
  go_enter Tryd.func37, Tryd.ntmps37
  go_wp2
  go_ret2
  have hf : Fr (· = a) w (w.setCell ⟨a, 2, none⟩ (.slice A (all.length + n) c)) := (Fr.refl (· = a) w).setCell (p := ⟨a, 2, none⟩) (.inl rfl) _
  refine ⟨xs, HX.out, rfl, ⟨fun y hy => Nat.lt_of_lt_of_le (h1 y hy) hf.size, h2, by rw [HLEN.out]; omega, ?_, ?_, by unfold maxLen; omega⟩, hf⟩
  · rw [HLEN.out]
    simpa using h4.set_ 2 (.slice A (all.length + n) c)
  · rw [HLEN.out]
    exact hown.fr hf fun y _ hy => hy.2

theorem try_none {n : Nat} (h : FW w O a most br er all off A c lr) (hn : c < all.length + n) (hb : n ≤ 9223372036854775807) : Calls Tryd.prog 37 #[.pointer (some ⟨a, 2, none⟩), .int .i64 n] w fun e w' => e = .returned (.tuple #[.int .i64 0, .bool false]) ∧ w = w' := by
  obtain ⟨h1, h2, h3, h4, h5, h6⟩ := h
  have c2 := h4.cell 2
  have f2 := h4.frozen 2
  have hle := h5.le
  unfold maxLen at h6
  simp at c2
  go_enter Tryd.func37, Tryd.ntmps37
  go_wp2
  go_ret2
  exact ⟨rfl, rfl⟩

/-- Reset. -/
def ResetR (w : World) (O : Nat → Prop) (a : Nat) (most : Int) (br : Bool) (er : Int) (A : Option Addr) (c : Nat) (e : Ending) (w' : World) : Prop :=
  e = .returned (.tuple #[]) ∧ FW w' O a most br er [] 0 A c 0 ∧ Fr (· = a) w w'

theorem own_none {O2 : Nat → Prop} (h : Ost.Own w O2 5 Byte A all.length c (all.map bv)) : Ost.Own w O2 5 Byte A 0 c [] := by
  obtain ⟨h1, h2⟩ := h
  refine ⟨rfl, ?_⟩
  rcases h2 with ⟨rfl, e1, e2⟩ | ⟨b, ts, rfl, hO, hB, hl, hT⟩
  · exact .inl ⟨rfl, rfl, e2⟩
  · refine .inr ⟨b, all.map bv ++ ts, rfl, hO, hB, by rw [List.length_append, List.length_map]; omega, fun v hv => ?_⟩
    rcases List.mem_append.1 hv with hv | hv
    · obtain ⟨x, _, rfl⟩ := List.mem_map.1 hv
      exact ⟨x, rfl⟩
    · exact hT v hv

theorem reset_any (h : FW w O a most br er all off A c lr) : Calls Tryd.prog 34 #[.pointer (some ⟨a, 2, none⟩)] w (ResetR w O a most br er A c) := by
  obtain ⟨h1, h2, h3, h4, h5, h6⟩ := h
  have c2 := h4.cell 2
  have c3 := h4.cell 3
  have c4 := h4.cell 4
  have f2 := h4.frozen 2
  have f3 := h4.frozen 3
  have f4 := h4.frozen 4
  have hle := h5.le
  have hlt := h4.lt
  unfold maxLen at h6
  simp at c2 c3 c4
  go_enter Tryd.func34, Tryd.ntmps34
  go_wp2
  go_end0
  have hf : Fr (· = a) w (((w.setCell ⟨a, 2, none⟩ (.slice A 0 c)).setCell ⟨a, 3, none⟩ (.int .i64 0)).setCell ⟨a, 4, none⟩ (.int .i8 0)) := (((Fr.refl (· = a) w).setCell (p := ⟨a, 2, none⟩) (.inl rfl) _).setCell (p := ⟨a, 3, none⟩) (.inl rfl) _).setCell (p := ⟨a, 4, none⟩) (.inl rfl) _
  refine ⟨rfl, ⟨fun y hy => Nat.lt_of_lt_of_le (h1 y hy) hf.size, h2, Nat.le_refl _, ?_, (own_none h5).fr hf (fun y _ hy => hy.2), by unfold maxLen; omega⟩, hf⟩
  simpa using ((h4.set_ 2 (.slice A 0 c)).set_ 3 (.int .i64 0)).set_ 4 (.int .i8 0)

/-- Next, of bytes that are there. -/
def NextR (w : World) (O : Nat → Prop) (a : Nat) (most : Int) (br : Bool) (er : Int) (all : List UInt8) (off n : Nat) (A : Option Addr) (c : Nat) (e : Ending) (w' : World) : Prop :=
  ∃ A' c' lr', e = .returned (.slice A' n c') ∧ n ≤ c' ∧ RdB w' (fun y => O y ∧ y ≠ a) A' n ((all.drop off).take n) ∧ FW w' O a most br er all (off + n) A c lr' ∧ Fr (· = a) w w'

theorem next_any {n : Nat} (h : FW w O a most br er all off A c lr) (hn : off + n ≤ all.length) (hn0 : 0 < n) : Calls Tryd.prog 40 #[.pointer (some ⟨a, 2, none⟩), .int .i64 n] w (NextR w O a most br er all off n A c) := by
  have h' := h
  obtain ⟨h1, h2, h3, h4, h5, h6⟩ := h
  have hf1 : Fr (· = a) w (w.setCell ⟨a, 4, none⟩ (.int .i8 0)) := (Fr.refl (· = a) w).setCell (p := ⟨a, 4, none⟩) (.inl rfl) _
  have hW1 : FW (w.setCell ⟨a, 4, none⟩ (.int .i8 0)) O a most br er all off A c 0 :=
    ⟨fun y hy => Nat.lt_of_lt_of_le (h1 y hy) hf1.size, h2, h3, by simpa using h4.set_ 4 (.int .i8 0), h5.fr hf1 (fun y _ hy => hy.2), h6⟩
  have hlenq := len_q hW1
  have c2 := h4.cell 2
  have c3 := h4.cell 3
  have c4 := h4.cell 4
  have f2 := h4.frozen 2
  have f3 := h4.frozen 3
  have f4 := h4.frozen 4
  have hle := h5.le
  have hlt := h4.lt
  have hrd : RdB w (fun y => O y ∧ y ≠ a) A all.length all := h5.rd
  unfold maxLen at h6
  simp at c2 c3 c4
  obtain ⟨A', hsl, hA'⟩ := slice_mid (A := A) (n := all.length) (c := c) (l := off) (h := off + n) (by omega) (by omega)
  have hres := rd_mid hrd (show off ≤ off + n by omega) hn (A' := A') hA'
  rw [Nat.add_sub_cancel_left, ← List.map_drop, ← List.map_take] at hres
  rw [Nat.add_sub_cancel_left] at hsl
  have hm : n ≤ all.length - off := by omega
  have HH := hid h'
  clear h' hW1 hA' hrd
  go_enter Tryd.func40, Tryd.ntmps40
  go_wp2_with fail
  refine hlenq.mono ?_
  rintro e w' ⟨rfl, k, rfl⟩
  simp only [Int.natCast_add] at hsl
  have hw : IntKind.i64.wrap ((off : Int) + (n : Int)) = (off : Int) + (n : Int) := IntWalk.i64_in _ (by omega)
  have g0 : (0 : Int) ≤ (off : Int) + (n : Int) := by omega
  go_wp2_with fail
  go_quiet (fail)
  clear hw
  go_wp2
  go_ret
  obtain ⟨g1, g2, g3, g4, g5, g6⟩ := HH.out
  have hfx : Fr (· = a) w ((((w.setCell ⟨a, 4, none⟩ (.int .i8 0)).drewN (k + nq)).setCell ⟨a, 3, none⟩ (.int .i64 ((off : Int) + (n : Int)))).setCell ⟨a, 4, none⟩ (.int .i8 (-1))) := ((((Fr.refl (· = a) w).setCell (p := ⟨a, 4, none⟩) (.inl rfl) _).drewN (k + nq)).setCell (p := ⟨a, 3, none⟩) (.inl rfl) _).setCell (p := ⟨a, 4, none⟩) (.inl rfl) _
  have hcx : n ≤ c - off := by omega
  exact ⟨A', c - off, -1, rfl, hcx, Rd.fr hres hfx (fun y _ hy => hy.2), ⟨fun y hy => Nat.lt_of_lt_of_le (g1 y hy) hfx.size, g2, hn, by simpa [Int.natCast_add] using (((g4.set_ 4 (.int .i8 0)).drewN (k + nq)).set_ 3 (.int .i64 ((off : Int) + (n : Int)))).set_ 4 (.int .i8 (-1)), g5.fr hfx (fun y _ hy => hy.2), g6⟩, hfx⟩

/-- A new row of bytes: bytes.Clone. -/
theorem bclone {O2 : Nat → Prop} {n : Nat} {bs : List UInt8} (h : RdB w O2 A n bs) (hn : n ≤ 140737488355328) (hp : 0 < n) :
    Calls Tryd.prog 41 #[.slice A n c] w (NewB w bs) := by
  obtain ⟨i0, hi, hz0, hz1, hz2⟩ := info_parts info_u8
  have hl : bs.length = n := by simpa using h.1
  obtain ⟨b, o, rfl, _, _⟩ := h.2 hp
  have hq := Lib.run_eql_slice_nil (P := Tryd.prog) w 22 5 (some ⟨b, o, none⟩) n c 0 0 Tryd.underlying22
  have HL := hid hl
  clear hl
  go_enter Tryd.func41, Tryd.ntmps41
  go_wp2_with (at_builtin; refine wpList_app _ rfl (.tmp 5) (.tmp 6) _ rfl 5 i0 _ 1 1 Tryd.underlying22 hi hz0 hz1 hz2 rfl (by omega) byte_zero (O := Ge w.heap.size) (by simp [Ge]) rfl own_lit (m := n) rfl (by rw [Nat.mul_one]; exact Rd.alloc h _) (bv_all _) (by simp only [maxLen]; omega) (by omega) ?_; intro A1 c1 w1 hown1 hf1 hc1 _)
  go_ret
  have hl := HL.out
  subst hl
  refine ⟨A1, c1, by simp, by simpa using hown1, hc1 (Nat.zero_le _), ?_⟩
  exact ((Fr.refl No w).alloc _).trans_new hf1 (fun b hb => by obtain ⟨o, e⟩ := hb; injection e with e; injection e with e; omega)
end
end Go.Proofs.YtpbgcjknhegnmaaDoor
