/- bytes.Buffer's grow, by what it finds. -/
import Derived.Test.YtpbgcjknhegnmaaDoorBufB
import Derived.Deep.RegionHeld3
namespace Go.Proofs.YtpbgcjknhegnmaaDoor
open Go.RowKit Go.Ost

/-- What grow hands back. -/
def GrowR (w : World) (O : Nat → Prop) (a : Nat) (most : Int) (br : Bool) (er : Int) (live : List UInt8) (n : Nat) (e : Ending) (w' : World) : Prop :=
  ∃ O' A' c' lr' xs, xs.length = n ∧ e = .returned (.int .i64 live.length) ∧ FW w' O' a most br er (live ++ xs) 0 A' c' lr' ∧ (∀ y, O' y → O y ∨ w.heap.size ≤ y) ∧ Fr O w w'

theorem own_lt {w : World} {O : Nat → Prop} {e : TypeId} {T : Value → Prop} {A : Option Addr} {n c : Nat} {vs : List Value} (h : Ost.Own w O e T A n c vs) : ∀ y, At A y → y < w.heap.size := by
  rintro y ⟨o, rfl⟩
  rcases h.2 with ⟨e1, _⟩ | ⟨b', ts, e1, _, hb, _⟩
  · cases e1
  · injection e1 with e1
    injection e1 with e1
    rw [e1]
    exact hb.lt

section
variable {w : World} {O : Nat → Prop} {a : Nat} {most : Int} {br : Bool} {er : Int} {all : List UInt8} {off : Nat} {A : Option Addr} {c : Nat} {lr : Int}

theorem nil_eql (A : Option Addr) (n c : Nat) (w : World) : (binOp .eql 22 (.slice A n c) (.slice none 0 0)).run Tryd.prog w = .ok (.bool A.isNone) w := by
  have := Lib.run_eql_slice_nil (P := Tryd.prog) w 22 5 A n c 0 0 Tryd.underlying22
  rw [this]

/-- The end of grow, where a new row was made. -/
theorem grow_end {w2 : World} {live : List UInt8} {n cap : Nat} (h : FW w O a most br er all off A c lr) (hf : Fr No w w2) (hown : Ost.Own w2 (fun y => y = w.heap.size) 5 Byte (some ⟨w.heap.size, 0, none⟩) live.length cap (live.map bv)) (hn : live.length + n ≤ cap) (hc : cap ≤ maxLen) (v : Value) :
    GrowR w O a most br er live n (.returned (.int .i64 live.length)) (((w2.setCell ⟨a, 2, none⟩ v).setCell ⟨a, 3, none⟩ (.int .i64 0)).setCell ⟨a, 2, none⟩ (.slice (some ⟨w.heap.size, 0, none⟩) (live.length + n) cap)) := by
  obtain ⟨h1, h2, h3, h4, h5, h6⟩ := h
  obtain ⟨xs, hx, hxo⟩ := own_more hown hn
  have hlt := h4.lt
  have hgt : w.heap.size < w2.heap.size := own_lt hxo _ ⟨0, rfl⟩
  have hfa : Fr (· = a) w2 (((w2.setCell ⟨a, 2, none⟩ v).setCell ⟨a, 3, none⟩ (.int .i64 0)).setCell ⟨a, 2, none⟩ (.slice (some ⟨w.heap.size, 0, none⟩) (live.length + n) cap)) :=
    (((Fr.refl (· = a) w2).setCell (p := ⟨a, 2, none⟩) (.inl rfl) _).setCell (p := ⟨a, 3, none⟩) (.inl rfl) _).setCell (p := ⟨a, 2, none⟩) (.inl rfl) _
  have hz := hfa.size
  refine ⟨fun y => O y ∨ y = w.heap.size, some ⟨w.heap.size, 0, none⟩, cap, lr, xs, hx, rfl, ⟨fun y hy => ?_, .inl h2, Nat.zero_le _, ?_, ?_, hc⟩, fun y hy => hy.imp id (fun e => by omega), (hf.of_no (S := O)).trans (hfa.mono (T := O) fun y _ e => e ▸ h2) (fun _ _ h => h)⟩
  · rcases hy with hy | hy
    · have := h1 y hy; have := hf.size; omega
    · omega
  · rw [List.length_append, hx]
    have hB2 : Blk w2 a _ _ := h4.fr hf (fun h => h)
    simpa using ((hB2.set_ 2 v).set_ 3 (.int .i64 0)).set_ 2 (.slice (some ⟨w.heap.size, 0, none⟩) (live.length + n) cap)
  · rw [List.length_append, hx]
    exact (hxo.fr hfa (fun y _ hy e => by omega)).mono fun y _ hy => ⟨.inr hy, by omega⟩

set_option maxRecDepth 100000 in
set_option maxHeartbeats 4000000 in
/-- Something is kept, and there is no room: a new row. -/
theorem grow_new {n m : Nat} (h : FW w O a most br er all off A c lr) (hm : all.length = off + m) (hm0 : 0 < m) (hfull : c < all.length + n) (hn : 1 ≤ n) (hs : m + n ≤ 1000000) (hc : c / 2 < m + n) :
    Calls Tryd.prog 38 #[.pointer (some ⟨a, 2, none⟩), .int .i64 n] w (GrowR w O a most br er (all.drop off) n) := by
  have hq := len_q h
  have hHH := h
  obtain ⟨h1, h2, h3, h4, h5, h6⟩ := h
  have c2 := h4.cell 2
  have c3 := h4.cell 3
  have f2 := h4.frozen 2
  have f3 := h4.frozen 3
  have hle := h5.le
  have hlt := h4.lt
  simp at c2 c3
  obtain ⟨b, o, eA, _, _⟩ := h5.rd.2 (by omega)
  subst eA
  have hrd : RdB w (fun y => O y ∧ y ≠ a) (some ⟨b, o, none⟩) all.length all := h5.rd
  obtain ⟨A', hsl, hA'⟩ := slice_from (P := Tryd.prog) (t := 22) (s := 1) Tryd.underlying22 (fun w => by kernel_rfl) (some ⟨b, o, none⟩) (n := all.length) (c := c) (l := off) h3 hle
  have hlive : RdB w (fun y => O y ∧ y ≠ a) A' (all.drop off).length (all.drop off) := by
    have := rd_mid hrd h3 (Nat.le_refl _) (A' := A') hA'
    rw [List.take_of_length_le (by simp)] at this
    unfold RdB
    rw [List.length_drop, List.map_drop]
    exact this
  have hll : (all.drop off).length = m := by rw [List.length_drop]; omega
  have hgs := fun W (hr : RdB W (fun y => O y ∧ y ≠ a) A' (all.drop off).length (all.drop off)) => grow_slice (k := off + n) (c := c - off) hr (by omega) (by omega) (by omega) (by omega)
  have hlo : all.length - off = m := by omega
  rw [hlo] at hq hsl
  rw [hll] at hgs hlive
  have hcm : c ≤ 2000002 := by omega
  have hofb : off ≤ 2000002 := by omega
  have hnil := nil_eql (some ⟨b, o, none⟩) all.length c
  have HLL := hid hll
  have HM := hid hm
  have HW := hid hHH
  have HL := hid hlive
  clear hHH hll hlo hm h4 h5 hA' hrd h6 hlive
  go_enter Tryd.func38, Tryd.ntmps38
  go_wp2_with fail
  refine hq.mono ?_
  rintro e w' ⟨rfl, k, rfl⟩
  have hnone := try_none (HW.out.drewN k) hfull (by omega)
  go_wp2_with fail
  refine hnone.mono ?_
  rintro e w' ⟨rfl, rfl⟩
  have hw : IntKind.i64.wrap ((off : Int) + (n : Int)) = (off : Int) + (n : Int) := IntWalk.i64_in _ (by omega)
  simp only [Int.natCast_add] at hgs
  go_wp2_with fail
  go_region_with
    ((go_at_call 43; refine (hgs _ ?_).mono ?_; exact HL.out; rintro e w2 ⟨cap2, e2, hown2, hcap2, hcm2, hf2⟩; rw [HLL.out] at e2; subst e2; have hf3 : Fr No w w2 := Fr.of_drewN hf2; have hB2 := (HW.out.2.2.2.1).fr (S := No) hf3 (fun h => h); have k2 := hB2.cell 2; have k3 := hB2.cell 3; have g2 := hB2.frozen 2; have g3 := hB2.frozen 3; simp at k2 k3))
  all_goals
    have hmn : m + n ≤ cap2 := by rw [HLL.out] at hcap2; omega
    go_wp2
    go_ret
    have he := grow_end HW.out hf3 hown2 (n := n) (by rw [HLL.out] at hcap2 ⊢; omega) hcm2 (.slice (some ⟨w.heap.size, 0, none⟩) m cap2)
    rw [HLL.out] at he
    exact he

/-- The end of grow, where what is kept was moved to the head of its row. -/
theorem grow_end2 {w2 : World} {live : List UInt8} {n cap g : Nat} (h : FW w O a most br er all off A c lr) (hg : O g ∧ g ≠ a) (hf : Fr (fun y => y = g) w w2) (hown : Ost.Own w2 (fun y => y = g) 5 Byte (some ⟨g, 0, none⟩) live.length cap (live.map bv)) (hn : live.length + n ≤ cap) (hc : cap ≤ maxLen) :
    GrowR w O a most br er live n (.returned (.int .i64 live.length)) ((w2.setCell ⟨a, 3, none⟩ (.int .i64 0)).setCell ⟨a, 2, none⟩ (.slice (some ⟨g, 0, none⟩) (live.length + n) cap)) := by
  obtain ⟨h1, h2, h3, h4, h5, h6⟩ := h
  obtain ⟨xs, hx, hxo⟩ := own_more hown hn
  have hfa : Fr (· = a) w2 ((w2.setCell ⟨a, 3, none⟩ (.int .i64 0)).setCell ⟨a, 2, none⟩ (.slice (some ⟨g, 0, none⟩) (live.length + n) cap)) :=
    ((Fr.refl (· = a) w2).setCell (p := ⟨a, 3, none⟩) (.inl rfl) _).setCell (p := ⟨a, 2, none⟩) (.inl rfl) _
  have hz := hfa.size
  refine ⟨O, some ⟨g, 0, none⟩, cap, lr, xs, hx, rfl, ⟨fun y hy => by have := h1 y hy; have := hf.size; omega, h2, Nat.zero_le _, ?_, ?_, hc⟩, fun y hy => .inl hy, (hf.mono (T := O) fun y _ e => e ▸ hg.1).trans (hfa.mono (T := O) fun y _ e => e ▸ h2) (fun _ _ h => h)⟩
  · rw [List.length_append, hx]
    have hB2 : Blk w2 a _ _ := h4.fr hf (fun h => hg.2 h.symm)
    simpa using (hB2.set_ 3 (.int .i64 0)).set_ 2 (.slice (some ⟨g, 0, none⟩) (live.length + n) cap)
  · rw [List.length_append, hx]
    exact (hxo.fr hfa (fun y _ hy e => hg.2 (hy.symm.trans e))).mono fun y _ hy => hy ▸ hg

set_option maxRecDepth 100000 in
set_option maxHeartbeats 4000000 in
/-- Something is kept, and the row is large: what is kept is moved to its head. -/
theorem grow_slide {n m : Nat} (h : FW w O a most br er all off A c lr) (hm : all.length = off + m) (hm0 : 0 < m) (hfull : c < all.length + n) (hn : 1 ≤ n) (hs : m + n ≤ 1000000) (hc : m + n ≤ c / 2) :
    Calls Tryd.prog 38 #[.pointer (some ⟨a, 2, none⟩), .int .i64 n] w (GrowR w O a most br er (all.drop off) n) := by
  have hq := len_q h
  have hHH := h
  obtain ⟨h1, h2, h3, h4, h5, h6⟩ := h
  have c2 := h4.cell 2
  have c3 := h4.cell 3
  have f2 := h4.frozen 2
  have f3 := h4.frozen 3
  have hle := h5.le
  have hlt := h4.lt
  simp at c2 c3
  have hrd0 : RdB w (fun y => O y ∧ y ≠ a) A all.length all := h5.rd
  obtain ⟨_, ⟨_, e0, _⟩ | ⟨b, ts, rfl, hbO, hBb, htl, hts⟩⟩ := h5
  · omega
  obtain ⟨A', hsl, hA'⟩ := slice_from (P := Tryd.prog) (t := 22) (s := 1) Tryd.underlying22 (fun w => by kernel_rfl) (some ⟨b, 0, none⟩) (n := all.length) (c := c) (l := off) h3 hle
  have hll : (all.drop off).length = m := by rw [List.length_drop]; omega
  have hlive : RdB w (fun y => O y ∧ y ≠ a) A' m (all.drop off) := by
    have := rd_mid hrd0 h3 (Nat.le_refl _) (A' := A') hA'
    rw [List.take_of_length_le (by simp)] at this
    unfold RdB
    rw [← hll, List.length_drop, List.map_drop]
    exact this
  have hlo : all.length - off = m := by omega
  rw [hlo] at hq hsl
  have hnil := nil_eql (some ⟨b, 0, none⟩) all.length c
  have hcm : c ≤ 9223372036854775807 := by unfold maxLen at h6; exact h6
  have h6' := h6
  have hcur : (all.map bv ++ ts).length = c := by rw [List.length_append, List.length_map]; exact htl
  have htsb : ∀ v ∈ (all.map bv ++ ts).drop m, Byte v := fun v hv => by
    rcases List.mem_append.1 (List.mem_of_mem_drop hv) with hv | hv
    · obtain ⟨x, _, rfl⟩ := List.mem_map.1 hv
      exact ⟨x, rfl⟩
    · exact hts v hv
  have HLL := hid hll
  have HM := hid hm
  have HW := hid hHH
  have HTB := hid htsb
  have HCUR := hid hcur
  have hba : b ≠ a := hbO.2
  clear hHH hll hlo hm hA' hrd0 h6 htl hts htsb
  go_enter Tryd.func38, Tryd.ntmps38
  go_wp2_with fail
  refine hq.mono ?_
  rintro e w' ⟨rfl, k, rfl⟩
  have hnone := try_none (HW.out.drewN k) hfull (by omega)
  obtain ⟨w2, hcopy, hB2, hF2⟩ := run_cp (P := Tryd.prog) 22 22 3 5 Tryd.underlying22 size_u8 (hBb.drewN (k + 1)) (hlive.drewN (k + 1)) (bv_all _) (d := all.length) (dc := c) (sc := c - off) (by have := HM.out; omega) (by rw [HCUR.out]; omega)
  have hBa : Blk w2 a _ _ := h4.fr (Fr.of_drewN hF2) (fun e => hba e.symm)
  have k2 := hBa.cell 2
  have k3 := hBa.cell 3
  have g2 := hBa.frozen 2
  have g3 := hBa.frozen 3
  simp at k2 k3
  have HB2 := hid hB2
  have HF2 := hid hF2
  clear hB2 hF2 hBa h4 hBb hcur hlive
  go_wp2_with fail
  refine hnone.mono ?_
  rintro e w' ⟨rfl, rfl⟩
  go_wp2_with fail
  go_region
  have hmn : m + n ≤ c := by omega
  all_goals
    go_wp2
    go_ret
    have he := grow_end2 (n := n) (live := all.drop off) (cap := c) HW.out hbO (Fr.of_drewN HF2.out) ⟨by simp, .inr ⟨b, (all.map bv ++ ts).drop m, rfl, rfl, HB2.out, by have h1 := HLL.out; have h2 := HCUR.out; simp only [List.length_drop] at h1 ⊢; omega, HTB.out⟩⟩ (by rw [HLL.out]; exact hmn) h6'
    rw [HLL.out] at he
    exact he
end
end Go.Proofs.YtpbgcjknhegnmaaDoor
