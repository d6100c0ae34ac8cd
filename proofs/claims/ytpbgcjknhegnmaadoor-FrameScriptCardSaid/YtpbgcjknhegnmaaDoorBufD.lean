/- bytes.Buffer's grow, where nothing is kept. -/
import Derived.Test.YtpbgcjknhegnmaaDoorBufC
namespace Go.Proofs.YtpbgcjknhegnmaaDoor
open Go.RowKit Go.Ost

section
variable {w : World} {O : Nat → Prop} {a : Nat} {most : Int} {br : Bool} {er : Int} {all : List UInt8} {off : Nat} {A : Option Addr} {c : Nat} {lr : Int}
theorem GrowR.after {w1 : World} {live : List UInt8} {n : Nat} {e : Ending} {w' : World} (h : GrowR w1 O a most br er live n e w') (hf : Fr (· = a) w w1) (ha : O a) : GrowR w O a most br er live n e w' := by
  obtain ⟨O', A', c', lr', xs, h1, h2, h3, h4, h5⟩ := h
  have := hf.size
  exact ⟨O', A', c', lr', xs, h1, h2, h3, fun y hy => (h4 y hy).imp id (fun h => by omega), (hf.mono (T := O) fun y _ e => e ▸ ha).trans h5 (fun _ _ h => h)⟩
theorem made_mem {T : Value → Prop} {cs : Array Value} (hcs : 0 < cs.size) (hc : ∀ v ∈ cs.toList, T v) {n : Nat} : ∀ v ∈ (madeCells cs n).toList, T v := by
  intro v hv
  simp only [madeCells, Array.toList_map, List.mem_map, Array.mem_toList_iff, Array.mem_range] at hv
  obtain ⟨i, hi, rfl⟩ := hv
  have hm := Nat.mod_lt i hcs
  rw [getElem!_pos cs _ hm]
  exact hc _ (by simp)
theorem GrowR.drewN {live : List UInt8} {n k : Nat} {e : Ending} {w' : World} (h : GrowR (w.drewN k) O a most br er live n e w') : GrowR w O a most br er live n e w' := by
  obtain ⟨O', A', c', lr', xs, h1, h2, h3, h4, h5⟩ := h
  exact ⟨O', A', c', lr', xs, h1, h2, h3, h4, Fr.of_drewN h5⟩

set_option maxRecDepth 100000 in
set_option maxHeartbeats 4000000 in
theorem grow_some {n : Nat} {b o : Nat} (h : FW w O a most br er [] 0 (some ⟨b, o, none⟩) c lr) (hfull : c < n) (hn : 1 ≤ n) (hs : n ≤ 1000000) :
    Calls Tryd.prog 38 #[.pointer (some ⟨a, 2, none⟩), .int .i64 n] w (GrowR w O a most br er [] n) := by
  have hq := len_q h
  have hHH := h
  obtain ⟨h1, h2, h3, h4, h5, h6⟩ := h
  have c2 := h4.cell 2
  have c3 := h4.cell 3
  have f2 := h4.frozen 2
  have f3 := h4.frozen 3
  have hlt := h4.lt
  simp at c2 c3
  obtain ⟨A', hsl, _⟩ := slice_from (P := Tryd.prog) (t := 22) (s := 1) Tryd.underlying22 (fun w => by kernel_rfl) (some ⟨b, o, none⟩) (n := 0) (c := c) (l := 0) (Nat.le_refl _) (Nat.zero_le _)
  have hgs := fun W => grow_slice (w := W) (O2 := O) (A := A') (bs := []) (k := n) (c := c) (Rd.nil _ _ _) (by omega) (by simp; omega) (by omega) (by simp)
  simp only [List.length_nil] at hgs
  have hw : IntKind.i64.wrap (n : Int) = (n : Int) := IntWalk.i64_in _ (by omega)
  have hnil := nil_eql (some ⟨b, o, none⟩) 0 c
  simp only [List.length_nil, Nat.sub_self, Int.natCast_zero] at hq hsl
  have HW := hid hHH
  clear hHH h4 h5 h6 h3
  go_enter Tryd.func38, Tryd.ntmps38
  go_wp2_with fail
  refine hq.mono ?_
  rintro e w' ⟨rfl, k, rfl⟩
  have hnone := try_none (n := n) (HW.out.drewN k) (by simpa using hfull) (by omega)
  go_wp2_with fail
  refine hnone.mono ?_
  rintro e w' ⟨rfl, rfl⟩
  go_wp2_with fail
  go_region_with
    ((go_at_call 43; refine (hgs _).mono ?_; rintro e w2 ⟨cap2, e2, hown2, hcap2, hcm2, hf2⟩; subst e2; have hf3 : Fr No w w2 := Fr.of_drewN hf2; have hB2 := (HW.out.2.2.2.1).fr (S := No) hf3 (fun h => h); have k2 := hB2.cell 2; have k3 := hB2.cell 3; have g2 := hB2.frozen 2; have g3 := hB2.frozen 3; simp at k2 k3))
  all_goals
    have hmn : n ≤ cap2 := by simpa using hcap2
    go_wp2
    go_ret
    have he := grow_end HW.out hf3 hown2 (n := n) (by simpa using hmn) hcm2 (.slice (some ⟨w.heap.size, 0, none⟩) 0 cap2)
    simpa using he

set_option maxRecDepth 100000 in
set_option maxHeartbeats 4000000 in
theorem grow_none {n : Nat} (h : FW w O a most br er [] 0 none 0 lr) (hbig : 64 < n) (hn : 1 ≤ n) (hs : n ≤ 1000000) :
    Calls Tryd.prog 38 #[.pointer (some ⟨a, 2, none⟩), .int .i64 n] w (GrowR w O a most br er [] n) := by
  have hq := len_q h
  have hHH := h
  obtain ⟨h1, h2, h3, h4, h5, h6⟩ := h
  have c2 := h4.cell 2
  have c3 := h4.cell 3
  have f2 := h4.frozen 2
  have f3 := h4.frozen 3
  have hlt := h4.lt
  simp at c2 c3
  obtain ⟨A', hsl, _⟩ := slice_from (P := Tryd.prog) (t := 22) (s := 1) Tryd.underlying22 (fun w => by kernel_rfl) none (n := 0) (c := 0) (l := 0) (Nat.le_refl _) (Nat.zero_le _)
  have hgs := fun W => grow_slice (w := W) (O2 := O) (A := A') (bs := []) (k := n) (c := 0) (Rd.nil _ _ _) (by omega) (by simp; omega) (by omega) (by simp)
  simp only [List.length_nil] at hgs
  have hw : IntKind.i64.wrap (n : Int) = (n : Int) := IntWalk.i64_in _ (by omega)
  have hnil := nil_eql none 0 0
  simp only [List.length_nil, Nat.sub_self, Int.natCast_zero] at hq hsl
  have HW := hid hHH
  clear hHH h4 h5 h6 h3
  go_enter Tryd.func38, Tryd.ntmps38
  go_wp2_with fail
  refine hq.mono ?_
  rintro e w' ⟨rfl, k, rfl⟩
  have hnone := try_none (n := n) (HW.out.drewN k) (by simp; omega) (by omega)
  go_wp2_with fail
  refine hnone.mono ?_
  rintro e w' ⟨rfl, rfl⟩
  go_wp2_with fail
  go_region_with
    ((go_at_call 43; refine (hgs _).mono ?_; rintro e w2 ⟨cap2, e2, hown2, hcap2, hcm2, hf2⟩; subst e2; have hf3 : Fr No w w2 := Fr.of_drewN hf2; have hB2 := (HW.out.2.2.2.1).fr (S := No) hf3 (fun h => h); have k2 := hB2.cell 2; have k3 := hB2.cell 3; have g2 := hB2.frozen 2; have g3 := hB2.frozen 3; simp at k2 k3))
  all_goals
    have hmn : n ≤ cap2 := by simpa using hcap2
    go_wp2
    go_ret
    have he := grow_end HW.out hf3 hown2 (n := n) (by simpa using hmn) hcm2 (.slice (some ⟨w.heap.size, 0, none⟩) 0 cap2)
    simpa using he

set_option maxRecDepth 100000 in
set_option maxHeartbeats 4000000 in
theorem grow_small {n : Nat} (h : FW w O a most br er [] 0 none 0 lr) (hsm : n ≤ 64) (hn : 1 ≤ n) (_hs : n ≤ 1000000) :
    Calls Tryd.prog 38 #[.pointer (some ⟨a, 2, none⟩), .int .i64 n] w (GrowR w O a most br er [] n) := by
  have hq := len_q h
  have hHH := h
  obtain ⟨h1, h2, h3, h4, h5, h6⟩ := h
  have c2 := h4.cell 2
  have c3 := h4.cell 3
  have f2 := h4.frozen 2
  have f3 := h4.frozen 3
  have hlt := h4.lt
  simp at c2 c3
  obtain ⟨i0, hi, hz0, hz1, hz2⟩ := info_parts info_u8
  obtain ⟨M, hM⟩ : ∃ M, M = madeCells (Value.int .u8 0).cells ((64 : Int).toNat * i0.size) := ⟨_, rfl⟩
  have hMs : M.size = 64 := by rw [hM, size_madeCells, hz1]; rfl
  have hMb : ∀ v ∈ M.toList, Byte v := by rw [hM]; exact made_mem (by simp [Value.cells]) byte_zero
  have hmk : ∀ W : World, (Instr.makeSlice 22 (.int .i64 (n : Int)) (.int .i64 64)).run Tryd.prog W = .ok (.slice (some ⟨W.heap.size, 0, none⟩) n 64) (W.alloc (.cells M 5)) := fun W => by
    have h := run_makeSlice (P := Tryd.prog) W 22 5 i0 (.int .u8 0) Tryd.underlying22 hi hz0 .i64 .i64 (n : Int) 64 (by omega) (by omega) (by rw [hz1]; decide) (by rw [hz2]; decide) (by decide)
    rw [← hM] at h
    simpa using h
  clear hM
  have hnil := nil_eql none 0 0
  simp only [List.length_nil, Nat.sub_self, Int.natCast_zero] at hq
  have HW := hid hHH
  have HMS := hid hMs
  have HMB := hid hMb
  clear hHH h4 h5 h6 h3 hMs hMb
  go_enter Tryd.func38, Tryd.ntmps38
  go_wp2_with fail
  refine hq.mono ?_
  rintro e w' ⟨rfl, k, rfl⟩
  have hnone := try_none (n := n) (HW.out.drewN k) (by simp; omega) (by omega)
  go_wp2_with fail
  refine hnone.mono ?_
  rintro e w' ⟨rfl, rfl⟩
  have hca : ∀ ob, (w.alloc ob).cell? ⟨a, 2, none⟩ = some (.slice none 0 0) := fun ob => (World.cell?_alloc_lt _ _ ⟨a, 2, none⟩ hlt).trans c2
  have hca2 : ∀ ob, ((w.drewN k).alloc ob).cell? ⟨a, 2, none⟩ = some (.slice none 0 0) := fun ob => (World.cell?_alloc_lt _ _ ⟨a, 2, none⟩ hlt).trans c2
  have hfa2 : ∀ ob, ((w.drewN k).alloc ob).frozen? ⟨a, 2, none⟩ = false := fun ob => (World.frozen?_of_block (a := ⟨a, 2, none⟩) (RowKit.Below.heap_alloc w ob a hlt)).trans f2
  have hfa : ∀ ob, (w.alloc ob).frozen? ⟨a, 2, none⟩ = false := fun ob => (World.frozen?_of_block (a := ⟨a, 2, none⟩) (RowKit.Below.heap_alloc w ob a hlt)).trans f2
  go_wp2
  go_ret
  obtain ⟨xs0, hx0, hown⟩ := own_more (w := (w.drewN k).alloc (.cells M 5)) (all := []) (A := some ⟨w.heap.size, 0, none⟩) (c := 64) (n := n) (O2 := fun y => y = w.heap.size) ⟨rfl, .inr ⟨w.heap.size, M.toList, rfl, rfl, by simpa using Blk.new (w.drewN k) 5 M, by simpa using HMS.out, HMB.out⟩⟩ (by simpa using hsm)
  obtain ⟨h1, h2, h3, h4, h5, h6⟩ := HW.out
  have hfr : Fr (· = a) w (((w.drewN k).alloc (.cells M 5)).setCell ⟨a, 2, none⟩ (.slice (some ⟨w.heap.size, 0, none⟩) n 64)) := (((Fr.refl (· = a) w).drewN k).alloc _).setCell (p := ⟨a, 2, none⟩) (.inl rfl) _
  have hsz : ((w.drewN k).alloc (.cells M 5)).heap.size = w.heap.size + 1 := by simp
  have hz2 := hfr.size
  have hfa3 : Fr (· = a) ((w.drewN k).alloc (.cells M 5)) (((w.drewN k).alloc (.cells M 5)).setCell ⟨a, 2, none⟩ (.slice (some ⟨w.heap.size, 0, none⟩) n 64)) := (Fr.refl (· = a) _).setCell (p := ⟨a, 2, none⟩) (.inl rfl) _
  have hz3 := hfa3.size
  refine ⟨fun y => O y ∨ y = w.heap.size, some ⟨w.heap.size, 0, none⟩, 64, lr, xs0, hx0, by simp, ⟨fun y hy => ?_, .inl h2, Nat.zero_le _, ?_, ?_, by unfold maxLen; omega⟩, fun y hy => hy.imp id (fun e => by omega), hfr.mono fun y _ e => e ▸ h2⟩
  · rcases hy with hy | hy
    · have := h1 y hy; omega
    · omega
  · rw [List.length_append, hx0]
    simpa using ((h4.drewN k).alloc (.cells M 5)).set_ 2 (.slice (some ⟨w.heap.size, 0, none⟩) n 64)
  · rw [List.length_append, hx0]
    exact (hown.fr hfa3 (fun y _ hy e => by omega)).mono fun y _ hy => ⟨.inr hy, by omega⟩

set_option maxRecDepth 100000 in
set_option maxHeartbeats 4000000 in
theorem grow_reset_room {n : Nat} (h : FW w O a most br er all off A c lr) (hoff : off = all.length) (hoff0 : 0 < all.length) (hroom : n ≤ c) (_hn : 1 ≤ n) (_hs : n ≤ 1000000) :
    Calls Tryd.prog 38 #[.pointer (some ⟨a, 2, none⟩), .int .i64 n] w (GrowR w O a most br er [] n) := by
  have hq := len_q h
  have hHH := h
  have hhr := fun k => reset_any (h.drewN k)
  obtain ⟨h1, h2, h3, h4, h5, h6⟩ := h
  have c3 := h4.cell 3
  have hlt := h4.lt
  simp at c3
  have hnz : ((all.length : Int) == 0) = false := by simp only [beq_eq_false_iff_ne, ne_eq]; omega
  have hnz2 : ((all.length : Int) != 0) = true := by simp only [bne_iff_ne, ne_eq]; omega
  rw [hoff, Nat.sub_self] at hq
  rw [hoff] at c3
  simp only [Int.natCast_zero] at hq
  have HW := hid hHH
  have HR := hid hhr
  clear hHH h4 h5 h6 h3 hhr
  go_enter Tryd.func38, Tryd.ntmps38
  go_wp2_with fail
  refine hq.mono ?_
  rintro e w' ⟨rfl, k, rfl⟩
  go_wp2_with fail
  refine (HR.out k).mono ?_
  rintro e w1 ⟨rfl, hW1, hf1⟩
  have HF1 := hid (Fr.of_drewN hf1)
  have HO : Hid (O a) := h2
  clear hf1 c3 hnz hnz2 HW HR hlt h1
  have hroomc := try_room (n := n) hW1 (by simpa using hroom)
  go_wp2_with fail
  refine hroomc.mono ?_
  rintro e w2 ⟨xs, hx, rfl, hW2, hf2⟩
  have HX := hid hx
  clear hx
  go_wp2
  go_ret
  exact ⟨O, A, c, 0, xs, HX.out, by simp, hW2, fun y hy => .inl hy, (HF1.out.trans hf2 (fun _ _ h => h)).mono fun y _ e => e ▸ HO.out⟩

set_option maxRecDepth 100000 in
set_option maxHeartbeats 4000000 in
theorem grow_reset_new {n : Nat} {b o : Nat} (h : FW w O a most br er all off (some ⟨b, o, none⟩) c lr) (hoff : off = all.length) (hoff0 : 0 < all.length) (hfull : c < n) (hn : 1 ≤ n) (hs : n ≤ 1000000) :
    Calls Tryd.prog 38 #[.pointer (some ⟨a, 2, none⟩), .int .i64 n] w (GrowR w O a most br er [] n) := by
  have hq := len_q h
  have hHH := h
  have hhr := fun k => reset_any (h.drewN k)
  obtain ⟨h1, h2, h3, h4, h5, h6⟩ := h
  have c3 := h4.cell 3
  have hlt := h4.lt
  simp at c3
  have hnz : ((all.length : Int) == 0) = false := by simp only [beq_eq_false_iff_ne, ne_eq]; omega
  have hnz2 : ((all.length : Int) != 0) = true := by simp only [bne_iff_ne, ne_eq]; omega
  rw [hoff, Nat.sub_self] at hq
  rw [hoff] at c3
  simp only [Int.natCast_zero] at hq
  have HW := hid hHH
  have HR := hid hhr
  clear hHH h4 h5 h6 h3 hhr
  go_enter Tryd.func38, Tryd.ntmps38
  go_wp2_with fail
  refine hq.mono ?_
  rintro e w' ⟨rfl, k, rfl⟩
  go_wp2_with fail
  refine (HR.out k).mono ?_
  rintro e w1 ⟨rfl, hW1, hf1⟩
  have HF1 := hid (Fr.of_drewN hf1)
  have HO : Hid (O a) := h2
  clear hf1 c3 hnz hnz2 HW HR hlt h1
  have HW := hid hW1
  obtain ⟨h1, h2, h3, h4, h5, h6⟩ := hW1
  have c2 := h4.cell 2
  have c3 := h4.cell 3
  have f2 := h4.frozen 2
  have f3 := h4.frozen 3
  have hlt := h4.lt
  simp at c2 c3
  obtain ⟨A', hsl, _⟩ := slice_from (P := Tryd.prog) (t := 22) (s := 1) Tryd.underlying22 (fun w => by kernel_rfl) (some ⟨b, o, none⟩) (n := 0) (c := c) (l := 0) (Nat.le_refl _) (Nat.zero_le _)
  have hgs := fun W => grow_slice (w := W) (O2 := O) (A := A') (bs := []) (k := n) (c := c) (Rd.nil _ _ _) (by omega) (by simp; omega) (by omega) (by simp)
  simp only [List.length_nil] at hgs
  have hw : IntKind.i64.wrap (n : Int) = (n : Int) := IntWalk.i64_in _ (by omega)
  have hnil := nil_eql (some ⟨b, o, none⟩) 0 c
  simp only [Nat.sub_self, Int.natCast_zero] at hsl
  clear h4 h5 h6 h3
  have hnone := try_none (n := n) HW.out (by simpa using hfull) (by omega)
  go_wp2_with fail
  refine hnone.mono ?_
  rintro e w' ⟨rfl, rfl⟩
  go_wp2_with fail
  go_region_with
    ((go_at_call 43; refine (hgs _).mono ?_; rintro e w2 ⟨cap2, e2, hown2, hcap2, hcm2, hf2⟩; subst e2; have hf3 : Fr No w1 w2 := Fr.of_drew hf2; have hB2 := (HW.out.2.2.2.1).fr (S := No) hf3 (fun h => h); have k2 := hB2.cell 2; have k3 := hB2.cell 3; have g2 := hB2.frozen 2; have g3 := hB2.frozen 3; simp at k2 k3))
  all_goals
    have hmn : n ≤ cap2 := by simpa using hcap2
    go_wp2
    go_ret
    have he := grow_end HW.out hf3 hown2 (n := n) (by simpa using hmn) hcm2 (.slice (some ⟨w1.heap.size, 0, none⟩) 0 cap2)
    exact GrowR.after (by simpa using he) HF1.out HO.out
end
end Go.Proofs.YtpbgcjknhegnmaaDoor
