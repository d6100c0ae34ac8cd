/- PipeKnown, walked: the chapter's examples are answered as it says. -/
import Derived.Test.YtfkkaalchffgaaaPushW
import Derived.Test.YtfkkaalchffgaaaPlain
import Derived.Test.YtfkkaalchffgaaaAwk
import Derived.Test.YtfkkaalchffgaaaTell
namespace Go.Proofs.Ytfkkaalchffgaaa
open Go.RowKit Go.Ost

def pcA : PC := ⟨[2, 0, 2, 7], true, false, false, false, false⟩
def pcB : PC := ⟨[], true, true, false, false, false⟩
def pcC : PC := ⟨[], false, false, true, false, false⟩
def pcD : PC := ⟨[], true, false, true, false, false⟩
theorem push_1 : PC.push pc0 [1, 0, 1, 1, 2, 0, 2, 7] = ([], 0, pcA) := by rfl
theorem push_2 : PC.push pcA [8, 3, 0, 0, 5] = ([7, 8], 0, pcB) := by rfl
theorem push_3 : PC.push pc0 [2, 0, 0] = ([], 4, pcC) := by rfl
theorem push_4 : PC.push pc0 [1, 0, 1, 1, 2, 255, 0] = ([], 3, pcD) := by rfl

set_option maxRecDepth 100000 in
set_option maxHeartbeats 40000000 in
theorem known_any (w : World) : Calls Try.prog 8 #[] w fun e w' => e = .returned (.bool true) ∧ Fr No w w' := by
  go_enter Try.func8, Try.ntmps8
  go_wp2_with fail
  refine (sealed_new w).mono ?_
  rintro e w1 ⟨rfl, hC, f1⟩
  have g1 : w.heap.size < w1.heap.size := hC.1 _ rfl
  go_wp2_with fail
  refine (sealed_new w1).mono ?_
  rintro e w2 ⟨rfl, hD, f2⟩
  have g2 : w1.heap.size < w2.heap.size := hD.1 _ rfl
  replace hC := hC.fr f2 (fun _ _ h => h)
  go_wp2_with fail
  refine (sealed_new w2).mono ?_
  rintro e w3 ⟨rfl, hE, f3⟩
  have g3 : w2.heap.size < w3.heap.size := hE.1 _ rfl
  replace hC := hC.fr f3 (fun _ _ h => h)
  replace hD := hD.fr f3 (fun _ _ h => h)
  go_wp2_with fail
  refine (plain_new w3).mono ?_
  rintro e w4 ⟨rfl, hP, f4⟩
  have g4 : w3.heap.size < w4.heap.size := hP.lt
  replace hC := hC.fr f4 (fun _ _ h => h)
  replace hD := hD.fr f4 (fun _ _ h => h)
  replace hE := hE.fr f4 (fun _ _ h => h)
  have hF := ((f1.trans_no f2).trans_no f3).trans_no f4
  clear f1 f2 f3 f4
  have HF := hid hF
  clear hF
  generalize hw3 : w3.heap.size = p at hP g3 g4
  generalize hw2 : w2.heap.size = x at hE g2 g3
  generalize hw1 : w1.heap.size = d at hD g1 g2
  have hw0 : w.heap.size ≤ w.heap.size := Nat.le_refl _
  generalize hwc : w.heap.size = c at hC g1 hw0
  have hwc' : c ≤ w.heap.size := by omega
  have HWC := hid hwc
  clear hw1 hw2 hw3 hwc hw0
  have m1 := sm_Push ⟨c, 0, none⟩
  have m2 := sm_Left ⟨c, 0, none⟩
  have m3 := sm_Push ⟨d, 0, none⟩
  have m4 := sm_Push ⟨x, 0, none⟩
  have m5 := sm_Ended ⟨c, 0, none⟩
  have m6 := sm_Broken ⟨d, 0, none⟩
  have m7 := pm_Push ⟨p, 0, none⟩
  have m8 := pm_Send ⟨p, 0, none⟩
  have m9 := pm_Close ⟨p, 0, none⟩
  go_wp2_with fail
  have r1 : RdB (w4.alloc (.cells #[.int .u8 1, .int .u8 0, .int .u8 1, .int .u8 1, .int .u8 2, .int .u8 0, .int .u8 2, .int .u8 7] 5)) _ (some ⟨w4.heap.size, 0, none⟩) 8 [1, 0, 1, 1, 2, 0, 2, 7] := rdb_new w4 [1, 0, 1, 1, 2, 0, 2, 7] 5
  have fa := (Fr.refl No w4).alloc (.cells #[.int .u8 1, .int .u8 0, .int .u8 1, .int .u8 1, .int .u8 2, .int .u8 0, .int .u8 2, .int .u8 7] 5)
  refine (push_any (c := 8) (hC.fr fa (fun _ _ h => h)) r1 (by omega) (by simp [pc0])).mono ?_
  rw [push_1]
  rintro e w5 ⟨A5, c5, O5, rfl, -, -, hC5, hO5, f5⟩
  replace f5 := (fa.of_no (S := (· = c))).trans f5 (fun _ _ h => h)
  replace hO5 : ∀ b, O5 b → b = c ∨ w4.heap.size ≤ b := fun b hb => by have := hO5 b hb; simp only [World.size_alloc] at this; omega
  replace hD := hD.fr f5 (fun b hb e => by omega)
  replace hE := hE.fr f5 (fun b hb e => by omega)
  replace hP : PWin w5 p false := Blk.fr hP f5 (fun e => by omega)
  clear r1 fa hC
  go_wp2_with fail
  refine (left_any hC5).mono ?_
  rintro e w' ⟨rfl, rfl⟩
  go_wp2_with fail
  have r1 : RdB (w5.alloc (.cells #[.int .u8 8, .int .u8 3, .int .u8 0, .int .u8 0, .int .u8 5] 5)) _ (some ⟨w5.heap.size, 0, none⟩) 5 [8, 3, 0, 0, 5] := rdb_new w5 [8, 3, 0, 0, 5] 5
  have fa := (Fr.refl No w5).alloc (.cells #[.int .u8 8, .int .u8 3, .int .u8 0, .int .u8 0, .int .u8 5] 5)
  refine (push_any (c := 5) (hC5.fr fa (fun _ _ h => h)) r1 (by omega) (by simp [pcA])).mono ?_
  rw [push_2]
  rintro e w6 ⟨A6, c6, O6, rfl, hown6, hc6, hC6, hO6, f6⟩
  replace f6 := (fa.of_no (S := (· = c))).trans f6 (fun _ _ h => h)
  have z5 := f5.size
  have z6 := f6.size
  replace hO6 : ∀ b, O6 b → b = c ∨ w4.heap.size ≤ b := fun b hb => by
    have := hO6 b hb
    simp only [World.size_alloc] at this
    rcases this with h | h
    · exact hO5 b h
    · omega
  replace hD := hD.fr f6 (fun b hb e => by omega)
  replace hE := hE.fr f6 (fun b hb e => by omega)
  replace hP : PWin w6 p false := Blk.fr hP f6 (fun e => by omega)
  replace hown6 : RdB w6 (fun b => w4.heap.size ≤ b) A6 2 [7, 8] := hown6.rd.mono fun b _ hb => by have := hb.1; simp only [World.size_alloc] at this; omega
  clear r1 fa hC5
  go_wp2_with fail
  have r1 : RdB (w6.alloc (.cells #[.int .u8 2, .int .u8 0, .int .u8 0] 5)) _ (some ⟨w6.heap.size, 0, none⟩) 3 [2, 0, 0] := rdb_new w6 [2, 0, 0] 5
  have fa := (Fr.refl No w6).alloc (.cells #[.int .u8 2, .int .u8 0, .int .u8 0] 5)
  refine (push_any (c := 3) (hD.fr fa (fun _ _ h => h)) r1 (by omega) (by simp [pc0])).mono ?_
  rw [push_3]
  rintro e w7 ⟨A7, c7, O7, rfl, -, -, hD7, hO7, f7⟩
  replace f7 := (fa.of_no (S := (· = d))).trans f7 (fun _ _ h => h)
  replace hO7 : ∀ b, O7 b → b = d ∨ w4.heap.size ≤ b := fun b hb => by have := hO7 b hb; simp only [World.size_alloc] at this; omega
  replace hC6 := hC6.fr f7 (fun b hb e => by have := hO6 b hb; omega)
  replace hE := hE.fr f7 (fun b hb e => by omega)
  replace hP : PWin w7 p false := Blk.fr hP f7 (fun e => by omega)
  replace hown6 := Rd.fr hown6 f7 (fun b _ hb e => by omega)
  have z7 := f7.size
  clear r1 fa hD
  go_wp2_with fail
  have r1 : RdB (w7.alloc (.cells #[.int .u8 1, .int .u8 0, .int .u8 1, .int .u8 1, .int .u8 2, .int .u8 255, .int .u8 0] 5)) _ (some ⟨w7.heap.size, 0, none⟩) 7 [1, 0, 1, 1, 2, 255, 0] := rdb_new w7 [1, 0, 1, 1, 2, 255, 0] 5
  have fa := (Fr.refl No w7).alloc (.cells #[.int .u8 1, .int .u8 0, .int .u8 1, .int .u8 1, .int .u8 2, .int .u8 255, .int .u8 0] 5)
  refine (push_any (c := 7) (hE.fr fa (fun _ _ h => h)) r1 (by omega) (by simp [pc0])).mono ?_
  rw [push_4]
  rintro e w8 ⟨A8, c8, O8, rfl, -, -, hE8, hO8, f8⟩
  replace f8 := (fa.of_no (S := (· = x))).trans f8 (fun _ _ h => h)
  replace hC6 := hC6.fr f8 (fun b hb e => by have := hO6 b hb; omega)
  replace hD7 := hD7.fr f8 (fun b hb e => by have := hO7 b hb; omega)
  replace hP : PWin w8 p false := Blk.fr hP f8 (fun e => by omega)
  replace hown6 := Rd.fr hown6 f8 (fun b _ hb e => by omega)
  have z8 := f8.size
  replace HF := hid (((((HF.out.of_no (S := fun b => b = c ∨ b = d ∨ b = x)).trans f5 (fun b _ hb => .inl hb)).trans f6 (fun b _ hb => .inl hb)).trans f7 (fun b _ hb => .inr (.inl hb))).trans f8 (fun b _ hb => .inr (.inr hb)))
  clear r1 fa hE hE8 hO8 f5 f6 f7 f8
  go_wp2_with fail
  refine (same_bytes (c := c6) (d := 2) (Rd.fr hown6 ((Fr.refl No w8).alloc _) (fun _ _ _ h => h)) (rdb_new w8 [7, 8] 5)).mono ?_
  rintro e w9 ⟨rfl, rfl⟩
  have fa : Fr No w8 (w8.alloc (.cells #[bv 7, bv 8] 5)) := (Fr.refl No w8).alloc (.cells ([7, 8].map bv).toArray 5)
  replace hC6 := hC6.fr fa (fun _ _ h => h)
  replace hD7 := hD7.fr fa (fun _ _ h => h)
  replace hP : PWin _ p false := Blk.fr (S := No) hP fa (fun h => h)
  replace HF := hid (HF.out.trans_no fa)
  clear fa hown6
  go_wp2_with fail
  refine (ended_any hC6).mono ?_
  rintro e w' ⟨rfl, rfl⟩
  go_wp2_with fail
  refine (broken_any hD7).mono ?_
  rintro e w' ⟨rfl, rfl⟩
  clear hC6 hD7
  have hz9 := HF.out.size
  have hp9 := hP.lt
  generalize w8.alloc (.cells #[bv 7, bv 8] 5) = w9 at *
  go_wp2_with fail
  have r1 : RdB (w9.alloc (.cells #[.int .u8 7] 5)) _ (some ⟨w9.heap.size, 0, none⟩) 1 [7] := rdb_new w9 [7] 5
  have fa := (Fr.refl No w9).alloc (.cells #[.int .u8 7] 5)
  replace hP : PWin _ p false := Blk.fr (S := No) hP fa (fun h => h)
  replace HF := hid (HF.out.trans_no fa)
  have hsz : (w9.alloc (.cells #[.int .u8 7] 5)).heap.size = w9.heap.size + 1 := by simp
  refine (plain_push (a := p) (c := 1) r1 (by omega)).mono ?_
  rintro e w10 ⟨A10, c10, rfl, hown10, hc10, f10⟩
  replace hP : PWin _ p false := Blk.fr (S := No) hP f10 (fun h => h)
  replace HF := hid (HF.out.trans_no f10)
  have hd10 := hown10.rd
  have hz10 := f10.size
  clear r1 fa hown10 f10
  go_wp2_with fail
  refine (same_bytes (c := c10) (d := 1) (Rd.fr hd10 ((Fr.refl No w10).alloc _) (fun _ _ _ h => h)) (rdb_new w10 [7] 5)).mono ?_
  rintro e w11 ⟨rfl, rfl⟩
  have fa : Fr No w10 (w10.alloc (.cells ([7].map bv).toArray 5)) := (Fr.refl No w10).alloc (.cells ([7].map bv).toArray 5)
  replace hP : PWin _ p false := Blk.fr (S := No) hP fa (fun h => h)
  replace HF := hid (HF.out.trans_no fa)
  clear fa hd10 hsz hz10
  have hpl := hP.lt
  have hz11 := HF.out.size
  generalize w10.alloc (.cells ([7].map bv).toArray 5) = w11 at *
  go_wp2_with fail
  have r1 : RdB (w11.alloc (.cells #[.int .u8 8] 5)) _ (some ⟨w11.heap.size, 0, none⟩) 1 [8] := rdb_new w11 [8] 5
  have fa := (Fr.refl No w11).alloc (.cells #[.int .u8 8] 5)
  replace hP : PWin _ p false := Blk.fr (S := No) hP fa (fun h => h)
  replace HF := hid (HF.out.trans_no fa)
  refine (plain_send (q := false) (c := 1) hP r1 (by omega)).mono ?_
  rintro e w12 ⟨A12, c12, rfl, hown12, hc12, f12⟩
  replace hP : PWin _ p false := Blk.fr (S := No) hP f12 (fun h => h)
  replace HF := hid (HF.out.trans_no f12)
  have hd12 := hown12.rd
  clear r1 fa hown12 f12
  simp only [Bool.false_eq_true, if_false] at hd12
  go_wp2_with fail
  refine (same_bytes (c := c12) (d := 1) (Rd.fr hd12 ((Fr.refl No w12).alloc _) (fun _ _ _ h => h)) (rdb_new w12 [8] 5)).mono ?_
  rintro e w13 ⟨rfl, rfl⟩
  have fa : Fr No w12 (w12.alloc (.cells ([8].map bv).toArray 5)) := (Fr.refl No w12).alloc (.cells ([8].map bv).toArray 5)
  replace hP : PWin _ p false := Blk.fr (S := No) hP fa (fun h => h)
  replace HF := hid (HF.out.trans_no fa)
  clear fa hd12
  have hpl2 := hP.lt
  generalize w12.alloc (.cells ([8].map bv).toArray 5) = w13 at *
  go_wp2_with fail
  refine (plain_close hP).mono ?_
  rintro e w14 ⟨rfl, hP2, f14⟩
  replace HF := hid ((HF.out.mono (T := fun b => b = c ∨ b = d ∨ b = x ∨ b = p) (fun b _ hb => by omega)).trans (f14.mono (T := fun b => b = c ∨ b = d ∨ b = x ∨ b = p) fun b _ hb => .inr (.inr (.inr hb))) (fun b hb hs => hs))
  clear f14 hP hpl2
  have hpl3 := hP2.lt
  go_wp2_with fail
  have r1 : RdB (w14.alloc (.cells #[.int .u8 8] 5)) _ (some ⟨w14.heap.size, 0, none⟩) 1 [8] := rdb_new w14 [8] 5
  have fa := (Fr.refl No w14).alloc (.cells #[.int .u8 8] 5)
  replace hP2 : PWin _ p true := Blk.fr (S := No) hP2 fa (fun h => h)
  replace HF := hid (HF.out.trans_no fa)
  refine (plain_send (q := true) (c := 1) hP2 r1 (by omega)).mono ?_
  rintro e w15 ⟨A15, c15, rfl, -, -, f15⟩
  replace HF := hid (HF.out.trans_no f15)
  clear fa r1 f15 hP2 hpl3
  go_wp2_with fail
  refine (awake_any w15).mono ?_
  rintro e w16 ⟨rfl, f16⟩
  replace HF := hid (HF.out.trans_no f16)
  go_wp2_with fail
  go_ret
  have hwc := HWC.out
  exact ⟨rfl, HF.out.mono fun b hb hs => by omega⟩
end Go.Proofs.Ytfkkaalchffgaaa
