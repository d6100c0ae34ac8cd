/- OrderKnown: the chapter's examples are answered as it says; walked. -/
import Derived.Test.YtoehknanlaamlaaOrdF
namespace Go.Proofs.Ytoehknanlaamlaa
open Go.RowKit Go.Ost

theorem new_bad_has {w0 w : World} {a : Nat} {s : OW} (m : Int) (h : Has w0 w a s) (hm : m < 1 ∨ 64 < m) :
    Calls Try.prog 10 #[.int .i64 m] w fun e w' => e = .returned (.tuple #[.pointer none, .int .i64 2]) ∧ Has w0 w' a s := by
  refine (new_bad m w hm).mono ?_
  rintro e w' ⟨rfl, rfl⟩
  exact ⟨rfl, h⟩

set_option maxHeartbeats 2000000 in
theorem known_any (w : World) : Calls Try.prog 6 #[] w fun e w' => e = .returned (.bool true) ∧ Fr No w w' := by
  go_enter Try.func6, Try.ntmps6
  go_wp2_with fail
  refine (new_has (w0 := w) 2 (Fr.refl _ _) (by omega) (by omega)).mono ?_
  rintro e w1 ⟨rfl, H1⟩
  go_wp2_with fail
  refine (new_bad_has 65 H1 (by omega)).mono ?_
  rintro e w2 ⟨rfl, H2⟩
  clear H1
  go_wp2_with fail
  refine (open_has H2 (r := (1, 0)) (s' := ⟨2, 1, [none]⟩) rfl (by simp)).mono ?_
  rintro e w3 ⟨rfl, H3⟩
  clear H2
  go_wp2_with fail
  refine (open_has H3 (r := (2, 0)) (s' := ⟨2, 1, [none, none]⟩) rfl (by simp)).mono ?_
  rintro e w4 ⟨rfl, H4⟩
  clear H3
  go_wp2_with fail
  refine (done_has (H4.alloc _) 2 (bs := [2]) (rdb_one _ 2 _) (by simp) (ls := []) (err := 0) (s' := ⟨2, 1, [none, some [2]]⟩) rfl).mono ?_
  rintro e w5 ⟨A5, c5, rfl, _, H5⟩
  clear H4
  go_wp2_with fail
  refine (ready_has H5).mono ?_
  rintro e w' ⟨rfl, rfl⟩
  rw [show OW.ready ⟨2, 1, [none, some [2]]⟩ = 1 from rfl]
  go_wp2_with fail
  refine (done_has (H5.alloc _) 1 (bs := [1]) (rdb_one _ 1 _) (by simp) (ls := [[1], [2]]) (err := 0) (s' := ⟨2, 3, []⟩) rfl).mono ?_
  rintro e w6 ⟨A6, c6, rfl, _, H6⟩
  clear H5
  go_wp2_with fail
  refine (done_has H6 1 (bs := []) (rdb_nil _) (by simp) (ls := []) (err := 6) (s' := ⟨2, 3, []⟩) rfl).mono ?_
  rintro e w7 ⟨A7, c7, rfl, _, H7⟩
  clear H6
  go_wp2_with fail
  refine (open_has H7 (r := (3, 0)) (s' := ⟨2, 3, [none]⟩) rfl (by simp)).mono ?_
  rintro e w8 ⟨rfl, H8⟩
  clear H7
  go_wp2_with fail
  refine (done_has H8 3 (bs := []) (rdb_nil _) (by simp) (ls := [[]]) (err := 0) (s' := ⟨2, 4, []⟩) rfl).mono ?_
  rintro e w9 ⟨A9, c9, rfl, R9, H9⟩
  clear H8
  obtain ⟨b9, o9, rfl, hc9⟩ := R9.head (by simp)
  obtain ⟨Ax, nx, cx, lx, hlx, hcell, _, hrx⟩ := hc9 0 (by simp)
  have hn0 : nx = 0 := by
    simp at hlx
    subst hlx
    simpa using hrx.1.symm
  subst hn0
  rw [Nat.add_zero] at hcell
  clear hc9 hrx hlx
  go_wp2_with fail
  refine (first_has H9).mono ?_
  rintro e w10 ⟨rfl, hq, H10⟩
  rw [show OW.first ⟨2, 4, []⟩ = 0 from rfl]
  replace hcell : w10.cell? ⟨b9, o9, none⟩ = some (.slice Ax 0 cx) := by obtain ⟨k, rfl⟩ := hq.out; exact hcell
  clear H9 hq
  go_wp2_with fail
  refine (len_has H10).mono ?_
  rintro e w11 ⟨rfl, _, H11⟩
  clear H10 hcell
  go_wp2_with fail
  refine (open_has H11 (r := (4, 0)) (s' := ⟨2, 4, [none]⟩) rfl (by simp)).mono ?_
  rintro e w12 ⟨rfl, H12⟩
  clear H11
  go_wp2_with fail
  refine (open_has H12 (r := (5, 0)) (s' := ⟨2, 4, [none, none]⟩) rfl (by simp)).mono ?_
  rintro e w13 ⟨rfl, H13⟩
  clear H12
  go_wp2_with fail
  refine (done_has H13 5 (bs := []) (rdb_nil _) (by simp) (ls := []) (err := 0) (s' := ⟨2, 4, [none, some []]⟩) rfl).mono ?_
  rintro e w14 ⟨A14, c14, rfl, _, H14⟩
  clear H13
  go_wp2_with fail
  refine (done_has H14 5 (bs := []) (rdb_nil _) (by simp) (ls := []) (err := 7) (s' := ⟨2, 4, [none, some []]⟩) rfl).mono ?_
  rintro e w15 ⟨A15, c15, rfl, _, H15⟩
  clear H14
  go_wp2_with fail
  refine (awake_any w15).mono ?_
  rintro e w16 ⟨rfl, f16⟩
  go_wp2_with fail
  go_ret
  exact ⟨rfl, H15.frame.trans_no f16⟩
end Go.Proofs.Ytoehknanlaamlaa
