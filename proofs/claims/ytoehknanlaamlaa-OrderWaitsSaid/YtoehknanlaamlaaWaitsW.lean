/- OrderWaits, walked: for every number and every slice of bytes it returns true and writes nothing that was there. -/
import Derived.Test.YtoehknanlaamlaaWaits
namespace Go.Proofs.Ytoehknanlaamlaa
open Go.RowKit Go.Ost

set_option maxHeartbeats 2000000 in
theorem waits_any {w : World} {O : Nat → Prop} {A : Option Addr} {c : Nat} {bs : Bs} (x : Int) (hb : RdB w O A bs.length bs) :
    Calls Try.prog 3 #[.int .i64 x, .slice A bs.length c] w fun e w' => e = .returned (.bool true) ∧ Fr No w w' := by
  have h0 := Int.emod_nonneg x (show (63 : Int) ≠ 0 by omega)
  have h1 := Int.emod_lt_of_pos x (show (0 : Int) < 63 by omega)
  obtain ⟨M, hM⟩ : ∃ M : Nat, 2 + x % 63 = (M : Int) := ⟨(2 + x % 63).toNat, by omega⟩
  have m1 : 2 ≤ M := by omega
  have m2 : M ≤ 64 := by omega
  by_cases hlong : 1000 < bs.length
  · go_enter Try.func3, Try.ntmps3
    go_wp2_with fail
    refine (awake_any w).mono ?_
    rintro e w1 ⟨rfl, f1⟩
    go_wp2_with fail
    refine (pick_any x 63 w1 (by omega) (by omega)).mono ?_
    rintro e w2 ⟨rfl, rfl⟩
    go_wp2_with fail
    refine (new_hasN (w0 := w) M f1 (by omega) (by omega)).mono ?_
    rintro e w2 ⟨rfl, H2⟩
    go_wp2_with fail
    go_ret
    exact ⟨rfl, H2.frame⟩
  · have hll : bs.length ≤ 1000 := by omega
    have hlb : bs.length ≤ 140737488355328 := by omega
    go_enter Try.func3, Try.ntmps3
    go_wp2_with fail
    refine (awake_any w).mono ?_
    rintro e w1 ⟨rfl, f1⟩
    go_wp2_with fail
    refine (pick_any x 63 w1 (by omega) (by omega)).mono ?_
    rintro e w2 ⟨rfl, rfl⟩
    go_wp2_with fail
    refine (new_hasN (w0 := w) M f1 (by omega) (by omega)).mono ?_
    rintro e w2 ⟨rfl, H2⟩
    go_wp2_with fail
    go_loopw [8] (fun i wr => ∃ k : Nat, k ≤ M ∧ i = .int .i64 k ∧ Has w wr (w1.heap.size + 1) ⟨M, 1, List.replicate k none⟩) (fun i _ => M - (intOf i).toNat)
    case atStart => exact ⟨0, Nat.zero_le _, rfl, H2⟩
    case round =>
      obtain ⟨k, hk, rfl, H3⟩ := hrel
      by_cases hlt : k < M
      · go_wp2_with (go_at_call 11; refine (open_has H3 (open_rep hlt) (by simp; omega)).mono ?_; rintro e w3 ⟨rfl, H4⟩)
        go_roundw
        case rel => exact ⟨k + 1, by omega, by go_num, H4⟩
        case measure => simp [intOf]; omega
      · have hkM : k = M := by omega
        subst hkM
        have H4 : Has w wr (w1.heap.size + 1) (waits k k bs) := by simpa [waits] using H3
        clear H3 H2
        go_wp2_with fail
        go_loopw [9] (fun i wr => ∃ j : Nat, 1 ≤ j ∧ j ≤ k ∧ i = .int .i64 j ∧ Has w wr (w1.heap.size + 1) (waits k j bs)) (fun i _ => (intOf i).toNat)
        case atStart => exact ⟨k, by omega, Nat.le_refl _, rfl, H4⟩
        case round =>
          obtain ⟨j, hj1, hj2, rfl, H5⟩ := hrel
          by_cases hlt : 1 < j
          · obtain ⟨j, rfl⟩ : ∃ i, j = i + 1 := ⟨j - 1, by omega⟩
            have hb5 : RdB _ O A bs.length bs := Rd.fr hb H5.frame fun _ _ _ h => h
            go_wp2_with fail
            refine (done_has H5 ((j : Int) + 1) hb5 hlb (done_rep (by omega) (by omega))).mono ?_
            rintro e w5 ⟨A5, c5, rfl, R5, H6⟩
            clear R5
            go_wp2_with fail
            refine (first_has H6).mono ?_
            rintro e w6 ⟨rfl, hq, H7⟩
            rw [first_waits (by omega)]
            go_wp2_with fail
            go_roundw
            case rel => exact ⟨j, by omega, by omega, by go_num, H7⟩
            case measure => simp [intOf]
          · obtain rfl : j = 1 := by omega
            clear H4
            go_wp2_with fail
            refine (done_has H5 1 (rdb_nil _) (by simp) done_last).mono ?_
            rintro e w5 ⟨A5, c5, he, R5, H6⟩
            have hl5 : ([] :: List.replicate (k - 1) bs : List Bs).length = k := by simp; omega
            rw [hl5] at he R5
            subst he
            obtain ⟨b5, o5, rfl, hc5⟩ := R5.head (by omega)
            obtain ⟨A6, n6, c6, l6, hl6, hcell6, hn6, hr6⟩ := hc5 0 (by omega)
            have hn0 : n6 = 0 := by
              simp at hl6
              subst hl6
              simpa using hr6.1.symm
            subst hn0
            rw [Nat.add_zero] at hcell6
            go_wp2_with fail
            clear hl6 hcell6 hr6
            go_loop [14] (fun i => ∃ j : Nat, 1 ≤ j ∧ j ≤ k ∧ i = .int .i64 j) (fun i => k - (intOf i).toNat)
            case atStart => exact ⟨1, Nat.le_refl _, by omega, rfl⟩
            case round =>
              obtain ⟨j, hj1, hj2, rfl⟩ := hrel
              by_cases hlt : j < k
              · obtain ⟨A7, n7, c7, l7, hl7, hcell7, hn7, hr7⟩ := hc5 j hlt
                have hl : l7 = bs := by
                  obtain ⟨i, rfl⟩ : ∃ i, j = i + 1 := ⟨j - 1, by omega⟩
                  rw [List.getElem?_cons_succ, List.getElem?_replicate] at hl7
                  split at hl7
                  · injection hl7 with hl7; exact hl7.symm
                  · cases hl7
                subst hl
                have hb5 : RdB w5 O A l7.length l7 := Rd.fr hb H6.frame fun _ _ _ h => h
                clear hc5 hl7
                go_wp2_with (go_at_call 14; refine (same_bytes (c := c7) (d := c) hr7 hb5).mono ?_; rintro e w8 ⟨rfl, rfl⟩)
                go_round
                case rel => exact ⟨j + 1, by omega, by omega, by go_num⟩
                case measure => simp [intOf]; omega
              · obtain rfl : j = k := by omega
                clear hc5
                go_wp2_with fail
                refine (len_has H6).mono ?_
                rintro e w8 ⟨rfl, hq, H8⟩
                go_wp2_with fail
                go_ret
                exact ⟨rfl, H8.frame⟩
end Go.Proofs.Ytoehknanlaamlaa
