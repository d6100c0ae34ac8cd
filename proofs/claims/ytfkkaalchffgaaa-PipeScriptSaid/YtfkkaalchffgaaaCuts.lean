/- PipeCuts, walked: however bytes are cut into pieces, a sealed channel tells the same. -/
import Derived.Test.YtfkkaalchffgaaaPushed
import Derived.Test.YtfkkaalchffgaaaCut
namespace Go.Ost
theorem PC.feed_pc0 (ls : List (List UInt8)) : PC.feed pc0 [] ls = PC.run (ls.flatten.length + 1) (pc0.more ls.flatten) [] :=
  PC.feed_flat ls pc0 [] rfl rfl rfl _ (by simp [pc0])
end Go.Ost
namespace Go.Proofs.Ytfkkaalchffgaaa
open Go.RowKit Go.Ost

/-- cut, then pushed. -/
theorem cutR_rdl {w w' : World} {O : Nat → Prop} {bs : List UInt8} {k : Nat} {e : Ending} (h : CutR w O bs k e w') : ∃ A c ls, e = .returned (.slice A ls.length c) ∧ RdL w' (fun b => b < w'.heap.size) A ls.length ls ∧ ls.flatten = bs ∧ ls.length ≤ k + 1 ∧ Fr No w w' := by
  obtain ⟨A, c, ls, h1, h2, h3, h4, _, h6⟩ := h
  exact ⟨A, c, ls, h1, h2.mono fun b hb _ => hb, h3, h4, h6⟩

set_option maxRecDepth 100000 in
set_option maxHeartbeats 4000000 in
theorem cutslaw_any {w : World} {A A2 A3 : Option Addr} {n c n2 c2 n3 c3 : Nat} {bs : List UInt8} {zs ys : List Int} (h : RdB w (fun b => b < w.heap.size) A n bs) (hnc : n ≤ c)
    (hz : Rd w (fun b => b < w.heap.size) A2 n2 (zs.map (Value.int .i64))) (hy : Rd w (fun b => b < w.heap.size) A3 n3 (ys.map (Value.int .i64))) :
    Calls Try.prog 6 #[.slice A n c, .slice A2 n2 c2, .slice A3 n3 c3] w fun e w' => e = .returned (.bool true) ∧ Fr No w w' := by
  have hl : bs.length = n := by simpa using h.1
  subst hl
  by_cases hg : 6000 < bs.length ∨ 60 < n2 ∨ 60 < n3
  · have H := hid h
    clear h hz hy
    rcases hg with hg | hg | hg
    · go_enter Try.func6, Try.ntmps6
      go_wp2_with fail
      refine (awake_any w).mono ?_
      rintro e w1 ⟨rfl, hf1⟩
      go_wp2
      go_ret
      exact ⟨rfl, hf1⟩
    · by_cases h6 : 6000 < bs.length
      all_goals
        go_enter Try.func6, Try.ntmps6
        go_wp2_with fail
        refine (awake_any w).mono ?_
        rintro e w1 ⟨rfl, hf1⟩
        go_wp2
        go_ret
        exact ⟨rfl, hf1⟩
    · by_cases h6 : 6000 < bs.length
      · go_enter Try.func6, Try.ntmps6
        go_wp2_with fail
        refine (awake_any w).mono ?_
        rintro e w1 ⟨rfl, hf1⟩
        go_wp2
        go_ret
        exact ⟨rfl, hf1⟩
      · by_cases h7 : 60 < n2
        all_goals
          go_enter Try.func6, Try.ntmps6
          go_wp2_with fail
          refine (awake_any w).mono ?_
          rintro e w1 ⟨rfl, hf1⟩
          go_wp2
          go_ret
          exact ⟨rfl, hf1⟩
  · have g1 : bs.length ≤ 6000 := by omega
    have g2 : n2 ≤ 60 := by omega
    have g3 : n3 ≤ 60 := by omega
    clear hg
    have key : ∀ ls : List (List UInt8), ls.flatten = bs → PC.feed pc0 [] ls = PC.run (bs.length + 1) (pc0.more bs) [] := fun ls e => by rw [PC.feed_pc0, e]
    generalize PC.run (bs.length + 1) (pc0.more bs) [] = R at key
    have KEY := hid key
    have H := hid h
    have HZ := hid hz
    have HY := hid hy
    clear h hz hy key
    go_enter Try.func6, Try.ntmps6
    go_wp2_with fail
    refine (awake_any w).mono ?_
    rintro e w1 ⟨rfl, hf1⟩
    go_wp2_with fail
    refine (cut_any (c := c) (c3 := c2) (Rd.fr H.out hf1 (fun _ _ _ h => h)) (fun b hb => Nat.lt_of_lt_of_le hb hf1.size) hnc (by omega) (Rd.fr HZ.out hf1 (fun _ _ _ h => h)) g2).mono ?_
    intro e w2 hcut
    obtain ⟨A4, c4, ls, rfl, hr4, hfl4, hl4, hf2⟩ := cutR_rdl hcut
    have hfl := hid hfl4
    clear hcut hfl4
    go_wp2_with fail
    refine (pushed_any (c := c4) hr4 (fun _ h => h) (by omega) (by rw [hfl.out]; omega)).mono ?_
    rw [KEY.out ls hfl.out]
    rintro e w3 ⟨A5, c5, rfl, hc5, hr5, hf3⟩
    have hf13 := (hf1.trans_no hf2).trans_no hf3
    go_wp2_with fail
    refine (cut_any (c := c) (c3 := c3) (Rd.fr H.out hf13 (fun _ _ _ h => h)) (fun b hb => Nat.lt_of_lt_of_le hb hf13.size) hnc (by omega) (Rd.fr HY.out hf13 (fun _ _ _ h => h)) g3).mono ?_
    intro e w4 hcut
    obtain ⟨A6, c6, ls2, rfl, hr6, hfl6, hl6, hf4⟩ := cutR_rdl hcut
    have hfl2 := hid hfl6
    clear hcut hfl6
    go_wp2_with fail
    refine (pushed_any (c := c6) hr6 (fun _ h => h) (by omega) (by rw [hfl2.out]; omega)).mono ?_
    rw [KEY.out ls2 hfl2.out]
    rintro e w5 ⟨A7, c7, rfl, hc7, hr7, hf5⟩
    have hr5' := Rd.fr (Rd.fr hr5 hf4 (fun _ _ _ h => h)) hf5 (fun _ _ _ h => h)
    have hF := (hf13.trans_no hf4).trans_no hf5
    go_wp2_with fail
    refine (same_bytes (c := c5) (d := c7) hr5' hr7).mono ?_
    rintro e w6 ⟨rfl, rfl⟩
    go_wp2_with fail
    go_ret
    exact ⟨by simp, hF⟩
end Go.Proofs.Ytfkkaalchffgaaa
