/- FrameCuts, walked. -/
import Derived.Test.YtpbgcjknhegnmaaDoorFpushed
import Derived.Test.YtpbgcjknhegnmaaDoorFknown
import Derived.Test.YtpbgcjknhegnmaaDoorCut
namespace Go.Ost
theorem FC.feed_new (most : Int) (ls : List (List UInt8)) : FC.feed ⟨most, false, 0, []⟩ [] ls = ((FC.run (ls.flatten.length + 1) ⟨most, false, 0, ls.flatten⟩ []).1, (FC.run (ls.flatten.length + 1) ⟨most, false, 0, ls.flatten⟩ []).2.err) := by
  have := FC.feed_flat ls ⟨most, false, 0, []⟩ [] (.inl rfl) rfl rfl (ls.flatten.length + 1) (by simp)
  simpa [FC.more] using this
end Go.Ost
namespace Go.Proofs.YtpbgcjknhegnmaaDoor
open Go.RowKit Go.Ost

/-- cut, then pushed. -/
theorem cutR_rdl {w w' : World} {O : Nat → Prop} {bs : List UInt8} {k : Nat} {e : Ending} (h : CutR w O bs k e w') : ∃ A c ls, e = .returned (.slice A ls.length c) ∧ RdL w' (fun b => b < w'.heap.size) A ls.length ls ∧ ls.flatten = bs ∧ ls.length ≤ k + 1 ∧ Fr No w w' := by
  obtain ⟨A, c, ls, h1, h2, h3, h4, _, h6⟩ := h
  exact ⟨A, c, ls, h1, h2.mono fun b hb _ => hb, h3, h4, h6⟩
theorem piece_le {ls : List (List UInt8)} {p : List UInt8} (h : p ∈ ls) : p.length ≤ ls.flatten.length := by
  induction ls with
  | nil => simp at h
  | cons x ls ih =>
    rw [List.flatten_cons, List.length_append]
    rcases List.mem_cons.1 h with rfl | h
    · omega
    · have := ih h; omega

set_option maxRecDepth 100000 in
set_option maxHeartbeats 4000000 in
theorem cutslaw_any {w : World} {A A2 A3 : Option Addr} {n c n2 c2 n3 c3 : Nat} {bs : List UInt8} {zs ys : List Int} (most : Int) (h : RdB w (fun b => b < w.heap.size) A n bs) (hnc : n ≤ c)
    (hz : Rd w (fun b => b < w.heap.size) A2 n2 (zs.map (Value.int .i64))) (hy : Rd w (fun b => b < w.heap.size) A3 n3 (ys.map (Value.int .i64))) :
    Calls Tryd.prog 8 #[.int .i64 most, .slice A n c, .slice A2 n2 c2, .slice A3 n3 c3] w fun e w' => e = .returned (.bool true) ∧ Fr No w w' := by
  have hl : bs.length = n := by simpa using h.1
  subst hl
  have H := hid h
  have HZ := hid hz
  have HY := hid hy
  clear h hz hy
  by_cases g1 : most < 12
  · go_enter Tryd.func8, Tryd.ntmps8
    go_wp2_with fail
    refine (known_any w).mono ?_
    rintro e w1 ⟨rfl, hf1⟩
    go_wp2
    go_ret
    exact ⟨rfl, hf1⟩
  · by_cases g2 : 65535 < most
    · go_enter Tryd.func8, Tryd.ntmps8
      go_wp2_with fail
      refine (known_any w).mono ?_
      rintro e w1 ⟨rfl, hf1⟩
      go_wp2
      go_ret
      exact ⟨rfl, hf1⟩
    · by_cases g3 : 20000 < bs.length
      · go_enter Tryd.func8, Tryd.ntmps8
        go_wp2_with fail
        refine (known_any w).mono ?_
        rintro e w1 ⟨rfl, hf1⟩
        go_wp2
        go_ret
        exact ⟨rfl, hf1⟩
      · by_cases g4 : 60 < n2
        · go_enter Tryd.func8, Tryd.ntmps8
          go_wp2_with fail
          refine (known_any w).mono ?_
          rintro e w1 ⟨rfl, hf1⟩
          go_wp2
          go_ret
          exact ⟨rfl, hf1⟩
        · by_cases g5 : 60 < n3
          · go_enter Tryd.func8, Tryd.ntmps8
            go_wp2_with fail
            refine (known_any w).mono ?_
            rintro e w1 ⟨rfl, hf1⟩
            go_wp2
            go_ret
            exact ⟨rfl, hf1⟩
          · have key : ∀ ls : List (List UInt8), ls.flatten = bs → FC.feed ⟨most, false, 0, []⟩ [] ls = ((FC.run (bs.length + 1) ⟨most, false, 0, bs⟩ []).1, (FC.run (bs.length + 1) ⟨most, false, 0, bs⟩ []).2.err) := fun ls e => by rw [FC.feed_new, e]
            generalize FC.run (bs.length + 1) ⟨most, false, 0, bs⟩ [] = R at key
            obtain ⟨R1, R2⟩ := R
            simp only at key
            have KEY := hid key
            clear key
            go_enter Tryd.func8, Tryd.ntmps8
            go_wp2_with fail
            refine (known_any w).mono ?_
            rintro e w1 ⟨rfl, hf1⟩
            go_wp2_with fail
            refine (cut_any (c := c) (c3 := c2) (Rd.fr H.out hf1 (fun _ _ _ h => h)) (fun b hb => Nat.lt_of_lt_of_le hb hf1.size) hnc (by omega) (Rd.fr HZ.out hf1 (fun _ _ _ h => h)) (by omega)).mono ?_
            intro e w2 hcut
            obtain ⟨A4, c4, ls, rfl, hr4, hfl4, hl4, hf2⟩ := cutR_rdl hcut
            have hfl := hid hfl4
            clear hcut hfl4
            go_wp2_with fail
            refine (fpushed_any (c := c4) (by omega) (by omega) hr4 (fun _ h => h) (by omega) (fun p hp => by have := piece_le hp; rw [hfl.out] at this; omega)).mono ?_
            rw [KEY.out ls hfl.out]
            rintro e w3 ⟨A5, c5, rfl, hc5, hr5, hf3⟩
            have hf13 := (hf1.trans_no hf2).trans_no hf3
            go_wp2_with fail
            refine (cut_any (c := c) (c3 := c3) (Rd.fr H.out hf13 (fun _ _ _ h => h)) (fun b hb => Nat.lt_of_lt_of_le hb hf13.size) hnc (by omega) (Rd.fr HY.out hf13 (fun _ _ _ h => h)) (by omega)).mono ?_
            intro e w4 hcut
            obtain ⟨A6, c6, ls2, rfl, hr6, hfl6, hl6, hf4⟩ := cutR_rdl hcut
            have hfl2 := hid hfl6
            clear hcut hfl6
            go_wp2_with fail
            refine (fpushed_any (c := c6) (by omega) (by omega) hr6 (fun _ h => h) (by omega) (fun p hp => by have := piece_le hp; rw [hfl2.out] at this; omega)).mono ?_
            rw [KEY.out ls2 hfl2.out]
            rintro e w5 ⟨A7, c7, rfl, hc7, hr7, hf5⟩
            have hr5' := (hr5.fr hf4 (fun _ _ _ h => h)).fr hf5 (fun _ _ _ h => h)
            have hF := (hf13.trans_no hf4).trans_no hf5
            simp only at hc5 hc7
            have hsame := same_lists (c := c5) (d := c7) hr5' hr7 (Nat.le_trans hc5 (by omega)) (Nat.le_trans hc7 (by omega))
            clear hr5 hr5' hr7
            go_wp2_with fail
            refine hsame.mono ?_
            rintro e w6 ⟨rfl, k, rfl⟩
            go_wp2_with fail
            go_ret
            exact ⟨by simp, hF.drewN k⟩
end Go.Proofs.YtpbgcjknhegnmaaDoor
