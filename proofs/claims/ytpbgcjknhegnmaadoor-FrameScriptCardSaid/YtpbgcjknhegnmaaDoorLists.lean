/- The contract of SameLists: it tells whether two lists of lists of bytes are alike. -/
import Derived.Test.YtpbgcjknhegnmaaDoorKit
import Derived.Test.YtpbgcjknhegnmaaDoorSlice
namespace Go.Proofs.YtpbgcjknhegnmaaDoor
open Go.RowKit Go.Ost

theorem take_step {α : Type} {xs ys : List α} {k : Nat} {x : α} (h : xs.take k = ys.take k) (hx : xs[k]? = some x) (hy : ys[k]? = some x) : xs.take (k + 1) = ys.take (k + 1) := by
  have h1 := (List.getElem?_eq_some_iff.1 hx)
  have h2 := (List.getElem?_eq_some_iff.1 hy)
  obtain ⟨l1, e1⟩ := h1
  obtain ⟨l2, e2⟩ := h2
  rw [List.take_succ_eq_append_getElem l1, List.take_succ_eq_append_getElem l2, h, e1, e2]

theorem more {w wr : World} {m : Nat} (h : ∃ q, wr = w.drewN q) : ∃ q, wr.drewN m = w.drewN q := by
  obtain ⟨q, rfl⟩ := h
  exact ⟨q + m, World.drewN_drewN ..⟩

/-- What a comparison answers. -/
def Tells (b : Bool) (w : World) (e : Ending) (w' : World) : Prop := e = .returned (.bool b) ∧ ∃ k, w' = w.drewN k

set_option maxHeartbeats 800000 in
theorem same_lists {w : World} {O O' : Nat → Prop} {A B : Option Addr} {n m c d : Nat} {xs ys : List (List UInt8)} (hx : RdL w O A n xs) (hy : RdL w O' B m ys) (hn : n ≤ 4611686018427387904) (hm : m ≤ 4611686018427387904) :
    Calls Tryd.prog 18 #[.slice A n c, .slice B m d] w (Tells (decide (xs = ys)) w) := by
  have lx : xs.length = n := hx.len
  have ly : ys.length = m := hy.len
  by_cases hnm : n = m
  · subst hnm
    rcases Nat.eq_zero_or_pos n with h0 | h0
    · subst h0
      have e1 : xs = [] := List.eq_nil_of_length_eq_zero lx
      have e2 : ys = [] := List.eq_nil_of_length_eq_zero ly
      subst e1 e2
      clear lx ly
      go_enter Tryd.func18, Tryd.ntmps18
      go_wp2
      go_loopw [5] (fun i wr => i = .int .i64 0 ∧ wr = w) (fun _ _ => 0)
      case atStart => exact ⟨rfl, rfl⟩
      case round =>
        obtain ⟨rfl, rfl⟩ := hrel
        go_wp2
        go_ret
        exact ⟨rfl, 0, rfl⟩
    · obtain ⟨b1, o1, rfl, hcx⟩ := hx.head h0
      obtain ⟨b2, o2, rfl, hcy⟩ := hy.head h0
      have LX := hid lx
      have LY := hid ly
      clear lx ly
      go_enter Tryd.func18, Tryd.ntmps18
      go_wp2
      go_loopw [5] (fun i wr => ∃ k : Nat, k ≤ n ∧ i = .int .i64 k ∧ Hid (∃ q, wr = w.drewN q) ∧ Hid (xs.take k = ys.take k)) (fun i _ => n - (intOf i).toNat)
      case atStart => exact ⟨0, Nat.zero_le _, rfl, ⟨0, rfl⟩, by simp [Hid]⟩
      case round =>
        obtain ⟨k, hk, rfl, hq, ht⟩ := hrel
        by_cases hlt : k < n
        · obtain ⟨A1, n1, c1, l1, hl1, hc1, _, hr1⟩ := hcx k hlt
          obtain ⟨A2, n2, c2, l2, hl2, hc2, _, hr2⟩ := hcy k hlt
          replace hc1 : wr.cell? ⟨b1, o1 + k, none⟩ = some (.slice A1 n1 c1) := by obtain ⟨q, rfl⟩ := hq.out; exact hc1
          replace hc2 : wr.cell? ⟨b2, o2 + k, none⟩ = some (.slice A2 n2 c2) := by obtain ⟨q, rfl⟩ := hq.out; exact hc2
          replace hr1 : RdB wr O A1 n1 l1 := by obtain ⟨q, rfl⟩ := hq.out; exact hr1
          replace hr2 : RdB wr O' A2 n2 l2 := by obtain ⟨q, rfl⟩ := hq.out; exact hr2
          have H1 := hid hl1
          have H2 := hid hl2
          clear hl1 hl2 hcx hcy
          by_cases he : l1 = l2
          · subst he
            have hT := take_step ht.out H1.out H2.out
            have HT := hid hT
            clear hT
            go_wp2
            go_quiet ((go_at_call 14; exact Calls.quiet_of_same ((same_bytes (w := wr.drewN _) (c := c1) (d := c2) hr1 hr2).mono fun _ _ h => ⟨h.1, h.2.symm⟩)))
            go_wp2
            go_roundw
            case rel => exact ⟨k + 1, by omega, by go_num, more hq.out, HT⟩
            case measure => simp [intOf]; omega
          · have hb : (l1 == l2) = false := by simpa using he
            have hne : decide (xs = ys) = false := by
              simp only [decide_eq_false_iff_not]
              rintro rfl
              have h1 := H1.out
              rw [H2.out] at h1
              exact he (by injection h1 with h1; exact h1.symm)
            have HNE := hid hne
            clear hne
            go_wp2
            go_quiet ((go_at_call 14; exact Calls.quiet_of_same ((same_bytes (w := wr.drewN _) (c := c1) (d := c2) hr1 hr2).mono fun _ _ h => ⟨h.1, h.2.symm⟩)))
            go_wp2
            go_ret
            exact ⟨by rw [HNE.out]; first | done | rfl, more hq.out⟩
        · have hk' : k = n := by omega
          subst hk'
          clear hcx hcy
          go_wp2
          go_ret
          refine ⟨?_, hq.out⟩
          have h1 := ht.out
          rw [List.take_of_length_le (by rw [LX.out]; exact Nat.le_refl _), List.take_of_length_le (by rw [LY.out]; exact Nat.le_refl _)] at h1
          simp [h1]
  · have hne : decide (xs = ys) = false := by
      simp only [decide_eq_false_iff_not]
      rintro rfl
      omega
    have HNE := hid hne
    have hb : ((n : Int) == m) = false := by simp; omega
    clear hne
    go_enter Tryd.func18, Tryd.ntmps18
    go_wp2
    go_ret
    exact ⟨by rw [HNE.out]; first | done | rfl, 0, rfl⟩
end Go.Proofs.YtpbgcjknhegnmaaDoor
