/- The verifier's OverBytes: a row of bytes that the call owns is written over; nothing else turns. -/
import Derived.Test.YtfkkaalchffgaaaKit
import Derived.Deep.QuietTactic
import Derived.BigQuiet
namespace Go.Proofs.Ytfkkaalchffgaaa
open Go.RowKit Go.Ost

theorem xor90 (x : UInt8) : ∃ y : UInt8, bits .xor .u8 (x.toNat : Int) 90 = (y.toNat : Int) := by
  have h : ∀ n : Fin 256, bits .xor .u8 (n.val : Int) 90 = ((UInt8.ofNat n.val ^^^ 90).toNat : Int) := by decide +kernel
  exact ⟨_, h ⟨x.toNat, x.toNat_lt⟩⟩

/-- The cells of a slice of bytes up to its capacity, in one block, that may be written. -/
def Wr (w : World) (b o c : Nat) : Prop := ∀ j, j < c → (∃ x : UInt8, w.cell? ⟨b, o + j, none⟩ = some (bv x)) ∧ w.frozen? ⟨b, o + j, none⟩ = false

theorem Own.wr {w : World} {O : Nat → Prop} {b o n c : Nat} {bs : List UInt8} (h : Own w O 5 Byte (some ⟨b, o, none⟩) n c (bs.map bv)) : o = 0 ∧ O b ∧ Wr w b 0 c := by
  rcases h.2 with ⟨e, _⟩ | ⟨b', ts, e, hO, hB, hl, ht⟩
  · cases e
  · injection e with e
    injection e with e1 e2
    subst e1 e2
    refine ⟨rfl, hO, fun j hj => ⟨?_, hB.frozen _⟩⟩
    rw [Nat.zero_add, hB.cell]
    have hn : bs.length = n := by simpa using h.1
    rcases Nat.lt_or_ge j n with hjn | hjn
    · refine ⟨bs[j]'(by omega), ?_⟩
      rw [List.getElem?_toArray, List.getElem?_append_left (by simp; omega), List.getElem?_map, List.getElem?_eq_getElem (by omega)]
      rfl
    · have hjt : j - n < ts.length := by omega
      obtain ⟨x, hx⟩ := ht _ (List.getElem_mem hjt)
      refine ⟨x, ?_⟩
      simp [List.getElem?_append_right (show (bs.map bv).length ≤ j by simp; omega), hn, List.getElem?_eq_getElem hjt, hx]

set_option maxHeartbeats 800000 in
theorem over_some {w : World} {b n c : Nat} (h : Wr w b 0 c) (hc : c ≤ maxLen) :
    Calls Try.prog 20 #[.slice (some ⟨b, 0, none⟩) n c] w fun e w' => e = .returned (.tuple #[]) ∧ Fr (· = b) w w' := by
  unfold maxLen at hc
  have H := hid h
  clear h
  go_enter Try.func20, Try.ntmps20
  go_wp2
  go_loopw [3] (fun i wr => ∃ k : Nat, k ≤ c ∧ i = .int .i64 k ∧ Hid (Wr wr b 0 c) ∧ Hid (Fr (· = b) w wr)) (fun i _ => c - (intOf i).toNat)
  case atStart => exact ⟨0, Nat.zero_le _, rfl, H, Fr.refl _ _⟩
  case round =>
    obtain ⟨k, hk, rfl, hw, hf⟩ := hrel
    by_cases hlt : k < c
    · obtain ⟨⟨x, hx⟩, hfz⟩ := hw.out k hlt
      rw [Nat.zero_add] at hx hfz
      obtain ⟨y, hy⟩ := xor90 x
      unfold bv at hx
      go_wp2
      go_roundw
      case rel =>
        refine ⟨k + 1, by omega, by go_num, fun j hj => ?_, hf.out.setCell (p := ⟨b, k, none⟩) (.inl rfl) _⟩
        obtain ⟨⟨z, hz⟩, hz2⟩ := hw.out j hj
        rw [Nat.zero_add] at hz hz2 ⊢
        refine ⟨?_, by rw [World.frozen?_setCell]; exact hz2⟩
        by_cases hj : j = k
        · subst hj
          exact ⟨y, World.cell?_setCell_same _ _ _ hx⟩
        · exact ⟨z, by rw [World.cell?_setCell_other _ _ _ _ (fun e => hj (by injection e with _ e _; exact e.symm))]; exact hz⟩
      case measure => simp [intOf]; omega
    · obtain rfl : k = c := by omega
      go_wp2
      go_end0
      exact ⟨rfl, hf.out⟩

theorem over_nil {w : World} {n : Nat} :
    Calls Try.prog 20 #[.slice none n 0] w fun e w' => e = .returned (.tuple #[]) ∧ w = w' := by
  go_enter Try.func20, Try.ntmps20
  go_wp2
  go_loop [3] (fun i => i = .int .i64 0) (fun _ => 0)
  case atStart => exact rfl
  case round =>
    obtain rfl := hrel
    go_wp2
    go_end0
    exact ⟨rfl, rfl⟩

/-- A row of bytes that the call owns is written over; nothing else turns. -/
theorem over_own {w : World} {O : Nat → Prop} {A : Option Addr} {n c : Nat} {bs : List UInt8} (h : Own w O 5 Byte A n c (bs.map bv)) (hc : c ≤ maxLen) :
    Calls Try.prog 20 #[.slice A n c] w fun e w' => e = .returned (.tuple #[]) ∧ Fr O w w' := by
  rcases A with _ | ⟨b, o, sp⟩
  · have hcz : c = 0 := by
      rcases h.2 with ⟨_, _, h0⟩ | ⟨_, _, e, _⟩
      · exact h0
      · cases e
    subst hcz
    exact over_nil.mono fun e w' ⟨he, hw⟩ => ⟨he, hw ▸ Fr.refl _ _⟩
  · have hsp : sp = none ∧ o = 0 := by
      rcases h.2 with ⟨e, _⟩ | ⟨_, _, e, _⟩
      · cases e
      · injection e with e; injection e with _ e1 e2; exact ⟨e2, e1⟩
    obtain ⟨rfl, rfl⟩ := hsp
    obtain ⟨_, hO, hw⟩ := Own.wr h
    exact (over_some hw hc).mono fun e w' ⟨he, hf⟩ => ⟨he, hf.mono fun x _ hx => by rw [hx]; exact hO⟩
end Go.Proofs.Ytfkkaalchffgaaa
