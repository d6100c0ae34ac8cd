/- The reference's Reader: its memory, New, Want, Push. -/
import Derived.Test.YtpbgcjknhegnmaaDoorFpushed
namespace Go.Proofs.YtpbgcjknhegnmaaDoor
open Go.RowKit Go.Ost

/-- The reference's reader at block a. -/
def RFw (w : World) (O : Nat → Prop) (a : Nat) (s : FC) : Prop :=
  (∀ b, O b → b < w.heap.size) ∧ O a ∧ ∃ A c, Blk w a 49 #[.int .i64 s.most, .slice A s.b.length c, .bool s.broken] ∧ s.b.length ≤ c ∧ c ≤ maxLen ∧ RdB w (fun b => O b ∧ b ≠ a) A s.b.length s.b

section
variable {w w' : World} {O S : Nat → Prop} {a : Nat} {s : FC}
theorem RFw.fr (h : RFw w O a s) (hf : Fr S w w') (hd : ∀ b, O b → ¬ S b) : RFw w' O a s := by
  obtain ⟨h0, ha, A, c, h1, h2, h3, h4⟩ := h
  exact ⟨fun b hb => Nat.lt_of_lt_of_le (h0 b hb) hf.size, ha, A, c, h1.fr hf (hd a ha), h2, h3, Rd.fr h4 hf fun b _ hb => hd b hb.1⟩
theorem RFw.drewN (h : RFw w O a s) (k : Nat) : RFw (w.drewN k) O a s := h

theorem rnew_ok (w : World) {most : Int} (h1 : 12 ≤ most) (h2 : most ≤ 65535) : Calls Tryd.prog 21 #[.int .i64 most] w fun e w' => e = .returned (.tuple #[.pointer (some ⟨w.heap.size, 0, none⟩), .int .i64 0]) ∧ RFw w' (fun y => y = w.heap.size) w.heap.size ⟨most, false, 0, []⟩ ∧ Fr No w w' := by
  go_enter Tryd.func21, Tryd.ntmps21
  go_wp2
  go_ret2
  exact ⟨rfl, ⟨fun y hy => by subst hy; simp, rfl, none, 0, by simpa using Blk.new w 49 _, Nat.zero_le _, Nat.zero_le _, Rd.nil _ _ _⟩, (Fr.refl No w).alloc _⟩
theorem rnew_bad (w : World) {most : Int} (h : most < 12 ∨ 65535 < most) : Calls Tryd.prog 21 #[.int .i64 most] w fun e w' => e = .returned (.tuple #[.pointer none, .int .i64 2]) ∧ w = w' := by
  by_cases h1 : most < 12
  · go_enter Tryd.func21, Tryd.ntmps21
    go_wp2
    go_ret2
    exact ⟨rfl, rfl⟩
  · have h2 : 65535 < most := by omega
    clear h
    go_enter Tryd.func21, Tryd.ntmps21
    go_wp2
    go_ret2
    exact ⟨rfl, rfl⟩

theorem rwant_any (h : RFw w O a s) (hb : s.b.length ≤ 1000000) : Calls Tryd.prog 27 #[.pointer (some ⟨a, 0, none⟩)] w fun e w' => e = .returned (.int .i64 s.want) ∧ ∃ k, w' = w.drewN k := by
  obtain ⟨h0, ha, A, c, hB, hc1, hc2, hr⟩ := h
  have c1 := hB.cell 1
  have hlt := hB.lt
  simp at c1
  have hw : s.want = match two s.b with
    | none => 0
    | some n => (n : Int) + 2 - s.b.length := rfl
  rw [hw]
  clear hw
  generalize s.b = bs at hb c1 hr hc1 hB ⊢
  rcases bs with _ | ⟨x, _ | ⟨y, r⟩⟩
  · go_enter Tryd.func27, Tryd.ntmps27
    go_wp2
    go_ret
    exact ⟨rfl, 0, rfl⟩
  · go_enter Tryd.func27, Tryd.ntmps27
    go_wp2
    go_ret
    exact ⟨rfl, 0, rfl⟩
  · obtain ⟨b1, o1, rfl, _, hcc⟩ := hr.2 (by simp)
    have g0 := hcc 0 (bv x) rfl
    have g1 := hcc 1 (bv y) rfl
    rw [Nat.add_zero] at g0
    unfold bv at g0 g1
    have hxl := x.toNat_lt
    have hyl := y.toNat_lt
    have hl2 : 2 ≤ (x :: y :: r).length := by simp
    have e2 : two (x :: y :: r) = some (256 * x.toNat + y.toNat) := rfl
    rw [e2]
    clear e2
    generalize (x :: y :: r).length = n at hb c1 hc1 hl2
    clear hcc hr hB
    have hw1 : IntKind.i64.wrap (256 * (x.toNat : Int)) = 256 * (x.toNat : Int) := IntWalk.i64_in _ (by omega)
    have hw2 : IntKind.i64.wrap (256 * (x.toNat : Int) + (y.toNat : Int)) = 256 * (x.toNat : Int) + (y.toNat : Int) := IntWalk.i64_in _ (by omega)
    have hw3 : IntKind.i64.wrap ((n : Int) - 2) = (n : Int) - 2 := IntWalk.i64_in _ (by omega)
    have hw4 : IntKind.i64.wrap (256 * (x.toNat : Int) + (y.toNat : Int) - ((n : Int) - 2)) = 256 * (x.toNat : Int) + (y.toNat : Int) - ((n : Int) - 2) := IntWalk.i64_in _ (by omega)
    have hl0 : 0 < n := by omega
    have hl1 : 1 < n := by omega
    go_enter Tryd.func27, Tryd.ntmps27
    go_wp2
    go_quiet (fail)
    go_wp2
    go_ret
    have e1 : 256 * (x.toNat : Int) + (y.toNat : Int) - ((n : Int) - 2) = ((256 * x.toNat + y.toNat : Nat) : Int) + 2 - (n : Int) := by omega
    exact ⟨by rw [← e1]; rfl, _, rfl⟩
end
end Go.Proofs.YtpbgcjknhegnmaaDoor
