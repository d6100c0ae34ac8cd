/- frame.Reader: its machine, its small methods; New, Put. -/
import Derived.Test.YtpbgcjknhegnmaaDoorBufE
import Derived.Laws.BitsLemmas
namespace Go.Ost
/-- A reader: its most, whether it is broken, its error, the bytes that it keeps. -/
structure FC where
  most : Int
  broken : Bool
  err : Int
  b : List UInt8
/-- The length that has come. -/
def two : List UInt8 → Option Nat
  | x :: y :: _ => some (256 * x.toNat + y.toNat)
  | _ => none
/-- How many are missing. -/
def FC.want (s : FC) : Int := match two s.b with
  | none => 0
  | some n => (n : Int) + 2 - s.b.length
theorem two_lt {b : List UInt8} {n : Nat} (h : two b = some n) : n < 65536 ∧ 2 ≤ b.length := by
  match b, h with
  | x :: y :: r, h =>
    have := x.toNat_lt
    have := y.toNat_lt
    simp only [two, Option.some.injEq] at h
    exact ⟨by omega, by simp⟩
theorem two_none {b : List UInt8} (h : two b = none) : b.length < 2 := by
  match b, h with
  | [], _ => simp
  | [x], _ => simp
  | x :: y :: r, h => simp [two] at h
end Go.Ost
namespace Go.Proofs.YtpbgcjknhegnmaaDoor
open Go.RowKit Go.Ost

theorem wraps32 (n : Int) (h0 : 0 ≤ n) (h1 : n < 2 ^ 32) : IntKind.i64.wrap n = n := by rw [IntKind.wrap_i64]; omega
theorem or8n (a b : Nat) (ha : a < 256) (hb : b < 256) : bits .or .i64 ((a : Int) * 256) (b : Int) = (a : Int) * 256 + (b : Int) :=
  bits_join .i64 32 (by decide) wraps32 8 ((a : Int) * 256) b (by omega) (by omega) (by omega) (by omega) (by omega) (by omega)

/-- A reader at block a. -/
def FR (w : World) (O : Nat → Prop) (a : Nat) (s : FC) : Prop := ∃ all off A c lr, all.drop off = s.b ∧ FW w O a s.most s.broken s.err all off A c lr

section
variable {w w' : World} {O S : Nat → Prop} {a : Nat} {s : FC}
theorem FR.fr (h : FR w O a s) (hf : Fr S w w') (hd : ∀ y, O y → ¬ S y) : FR w' O a s := by
  obtain ⟨all, off, A, c, lr, h1, h2⟩ := h
  exact ⟨all, off, A, c, lr, h1, h2.fr hf hd⟩
theorem FR.drewN (h : FR w O a s) (k : Nat) : FR (w.drewN k) O a s := h
theorem FR.mem (h : FR w O a s) : O a ∧ ∀ y, O y → y < w.heap.size := by
  obtain ⟨all, off, A, c, lr, h1, h2⟩ := h
  exact ⟨h2.2.1, h2.1⟩
theorem FR.cells (h : FR w O a s) : w.cell? ⟨a, 0, none⟩ = some (.int .i64 s.most) ∧ w.cell? ⟨a, 1, none⟩ = some (.bool s.broken) ∧ w.cell? ⟨a, 5, none⟩ = some (.int .i64 s.err) ∧ w.frozen? ⟨a, 1, none⟩ = false ∧ w.frozen? ⟨a, 5, none⟩ = false := by
  obtain ⟨all, off, A, c, lr, h1, h2⟩ := h
  have hB := h2.2.2.2.1
  refine ⟨?_, ?_, ?_, hB.frozen 1, hB.frozen 5⟩
  · rw [hB.cell]; rfl
  · rw [hB.cell]; rfl
  · rw [hB.cell]; rfl
/-- A field is written. -/
theorem FR.broke (h : FR w O a s) (q : Bool) : FR (w.setCell ⟨a, 1, none⟩ (.bool q)) O a { s with broken := q } := by
  obtain ⟨all, off, A, c, lr, h1, k1, k2, k3, k4, k5, k6⟩ := h
  have hf : Fr (· = a) w (w.setCell ⟨a, 1, none⟩ (.bool q)) := (Fr.refl (· = a) w).setCell (p := ⟨a, 1, none⟩) (.inl rfl) _
  exact ⟨all, off, A, c, lr, h1, fun y hy => Nat.lt_of_lt_of_le (k1 y hy) hf.size, k2, k3, by simpa using k4.set_ 1 (.bool q), k5.fr hf (fun y _ hy => hy.2), k6⟩
theorem FR.fail (h : FR w O a s) (x : Int) : FR (w.setCell ⟨a, 5, none⟩ (.int .i64 x)) O a { s with err := x } := by
  obtain ⟨all, off, A, c, lr, h1, k1, k2, k3, k4, k5, k6⟩ := h
  have hf : Fr (· = a) w (w.setCell ⟨a, 5, none⟩ (.int .i64 x)) := (Fr.refl (· = a) w).setCell (p := ⟨a, 5, none⟩) (.inl rfl) _
  exact ⟨all, off, A, c, lr, h1, fun y hy => Nat.lt_of_lt_of_le (k1 y hy) hf.size, k2, k3, by simpa using k4.set_ 5 (.int .i64 x), k5.fr hf (fun y _ hy => hy.2), k6⟩

theorem flen_any (h : FR w O a s) : Calls Tryd.prog 35 #[.pointer (some ⟨a, 2, none⟩)] w fun e w' => e = .returned (.int .i64 s.b.length) ∧ ∃ k, w' = w.drewN k := by
  obtain ⟨all, off, A, c, lr, h1, h2⟩ := h
  have := len_q h2
  rw [← List.length_drop, h1] at this
  exact this

theorem none_is {most : Int} (hc : w.cell? ⟨a, 0, none⟩ = some (.int .i64 most)) (hm : most ≠ 0) : Calls Tryd.prog 31 #[.pointer (some ⟨a, 0, none⟩)] w fun e w' => e = .returned (.bool false) ∧ w = w' := by
  have hb : (most == 0) = false := by simpa using hm
  go_enter Tryd.func31, Tryd.ntmps31
  go_wp2
  go_ret
  exact ⟨rfl, rfl⟩
theorem none_zero (hc : w.cell? ⟨a, 0, none⟩ = some (.int .i64 0)) : Calls Tryd.prog 31 #[.pointer (some ⟨a, 0, none⟩)] w fun e w' => e = .returned (.bool true) ∧ w = w' := by
  go_enter Tryd.func31, Tryd.ntmps31
  go_wp2
  go_ret
  exact ⟨rfl, rfl⟩
theorem none_nil : Calls Tryd.prog 31 #[.pointer none] w fun e w' => e = .returned (.bool true) ∧ w = w' := by
  go_enter Tryd.func31, Tryd.ntmps31
  go_wp2
  go_ret
  exact ⟨rfl, rfl⟩

/-- The length that has come, and whether one has. -/
theorem size_any (h : FR w O a s) : Calls Tryd.prog 36 #[.pointer (some ⟨a, 0, none⟩)] w fun e w' => e = .returned (.tuple #[.int .i64 ((two s.b).getD 0 : Nat), .bool (two s.b).isSome]) ∧ ∃ k, w' = w.drewN k := by
  obtain ⟨all, off, A, c, lr, h1, h2⟩ := h
  have hby := bytes_q h2
  rw [h1] at hby
  have hlt := h2.2.2.2.1.lt
  match hb : s.b, hby with
  | [], hby =>
    simp only [two, Option.getD_none, Option.isSome_none]
    go_enter Tryd.func36, Tryd.ntmps36
    go_wp2_with fail
    refine hby.mono ?_
    rintro e w1 ⟨A1, c1, rfl, _, _, k, rfl⟩
    go_wp2
    go_ret2
    exact ⟨rfl, k, rfl⟩
  | [x], hby =>
    simp only [two, Option.getD_none, Option.isSome_none]
    go_enter Tryd.func36, Tryd.ntmps36
    go_wp2_with fail
    refine hby.mono ?_
    rintro e w1 ⟨A1, c1, rfl, _, _, k, rfl⟩
    go_wp2
    go_ret2
    exact ⟨rfl, k, rfl⟩
  | x :: y :: r, hby =>
    simp only [two, Option.getD_some, Option.isSome_some]
    have hx := x.toNat_lt
    have hy := y.toNat_lt
    have hor := or8n x.toNat y.toNat hx hy
    have hw1 : IntKind.i64.wrap ((x.toNat : Int) * 256) = (x.toNat : Int) * 256 := IntWalk.i64_in _ (by omega)
    have hlen : 2 ≤ (x :: y :: r).length := by simp
    have HB := hid hb
    clear hb
    go_enter Tryd.func36, Tryd.ntmps36
    go_wp2_with fail
    refine hby.mono ?_
    rintro e w1 ⟨A1, c1, rfl, hc1, hr1, k, rfl⟩
    obtain ⟨b1, o1, rfl, _, hcc⟩ := hr1.2 (by omega)
    have g0 := hcc 0 (bv x) rfl
    have g1 := hcc 1 (bv y) rfl
    rw [Nat.add_zero] at g0
    unfold bv at g0 g1
    replace g0 : w.cell? ⟨b1, o1, none⟩ = some (.int .u8 (x.toNat : Int)) := g0
    replace g1 : w.cell? ⟨b1, o1 + 1, none⟩ = some (.int .u8 (y.toNat : Int)) := g1
    generalize (x :: y :: r).length = n at hlen hc1
    have hl0 : 0 < n := by omega
    have hl1 : 1 < n := by omega
    clear hcc hr1
    go_wp2
    go_quiet (fail)
    go_wp2
    go_ret2
    have e1 : (x.toNat : Int) * 256 + (y.toNat : Int) = ((256 * x.toNat + y.toNat : Nat) : Int) := by omega
    exact ⟨by rw [← e1]; rfl, _, World.drewN_drewN ..⟩

theorem fleft_any (h : FR w O a s) (hm : s.most ≠ 0) : Calls Tryd.prog 25 #[.pointer (some ⟨a, 0, none⟩)] w fun e w' => e = .returned (.int .i64 s.b.length) ∧ ∃ k, w' = w.drewN k := by
  have hn := none_is h.cells.1 hm
  have hl := flen_any h
  have hlt := h.mem.2 a h.mem.1
  go_enter Tryd.func25, Tryd.ntmps25
  go_wp2_with fail
  refine hn.mono ?_
  rintro e w' ⟨rfl, rfl⟩
  go_wp2_with fail
  refine hl.mono ?_
  rintro e w' ⟨rfl, k, rfl⟩
  go_wp2
  go_ret
  exact ⟨rfl, k, rfl⟩

theorem fbroken_any (h : FR w O a s) : Calls Tryd.prog 28 #[.pointer (some ⟨a, 0, none⟩)] w fun e w' => e = .returned (.bool s.broken) ∧ w = w' := by
  have hc := h.cells.2.1
  have hnn : ∀ w, (binOp .neq 39 (.pointer (some ⟨a, 0, none⟩)) (.pointer none)).run Tryd.prog w = .ok (.bool true) w := fun w => by kernel_rfl
  go_enter Tryd.func28, Tryd.ntmps28
  go_wp2
  go_ret
  exact ⟨rfl, rfl⟩
end


section
variable {w w' : World} {O S : Nat → Prop} {a : Nat} {s : FC}
theorem fwant_any (h : FR w O a s) (hm : s.most ≠ 0) (hb : s.b.length ≤ 1000000) : Calls Tryd.prog 26 #[.pointer (some ⟨a, 0, none⟩)] w fun e w' => e = .returned (.int .i64 s.want) ∧ ∃ k, w' = w.drewN k := by
  have hn := none_is h.cells.1 hm
  have hsz := size_any h
  have hlt := h.mem.2 a h.mem.1
  have hl := fun k => flen_any (h.drewN k)
  have hw : s.want = match two s.b with
    | none => 0
    | some n => (n : Int) + 2 - s.b.length := rfl
  rw [hw]
  clear hw
  match htw : two s.b, hsz with
  | none, hsz =>
    simp only [Option.getD_none, Option.isSome_none] at hsz
    clear htw
    go_enter Tryd.func26, Tryd.ntmps26
    go_wp2_with fail
    refine hn.mono ?_
    rintro e w' ⟨rfl, rfl⟩
    go_wp2_with fail
    refine hsz.mono ?_
    rintro e w' ⟨rfl, k, rfl⟩
    go_wp2
    go_ret
    exact ⟨rfl, k, rfl⟩
  | some n, hsz =>
    simp only [Option.getD_some, Option.isSome_some] at hsz
    obtain ⟨hn1, _⟩ := two_lt htw
    clear htw
    go_enter Tryd.func26, Tryd.ntmps26
    go_wp2_with fail
    refine hn.mono ?_
    rintro e w' ⟨rfl, rfl⟩
    go_wp2_with fail
    refine hsz.mono ?_
    rintro e w' ⟨rfl, k, rfl⟩
    go_wp2_with fail
    refine (hl k).mono ?_
    rintro e w' ⟨rfl, k2, rfl⟩
    go_wp2
    go_ret
    exact ⟨rfl, k + k2, rfl⟩

theorem fnew_ok (w : World) {most : Int} (h1 : 12 ≤ most) (h2 : most ≤ 65535) : Calls Tryd.prog 20 #[.int .i64 most] w fun e w' => e = .returned (.tuple #[.pointer (some ⟨w.heap.size, 0, none⟩), .int .i64 0]) ∧ FR w' (fun y => y = w.heap.size) w.heap.size ⟨most, false, 0, []⟩ ∧ Fr No w w' := by
  go_enter Tryd.func20, Tryd.ntmps20
  go_wp2
  go_ret2
  exact ⟨rfl, ⟨[], 0, none, 0, 0, rfl, fun y hy => by subst hy; simp, rfl, Nat.le_refl _, by simpa using Blk.new w 56 _, Ost.Own.nil _ _ _ _, Nat.zero_le _⟩, (Fr.refl No w).alloc _⟩
theorem fnew_bad (w : World) {most : Int} (h : most < 12 ∨ 65535 < most) : Calls Tryd.prog 20 #[.int .i64 most] w fun e w' => e = .returned (.tuple #[.pointer none, .int .i64 2]) ∧ w = w' := by
  by_cases h1 : most < 12
  · go_enter Tryd.func20, Tryd.ntmps20
    go_wp2
    go_ret2
    exact ⟨rfl, rfl⟩
  · have h2 : 65535 < most := by omega
    clear h
    go_enter Tryd.func20, Tryd.ntmps20
    go_wp2
    go_ret2
    exact ⟨rfl, rfl⟩
end
end Go.Proofs.YtpbgcjknhegnmaaDoor
