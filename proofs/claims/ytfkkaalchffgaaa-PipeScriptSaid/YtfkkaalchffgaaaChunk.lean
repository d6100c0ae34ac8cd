/- slices.Chunk at 1024, as an iterator: the parts of a slice of bytes, each of 1024 bytes but the last. -/
import Derived.Test.YtfkkaalchffgaaaRange
import Derived.Test.YtfkkaalchffgaaaKit
import Derived.Test.YtfkkaalchffgaaaSlice
import Derived.Deep.LoopGhost
import Derived.Sort.QuietIn
namespace Go.Ost
/-- The first k parts. -/
def parts (bs : List UInt8) (k : Nat) : List (List UInt8) := (List.range k).map fun j => (bs.drop (1024 * j)).take 1024
theorem parts_succ (bs : List UInt8) (k : Nat) : parts bs (k + 1) = parts bs k ++ [(bs.drop (1024 * k)).take 1024] := by simp [parts, List.range_succ]
theorem parts_len (bs : List UInt8) (k : Nat) : (parts bs k).length = k := by simp [parts]
/-- How many there are. -/
def many (bs : List UInt8) : Nat := (bs.length + 1023) / 1024
end Go.Ost
namespace Go.Proofs.Ytfkkaalchffgaaa
open Go.RowKit Go.Ost
attribute [local go_sem] Oper.semAt_some

def YPart (O : Nat → Prop) (n : Nat) : List (List UInt8) → List UInt8 → Value → World → World → Prop := fun pre x v _ W => ∃ A c, v = .slice A x.length c ∧ x.length ≤ c ∧ x.length ≤ 1024 ∧ RdB W O A x.length x ∧ 1024 * pre.length < n

set_option maxRecDepth 100000 in
set_option maxHeartbeats 2000000 in
theorem chunk_iter {w : World} {O T : Nat → Prop} {b o n c Bs : Nat} {bs : List UInt8} (h : RdB w O (some ⟨b, o, none⟩) n bs) (hO : ∀ b, O b → ¬ T b) (hnc : n ≤ c) (hc : n ≤ 140737488355328)
    (h1 : w.cell? ⟨Bs, 0, none⟩ = some (.slice (some ⟨b, o, none⟩) n c)) (h2 : w.cell? ⟨Bs + 1, 0, none⟩ = some (.int .i64 1024)) (hT1 : ¬ T Bs) (hT2 : ¬ T (Bs + 1)) :
    Iter Try.prog 62 #[.pointer (some ⟨Bs, 0, none⟩), .pointer (some ⟨Bs + 1, 0, none⟩)] No T (YPart O n) (fun xs _ => xs = parts bs (many bs)) w := by
  intro l J W hW hJ hJs hyield h0
  have g1 : W.cell? ⟨Bs, 0, none⟩ = some (.slice (some ⟨b, o, none⟩) n c) := hW.cell (fun h => h) h1
  have g2 : W.cell? ⟨Bs + 1, 0, none⟩ = some (.int .i64 1024) := hW.cell (fun h => h) h2
  have hR : RdB W O (some ⟨b, o, none⟩) n bs := Rd.fr h hW (fun _ _ _ h => h)
  have hl : bs.length = n := by simpa using h.1
  have HL := hid hl
  clear h1 h2 h hl
  refine callsIn_of_wp Try.func62 rfl trivial ?_ rfl
  simp only [Try.ntmps62, List.size_toArray, List.length_cons, List.length_nil, Nat.reduceAdd, Nat.reduceSub, Array.replicate_succ, Array.replicate_zero, List.push_toArray, List.append_toArray, List.nil_append, List.cons_append]
  gi_wp2
  gi_loopw [4] (fun i wr => ∃ k j : Nat, i = .int .i64 j ∧ Hid (j = 1024 * k) ∧ j < n + 1024 ∧ J (parts bs k) wr ∧ Hid (Fr T W wr)) (fun i _ => n + 1024 - (intOf i).toNat)
  case atStart => exact ⟨0, 0, rfl, rfl, by omega, h0, Fr.refl _ _⟩
  case round =>
    obtain ⟨k, j, rfl, hjk, hk, hj, hf⟩ := hrel
    have c1 : wr.cell? ⟨Bs, 0, none⟩ = some (.slice (some ⟨b, o, none⟩) n c) := hf.out.cell hT1 g1
    have c2 : wr.cell? ⟨Bs + 1, 0, none⟩ = some (.int .i64 1024) := hf.out.cell hT2 g2
    by_cases hlt : j < n
    · obtain ⟨r, rfl⟩ : ∃ r, n = j + r := ⟨n - j, by omega⟩
      have hR1 : RdB wr O (some ⟨b, o, none⟩) (j + r) bs := Rd.fr hR hf.out (fun _ _ hb => hO _ hb)
      have hR2 := Rd.cut (cap := j + r + 1) hR1 (k := j) (by omega) (by omega)
      rw [if_neg (by omega), Nat.add_sub_cancel_left, ← List.map_drop] at hR2
      simp only [Option.map_some, add_lit_none] at hR2
      have HR2 := hid hR2
      have HR1 := hid hR1
      clear hR2 hR1
      rcases Nat.lt_or_ge r 1024 with hfull | hfull
      rotate_left
      · have hpart : RdB wr O (some ⟨b, o + j, none⟩) 1024 ((bs.drop (1024 * k)).take 1024) := by
          have := (HR2.out).take (k := 1024) (by omega)
          rw [← List.map_take, hjk.out] at this
          rw [hjk.out]
          exact this
        have hpl : ((bs.drop (1024 * k)).take 1024).length = 1024 := by simpa using hpart.1
        have e1 : ((j : Int) + 1024).toNat - j = 1024 := by omega
        gi_wp2
        gi_quiet (fail)
        gi_wp2
        obtain ⟨fn, tmps, assign, body, hy, hR⟩ := hyield (parts bs k) ((bs.drop (1024 * k)).take 1024) (.slice (some ⟨b, o + j, none⟩) 1024 1024) wr (wr.drewN nq) hj ((Fr.refl No wr).drewN nq) ⟨_, 1024, by rw [hpl], by omega, by omega, by rw [hpl]; exact hpart.drewN nq, by rw [parts_len, ← hjk.out]; omega⟩
        rw [hy]
        gi_wp2
        refine hR.mono ?_
        rintro e W3 ⟨rfl, hJ3, hk3⟩
        have c3 : W3.cell? ⟨Bs + 1, 0, none⟩ = some (.int .i64 1024) := hk3.cell (p := ⟨Bs + 1, 0, none⟩) hT2 c2
        gi_wp2
        go_roundw
        case rel => exact ⟨k + 1, j + 1024, by go_num, by have := hjk.out; simp only [Hid]; omega, by omega, by rw [parts_succ]; exact hJ3, (hf.out.drewN nq).trans hk3 (fun _ _ h => h)⟩
        case measure => simp [intOf]; omega
      · have hpart : RdB wr O (some ⟨b, o + j, none⟩) r ((bs.drop (1024 * k)).take 1024) := by
          have := HR2.out
          have hl := HL.out
          have hjk' := hjk.out
          rw [List.take_of_length_le (by simp; omega), ← hjk.out]
          exact this
        have hpl : ((bs.drop (1024 * k)).take 1024).length = r := by simpa using hpart.1
        have e1 : ((j : Int) + r).toNat - j = r := by omega
        gi_wp2
        gi_quiet (fail)
        gi_wp2
        obtain ⟨fn, tmps, assign, body, hy, hR⟩ := hyield (parts bs k) ((bs.drop (1024 * k)).take 1024) (.slice (some ⟨b, o + j, none⟩) r r) wr (wr.drewN nq) hj ((Fr.refl No wr).drewN nq) ⟨_, r, by rw [hpl], by omega, by omega, by rw [hpl]; exact hpart.drewN nq, by rw [parts_len, ← hjk.out]; omega⟩
        rw [hy]
        gi_wp2
        refine hR.mono ?_
        rintro e W3 ⟨rfl, hJ3, hk3⟩
        have c3 : W3.cell? ⟨Bs + 1, 0, none⟩ = some (.int .i64 1024) := hk3.cell (p := ⟨Bs + 1, 0, none⟩) hT2 c2
        gi_wp2
        go_roundw
        case rel => exact ⟨k + 1, j + 1024, by go_num, by have := hjk.out; simp only [Hid]; omega, by omega, by rw [parts_succ]; exact hJ3, (hf.out.drewN nq).trans hk3 (fun _ _ h => h)⟩
        case measure => simp [intOf]; omega
    · have hm : many bs = k := by
        have := HL.out
        have := hjk.out
        unfold many
        omega
      gi_wp2
      go_end0
      exact ⟨⟨_, rfl⟩, _, by rw [hm], hj⟩
end Go.Proofs.Ytfkkaalchffgaaa
