/- The law's cut: bytes in pieces. -/
import Derived.Test.YtfkkaalchffgaaaKit
import Derived.Test.YtfkkaalchffgaaaSlice
import Derived.Deep.LoopGhost
namespace Go.Proofs.Ytfkkaalchffgaaa
open Go.RowKit Go.Ost

/-- What cut hands back. -/
def CutR (w : World) (O : Nat → Prop) (bs : List UInt8) (k : Nat) (e : Ending) (w' : World) : Prop :=
  ∃ A c ls, e = .returned (.slice A ls.length c) ∧ RdL w' (fun b => O b ∨ w.heap.size ≤ b) A ls.length ls ∧ ls.flatten = bs ∧ ls.length ≤ k + 1 ∧ ls.length ≤ c ∧ Fr No w w'

/-- The pieces so far. -/
def Pcs (w : World) (O : Nat → Prop) (vs : List Value) (ls : List (List UInt8)) : Prop := vs.length = ls.length ∧ ∀ (i : Nat) (v : Value) (l : List UInt8), vs[i]? = some v → ls[i]? = some l → BVal w O v l

theorem Pcs.fr {w w' : World} {O S : Nat → Prop} {vs : List Value} {ls : List (List UInt8)} (h : Pcs w O vs ls) (hf : Fr S w w') (hd : ∀ b, b < w.heap.size → O b → ¬ S b) : Pcs w' O vs ls :=
  ⟨h.1, fun i v l hv hl => (h.2 i v l hv hl).fr hf hd⟩
theorem Pcs.snoc {w : World} {O : Nat → Prop} {vs : List Value} {ls : List (List UInt8)} {v : Value} {l : List UInt8} (h : Pcs w O vs ls) (hv : BVal w O v l) : Pcs w O (vs ++ [v]) (ls ++ [l]) := by
  refine ⟨by simp [h.1], fun i u x hu hx => ?_⟩
  rcases Nat.lt_or_ge i vs.length with hi | hi
  · rw [List.getElem?_append_left hi] at hu
    rw [List.getElem?_append_left (by rw [← h.1]; exact hi)] at hx
    exact h.2 i u x hu hx
  · rw [List.getElem?_append_right hi] at hu
    rw [List.getElem?_append_right (by rw [← h.1]; exact hi), ← h.1] at hx
    cases hj : i - vs.length with
    | zero => rw [hj] at hu hx; simp at hu hx; subst hu hx; exact hv
    | succ j => rw [hj] at hu; simp at hu
theorem Pcs.rdl {w : World} {O O2 O3 : Nat → Prop} {vs : List Value} {ls : List (List UInt8)} {A : Option Addr} {n : Nat} (h : Pcs w O vs ls) (hr : Rd w O2 A n vs) (h1 : ∀ b, O b → O3 b) (h2 : ∀ b, O2 b → O3 b) : RdL w O3 A n ls :=
  ⟨vs, hr.mono fun b _ => h2 b, h.1, fun i v l hv hl => (h.2 i v l hv hl).mono fun b _ => h1 b⟩

theorem rd_from' {w : World} {O : Nat → Prop} {A A' : Option Addr} {n l : Nat} {vs : List Value} (h : Rd w O A n vs) (hl : l ≤ n) (hA : l < n → A' = A.map (·.add (l * 1))) : Rd w O A' (n - l) (vs.drop l) := by
  refine ⟨by rw [List.length_drop, h.1], fun hn => ?_⟩
  obtain ⟨b, o, rfl, hb, hc⟩ := h.2 (by omega)
  refine ⟨b, o + l, ?_, hb, fun j v hv => ?_⟩
  · rw [hA (by omega), Option.map_some, Nat.mul_one, add_lit_none]
  · rw [Nat.add_assoc]
    exact hc _ v (by rw [← hv, List.getElem?_drop])
theorem own_at_ge {w : World} {B : Nat} {e : TypeId} {T : Value → Prop} {A : Option Addr} {n c : Nat} {vs : List Value} (h : Own w (Ge B) e T A n c vs) : ∀ b, At A b → B ≤ b := by
  rintro b ⟨o, rfl⟩
  rcases h.2 with ⟨e1, _⟩ | ⟨b', ts, e1, hO, _⟩
  · cases e1
  · injection e1 with e1
    injection e1 with e1
    rw [e1]
    exact hO

theorem triv_zero : ∀ v ∈ (Value.slice none 0 0).cells.toList, (fun _ : Value => True) v := fun _ _ => trivial

set_option maxRecDepth 100000 in
set_option maxHeartbeats 4000000 in
theorem cut_any {w : World} {O O2 : Nat → Prop} {A A3 : Option Addr} {c n3 c3 : Nat} {bs : List UInt8} {zs : List Int} (h : RdB w O A bs.length bs) (hO : ∀ b, O b → b < w.heap.size) (hnc : bs.length ≤ c) (hl : bs.length ≤ 10000) (hz : Rd w O2 A3 n3 (zs.map (Value.int .i64))) (h60 : n3 ≤ 60) :
    Calls Try.prog 11 #[.slice A bs.length c, .slice A3 n3 c3] w (CutR w O bs n3) := by
  obtain ⟨i0, hi, hz0, hz1, hz2⟩ := info_parts info_bs
  have HZ := hid hz
  have HL := hid hl
  have hnc' := hnc
  generalize hn : bs.length = n at hnc h hl
  have HN := hid hn
  clear hn hz hnc'
  go_enter Try.func11, Try.ntmps11
  go_wp2
  go_loopw [0, 5, 6] (fun b out i wr => ∃ (k : Nat) (A1 : Option Addr) (c1 : Nat) (rest : List UInt8) (A2 : Option Addr) (c2 : Nat) (vs : List Value) (ls : List (List UInt8)), k ≤ n3 ∧ i = .int .i64 k ∧ b = .slice A1 rest.length c1 ∧ rest.length ≤ c1 ∧ rest.length ≤ 10000 ∧ Hid (RdB wr O A1 rest.length rest) ∧
    out = .slice A2 vs.length c2 ∧ vs.length ≤ k ∧ Hid (Own wr (Ge w.heap.size) 28 (fun _ => True) A2 vs.length c2 vs) ∧ Hid (Pcs wr O vs ls) ∧ Hid (ls.flatten ++ rest = bs) ∧ Hid (Fr No w wr)) (fun _ _ i _ => n3 - (intOf i).toNat)
  case atStart =>
    have hnn := HN.out
    subst hnn
    exact ⟨0, A, c, bs, none, 0, [], [], Nat.zero_le _, rfl, rfl, hnc, hl, h, rfl, Nat.le_refl _, Own.nil _ _ _ _, ⟨rfl, fun i v l hv => by simp at hv⟩, rfl, Fr.refl _ _⟩
  case round =>
    clear h
    obtain ⟨k, A1, c1, rest, A2, c2, vs, ls, hk, rfl, rfl, hrc, hr10, hrd, rfl, hvk, hown, hpcs, hfl, hf⟩ := hrel
    by_cases hlt : k < n3
    · by_cases hne : 0 < rest.length
      · obtain ⟨bz, oz, v, eA, _, hv, hcz⟩ := (HZ.out).at_ hlt
        subst eA
        rw [List.getElem?_map] at hv
        obtain ⟨z, hzk, rfl⟩ : ∃ z, zs[k]? = some z ∧ Value.int .i64 z = v := by
          cases hzk : zs[k]? with
          | none => rw [hzk] at hv; simp at hv
          | some z => rw [hzk] at hv; exact ⟨z, rfl, by simpa using hv⟩
        clear hv hzk
        replace hcz := hf.out.cell (p := ⟨bz, oz + k, none⟩) (fun h => h) hcz
        have hrd1 := hrd.out
        obtain ⟨b1, o1, rfl, hOb, _⟩ := hrd1.2 hne
        have g0 := Int.emod_nonneg z (show ((rest.length : Int) + 1) ≠ 0 by omega)
        have g1 := Int.emod_lt_of_pos z (show (0 : Int) < (rest.length : Int) + 1 by omega)
        obtain ⟨j, hj⟩ : ∃ j : Nat, z % ((rest.length : Int) + 1) = j := ⟨(z % ((rest.length : Int) + 1)).toNat, by omega⟩
        rw [hj] at g0 g1
        have hjn : j ≤ rest.length := by omega
        have hpick := pick_any z ((rest.length : Int) + 1) wr (by omega) (by omega)
        rw [hj] at hpick
        clear hj g0 g1
        go_wp2_with fail
        refine hpick.mono ?_
        rintro e w' ⟨rfl, rfl⟩
        obtain ⟨A6, hsl, hA6⟩ := slice_from (P := Try.prog) (t := 28) (s := 1) Try.underlying28 (fun w => by kernel_rfl) (some ⟨b1, o1, none⟩) (n := rest.length) (c := c1) (l := j) hjn hrc
        have hsz := hf.out.size
        have hj1 : j ≤ c1 := Nat.le_trans hjn hrc
        go_wp2_with (at_builtin; refine wpList_app _ rfl (.tmp 27) (.tmp 31) _ rfl 28 i0 _ 1 24 Try.underlying22 hi hz0 hz1 hz2 rfl (by omega) triv_zero (O := Ge w.heap.size) (by simp only [Ge, World.size_alloc]; omega) rfl (by simpa using (hown.out.alloc (.cells #[.slice (some ⟨b1, o1, none⟩) j c1] 28))) (m := 1) rfl (rd_one _ _ _) (by simp [Value.oneCell']) (by simp only [maxLen]; omega) (by omega) ?_; intro A4 c4 w4 hown4 hf4 hc4 hA4)
        have hfN : Fr No w w4 := (hf.out.alloc _).trans_new hf4 (fun b hb => .inr (own_at_ge hown.out b hb))
        have hfr4 : Fr (Ge w.heap.size) wr w4 := ((Fr.refl _ wr).alloc _).trans (hf4.mono (T := Ge w.heap.size) (fun b _ hb => own_at_ge hown.out b hb)) (fun _ _ h => h)
        have hdis : ∀ b, b < wr.heap.size → O b → ¬ Ge w.heap.size b := fun b _ hb hg => by have := hO b hb; simp only [Ge] at hg; omega
        have hrd4 := Rd.fr hrd1 hfr4 hdis
        have hrd5 := rd_from' hrd4 hjn hA6
        rw [← List.map_drop] at hrd5
        have hpcs4 := hpcs.out.fr hfr4 hdis
        have hbv : BVal w4 O (.slice (some ⟨b1, o1, none⟩) j c1) (rest.take j) := ⟨_, j, c1, rfl, hj1, by have := Rd.take hrd4 hjn; rw [← List.map_take] at this; exact this⟩
        have HA := hid (hpcs4.snoc hbv)
        have HB := hid hrd5
        have HC := hid hown4
        have HD := hid hfN
        have HE : Hid ((ls ++ [rest.take j]).flatten ++ rest.drop j = bs) := by
          have := hfl.out
          simp only [Hid, List.flatten_append, List.flatten_cons, List.flatten_nil, List.append_nil, List.append_assoc, List.take_append_drop]
          exact this
        have hln : (rest.drop j).length = rest.length - j := List.length_drop
        have HL2 := hid hln
        clear hpcs4 hbv hrd4 hrd5 hown4 hfN hfr4 hf4 hrd1 hA6 hln hdis
        go_wp2
        go_roundw
        case rel => exact ⟨k + 1, A6, c1 - j, rest.drop j, A4, c4, vs ++ [.slice (some ⟨b1, o1, none⟩) j c1], ls ++ [rest.take j], by omega, by go_num, by rw [HL2.out], by rw [HL2.out]; omega, by rw [HL2.out]; omega, by simp only [Hid]; rw [HL2.out]; exact HB.out, by simp, by simp; omega, hid (by simpa using HC.out), HA, HE, HD⟩
        case measure => simp [intOf]; omega
      · obtain rfl : rest = [] := List.eq_nil_of_length_eq_zero (by omega)
        simp only [List.length_nil] at hrc hr10 hrd hne
        clear hne hr10
        have hsz := hf.out.size
        have hbv0 : BVal wr O (.slice A1 0 c1) [] := ⟨_, _, c1, rfl, hrc, hrd.out⟩
        have hdis : ∀ b, b < wr.heap.size → O b → ¬ Ge w.heap.size b := fun b _ hb hg => by have := hO b hb; simp only [Ge] at hg; omega
        have HP := hid (hpcs.out.snoc hbv0)
        go_wp2_with (at_builtin; refine wpList_app _ rfl (.tmp 36) (.tmp 38) _ rfl 28 i0 _ 1 24 Try.underlying22 hi hz0 hz1 hz2 rfl (by omega) triv_zero (O := Ge w.heap.size) (by simp only [Ge, World.size_alloc]; omega) rfl (by simpa using (hown.out.alloc (.cells #[.slice A1 0 c1] 28))) (m := 1) rfl (rd_one _ _ _) (by simp [Value.oneCell']) (by simp only [maxLen]; omega) (by omega) ?_; intro A4 c4 w4 hown4 hf4 hc4 hA4)
        have hfN : Fr No w w4 := (hf.out.alloc _).trans_new hf4 (fun b hb => .inr (own_at_ge hown.out b hb))
        have hfr4 : Fr (Ge w.heap.size) wr w4 := ((Fr.refl _ wr).alloc _).trans (hf4.mono (T := Ge w.heap.size) (fun b _ hb => own_at_ge hown.out b hb)) (fun _ _ h => h)
        go_ret
        have hP := HP.out.fr hfr4 hdis
        have hlen : vs.length + 1 = (ls ++ [[]]).length := by rw [← hP.1, List.length_append]; rfl
        refine ⟨A4, c4, ls ++ [[]], by rw [← hlen]; rfl, ?_, by simpa using hfl.out, by rw [← hlen]; omega, by rw [← hlen]; have := hown4.le; omega, hfN⟩
        rw [← hlen]
        exact hP.rdl (O2 := Ge w.heap.size) (by simpa using hown4.rd) (fun b hb => .inl hb) (fun b hb => .inr hb)
    · obtain rfl : k = n3 := by omega
      have hsz := hf.out.size
      have hbv0 : BVal wr O (.slice A1 rest.length c1) rest := ⟨_, _, c1, rfl, hrc, hrd.out⟩
      have hdis : ∀ b, b < wr.heap.size → O b → ¬ Ge w.heap.size b := fun b _ hb hg => by have := hO b hb; simp only [Ge] at hg; omega
      have HP := hid (hpcs.out.snoc hbv0)
      go_wp2_with (at_builtin; refine wpList_app _ rfl (.tmp 36) (.tmp 38) _ rfl 28 i0 _ 1 24 Try.underlying22 hi hz0 hz1 hz2 rfl (by omega) triv_zero (O := Ge w.heap.size) (by simp only [Ge, World.size_alloc]; omega) rfl (by simpa using (hown.out.alloc (.cells #[.slice A1 rest.length c1] 28))) (m := 1) rfl (rd_one _ _ _) (by simp [Value.oneCell']) (by simp only [maxLen]; omega) (by omega) ?_; intro A4 c4 w4 hown4 hf4 hc4 hA4)
      have hfN : Fr No w w4 := (hf.out.alloc _).trans_new hf4 (fun b hb => .inr (own_at_ge hown.out b hb))
      have hfr4 : Fr (Ge w.heap.size) wr w4 := ((Fr.refl _ wr).alloc _).trans (hf4.mono (T := Ge w.heap.size) (fun b _ hb => own_at_ge hown.out b hb)) (fun _ _ h => h)
      go_ret
      have hP := HP.out.fr hfr4 hdis
      have hlen : vs.length + 1 = (ls ++ [rest]).length := by rw [← hP.1, List.length_append]; rfl
      refine ⟨A4, c4, ls ++ [rest], by rw [← hlen]; rfl, ?_, by simpa using hfl.out, by rw [← hlen]; omega, by rw [← hlen]; have := hown4.le; omega, hfN⟩
      rw [← hlen]
      exact hP.rdl (O2 := Ge w.heap.size) (by simpa using hown4.rd) (fun b hb => .inl hb) (fun b hb => .inr hb)
end Go.Proofs.Ytfkkaalchffgaaa
