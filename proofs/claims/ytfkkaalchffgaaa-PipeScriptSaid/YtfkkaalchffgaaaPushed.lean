/- The law's pushed: what a sealed channel tells of pieces, till it is broken or ended. -/
import Derived.Test.YtfkkaalchffgaaaPushW
import Derived.Test.YtfkkaalchffgaaaFeed
import Derived.Test.YtfkkaalchffgaaaAwk
import Derived.Test.YtfkkaalchffgaaaTell
import Derived.Deep.RegionHeld3
namespace Go.Ost
theorem PC.run_len : ∀ (f : Nat) (s : PC) (out : List UInt8), (PC.run f s out).1.length ≤ out.length + s.b.length
  | 0, s, out => by simp [PC.run]
  | f + 1, s, out => by
    obtain ⟨k1, k2, k3, _⟩ := s.one_keeps
    rw [PC.run_step s.one_eq f out]
    by_cases h1 : s.one.2.2.1 ≠ 0
    · rw [if_pos h1]; simp
    · rw [if_neg h1]
      by_cases h2 : s.one.2.2.2.ended = true
      · rw [if_pos h2]; simp; omega
      · rw [if_neg h2]
        by_cases h3 : s.one.2.1 = 0
        · rw [if_pos h3]; simp; omega
        · rw [if_neg h3]
          have := PC.run_len f { s.one.2.2.2 with b := s.one.2.2.2.b.drop s.one.2.1 } (out ++ s.one.1)
          simp only [List.length_append, List.length_drop, k1] at this ⊢
          omega
theorem PC.push_end (s : PC) (p : List UInt8) (hb : s.broken = false) (he : s.ended = false) :
    ((s.push p).2.1 ≠ 0 → (s.push p).2.2.broken = true ∧ (s.push p).2.2.b = [] ∧ (s.push p).2.2.ended = false) ∧
    ((s.push p).2.1 = 0 → (s.push p).2.2.broken = false ∧ (s.push p).2.2.b.length ≤ 1026) ∧ (s.push p).1.length ≤ s.b.length + p.length := by
  have ep : s.push p = PC.run (s.b.length + p.length + 1) (s.more p) [] := by unfold PC.push; rw [if_neg (by simp [hb, he])]; rfl
  have hlen : (s.more p).b.length < s.b.length + p.length + 1 := by simp only [PC.more, List.length_append]; omega
  have h1 := PC.run_end (s.b.length + p.length + 1) (s.more p) [] hlen hb he
  have h2 := PC.run_len (s.b.length + p.length + 1) (s.more p) []
  rw [ep]
  refine ⟨h1.1, fun h => ⟨(h1.2 h).1, (h1.2 h).2.1⟩, ?_⟩
  simp only [PC.more, List.length_append, List.length_nil] at h2 ⊢
  omega
end Go.Ost
namespace Go.Proofs.Ytfkkaalchffgaaa
open Go.RowKit Go.Ost

/-- What pushed hands back. -/
def PushedR (w : World) (r : List UInt8 × Int × PC) (e : Ending) (w' : World) : Prop :=
  ∃ A c, e = .returned (.tuple #[.slice A r.1.length c, .int .i64 r.2.1, .bool (if r.2.1 = 0 then r.2.2.ended else false), .bool true]) ∧ r.1.length ≤ c ∧ RdB w' (Ge w.heap.size) A r.1.length r.1 ∧ Fr No w w'

theorem sn_Push (a : Addr) (w : World) : (nilAhead 204 54 (.pointer (some a)) "Push").run Try.prog w = .ok (some false) w := by kernel_rfl

set_option maxRecDepth 100000 in
set_option maxHeartbeats 4000000 in
theorem pushed_any {w : World} {O : Nat → Prop} {A : Option Addr} {c : Nat} {ls : List (List UInt8)} (h : RdL w O A ls.length ls) (hO : ∀ b, O b → b < w.heap.size) (h61 : ls.length ≤ 61) (hfl : ls.flatten.length ≤ 10000) :
    Calls Try.prog 10 #[.slice A ls.length c] w (PushedR w (PC.feed pc0 [] ls)) := by
  obtain ⟨i0, hi, hz0, hz1, hz2⟩ := info_parts info_u8
  have H := hid h
  have HFL := hid hfl
  clear h hfl
  obtain ⟨R, hR⟩ : ∃ R, R = PC.feed pc0 [] ls := ⟨_, rfl⟩
  rw [← hR]
  have HR := hid hR
  clear hR
  generalize hn : ls.length = n at h61 H
  have HN := hid hn
  clear hn
  go_enter Try.func10, Try.ntmps10
  go_wp2_with fail
  refine (sealed_new w).mono ?_
  rintro e w1 ⟨rfl, hS, hf1⟩
  have hl1 : w.heap.size < w1.heap.size := hS.1 _ rfl
  have m1 := sm_Push ⟨w.heap.size, 0, none⟩
  have m2 := sm_Left ⟨w.heap.size, 0, none⟩
  have m3 := sm_Ended ⟨w.heap.size, 0, none⟩
  have m4 := sm_Broken ⟨w.heap.size, 0, none⟩
  have n1 := sn_Push ⟨w.heap.size, 0, none⟩
  have HF1 := hid hf1
  have HS := hid hS
  clear hf1 hS
  obtain ⟨a, ha⟩ : ∃ a, a = w.heap.size := ⟨_, rfl⟩
  rw [← ha] at m1 m2 m3 m4 n1 hl1 HS
  rw [← ha]
  have HA := hid ha
  clear ha
  go_wp2
  go_loopw [7, 8] (fun s i wr => ∃ (k : Nat) (st : PC) (out : List UInt8) (A2 : Option Addr) (c2 : Nat) (O1 : Nat → Prop), k ≤ n ∧ i = .int .i64 k ∧ s = .slice A2 out.length c2 ∧ Hid (Ost.Own wr (fun b => a < b ∧ ¬ O1 b) 5 Byte A2 out.length c2 (out.map bv)) ∧ c2 ≤ maxLen ∧
    Hid (SWin wr O1 a st) ∧ Hid (∀ b, O1 b → a ≤ b) ∧ Hid (R = PC.feed st out (ls.drop k)) ∧ Hid (st.broken = false) ∧ Hid (st.b.length ≤ 1026) ∧ Hid (Fr No w wr) ∧ Hid (out.length ≤ k * 12000)) (fun _ i _ => n - (intOf i).toNat)
  case atStart => exact ⟨0, pc0, [], none, 0, fun b => b = a, Nat.zero_le _, rfl, rfl, Ost.Own.nil _ _ _ _, Nat.zero_le _, HS, fun b hb => Nat.le_of_eq hb.symm, by simpa [Hid] using HR.out, rfl, Nat.zero_le _, HF1.out, Nat.zero_le _⟩
  case round =>
    clear HS HF1 HR
    obtain ⟨k, st, out, A2, c2, O1, hk, rfl, rfl, hown, hc2, hS, hO1, hR, hbk, hb26, hf, hol⟩ := hrel
    have ended_end : ∀ (l : List (List UInt8)), Hid (st.ended = true ∨ l = [] → PC.feed st out l = (out, 0, st)) := fun l h => by
      rcases h with h | h
      · exact PC.feed_ended _ _ _ h
      · subst h; rfl
    by_cases hlt : k < n
    · cases he : st.ended with
      | true =>
        have hE := ended_any hS.out
        rw [he] at hE
        have hRv := hR.out.trans ((ended_end (ls.drop k)).out (.inl he))
        have HRV := hid hRv
        clear hRv ended_end
        have HE := hid he
        clear he
        go_wp2_with fail
        refine hE.mono ?_
        rintro e w' ⟨rfl, rfl⟩
        go_wp2_with fail
        refine hE.mono ?_
        rintro e w' ⟨rfl, rfl⟩
        go_wp2_with fail
        refine bodyPost_ret (v := .tuple #[.slice A2 out.length c2, .int .i64 0, .bool true, .bool true]) (by simp [results, Try.results10, go_sem]) rfl ?_
        refine ⟨A2, c2, by rw [HRV.out]; simp [HE.out], ?_, ?_, hf.out⟩
        · rw [HRV.out]; exact hown.out.le
        · rw [HRV.out]; exact (hown.out.rd).mono fun b _ hb => by have := HA.out; simp only [Ge]; omega
      | false =>
        clear ended_end
        obtain ⟨vs, hvs, hvl, hve⟩ := H.out
        obtain ⟨b, o, v, rfl, hbO, hv, hcell⟩ := hvs.at_ hlt
        have hlk : k < ls.length := by have := HN.out; omega
        obtain ⟨B, m, d, rfl, hmd, hrp⟩ := hve k v ls[k] hv (List.getElem?_eq_getElem hlk)
        have hdrop : ls.drop k = ls[k] :: ls.drop (k + 1) := List.drop_eq_getElem_cons hlk
        have hp10 : ls[k].length ≤ 10000 := by
          have h1 := flat_step (List.getElem?_eq_getElem hlk)
          have h2 := flat_le ls (k + 1)
          rw [h1, List.length_append] at h2
          have := HFL.out
          omega
        have hRv := hR.out
        rw [hdrop] at hRv
        generalize ls[k] = p at hrp hRv hp10
        clear hvs hvl hve hv hdrop hlk
        simp only [PC.feed, he, Bool.false_eq_true, if_false] at hRv
        obtain ⟨q1, q2, q3⟩ := st.push_end p hbk.out he
        have hpm : p.length = m := by simpa using hrp.1
        subst hpm
        have hO0 : ∀ y, O y → y < a := fun y hy => by have := hO y hy; have := HA.out; omega
        replace hcell : wr.cell? ⟨b, o + k, none⟩ = some (.slice B p.length d) := hf.out.cell (p := ⟨b, o + k, none⟩) (fun h => h) hcell
        have hrp' : RdB wr O B p.length p := Rd.fr hrp hf.out (fun _ _ _ h => h)
        have hb0 : b < a := hO0 b hbO
        have hb26' := hb26.out
        have hpush := push_any (w := wr.drew) (c := d) hS.out hrp' hmd (by omega)
        have hE := ended_any hS.out
        rw [he] at hE
        generalize st.push p = r at hpush hRv q1 q2 q3
        obtain ⟨x, er, s2⟩ := r
        simp only at hRv q1 q2 q3
        have HRV := hid hRv
        have HQ1 := hid q1
        have HQ2 := hid q2
        have hol' := hol.out
        clear hRv q1 q2 hrp he hb26' hol hR
        go_wp2_with fail
        refine hE.mono ?_
        rintro e w' ⟨rfl, rfl⟩
        go_wp2_with fail
        go_region_held3 (fun w' => w'.cell? ⟨b, o + k, none⟩ = some (.slice B p.length d)) (first | assumption | exact k3)
          ((go_at_call 53; refine hpush.mono ?_; rintro e w3 ⟨A3, c3, O3, rfl, hown3, hc3, hS3, hO3, hf3⟩; have k3 := hf3.cell (p := ⟨b, o + k, none⟩) (by show ¬ (b = a); omega) hcell))
        have hf3' : Fr (· = a) wr w3 := Fr.of_drew hf3
        have hgr := hf3'.size
        replace hO3 : ∀ y, O3 y → O1 y ∨ wr.heap.size ≤ y := fun y hy => by simpa using hO3 y hy
        have hown' : Ost.Own w3 (fun y => a < y ∧ ¬ O3 y) 5 Byte A2 out.length c2 (out.map bv) := (hown.out.mono (O' := fun y => a < y ∧ ¬ O3 y) (fun y hy ⟨h1, h2⟩ => ⟨h1, fun h3 => by rcases hO3 y h3 with h4 | h4; exact h2 h4; omega⟩)).fr hf3' (fun y _ hy e => by omega)
        have ha3 : a < w3.heap.size := hS3.1 _ hS3.2.1
        have hOw3 : a < w3.heap.size ∧ ¬ O3 w3.heap.size := ⟨ha3, fun h => by have := hS3.1 _ h; omega⟩
        have hol2 : out.length ≤ 732000 := Nat.le_trans hol' (by omega)
        have hx2 : x.length ≤ 12000 := by have := hb26.out; omega
        go_wp2_with (at_builtin; refine wpList_app _ rfl (.tmp 37) (.tmp 38) _ rfl 5 i0 _ 1 1 Try.underlying28 hi hz0 hz1 hz2 rfl (by omega) byte_zero (O := fun y => a < y ∧ ¬ O3 y) hOw3 rfl (by simpa using hown') (m := x.length) rfl (by rw [Nat.mul_one]; exact hown3.rd) (bv_all _) (by simp only [maxLen]; omega) (by omega) ?_; intro A4 c4 w4 hown4 hf4 hc4 hA4)
        have hS4 := hS3.fr hf4 (fun y hy hat => (hown'.at_ y hat).2 hy)
        have hbr := broken_any hS4
        have hlf := left_any hS4
        have hxs : Hid (Ost.Own w4 (fun y => a < y ∧ ¬ O3 y) 5 Byte A4 (out ++ x).length c4 ((out ++ x).map bv)) := hid (by rw [List.length_append, List.map_append]; simpa using hown4)
        have hF4 : Hid (Fr No w w4) := (hf.out.trans hf3' (fun y hy e => by have := HA.out; omega)).trans_new hf4 (fun y hy => .inr (by have := (hown'.at_ y hy).1; have := HA.out; omega))
        have hO4 : Hid (∀ y, O3 y → a ≤ y) := fun y hy => by rcases hO3 y hy with h | h; exact hO1.out y h; have := HA.out; have := hf.out.size; omega
        have hlen4 : (out ++ x).length = out.length + x.length := List.length_append
        have HL4 := hid hlen4
        have hC4 : Hid (c4 ≤ maxLen) := hc4 hc2
        have HS4 := hid hS4
        clear hown4 hf4 hc4 hA4 hS3 hS4 hown' hf3' hO3 hown3 hf3 k3 hlen4
        by_cases her : er = 0
        · subst her
          obtain ⟨hb1, hb2⟩ := HQ2.out rfl
          rw [hb1] at hbr
          have HB1 := hid hb1
          have hRv : R = PC.feed s2 (out ++ x) (ls.drop (k + 1)) := by have := HRV.out; simpa using this
          have HRV2 := hid hRv
          clear hb1 hRv HRV
          go_wp2_with fail
          refine hlf.mono ?_
          rintro e w' ⟨rfl, rfl⟩
          go_wp2_with fail
          refine hbr.mono ?_
          rintro e w' ⟨rfl, rfl⟩
          go_wp2
          go_roundw
          case rel => exact ⟨k + 1, s2, out ++ x, A4, c4, O3, by omega, by go_num, by rw [HL4.out], hxs, hC4.out, HS4, hO4, HRV2, HB1, hb2, hF4, by simp only [Hid]; rw [HL4.out]; omega⟩
          case measure => simp [intOf]; omega
        · obtain ⟨hb1, hb2, _⟩ := HQ1.out her
          rw [hb1] at hbr
          have hbl : s2.b.length ≤ 1026 := by rw [hb2]; simp
          have hRv : R = (out ++ x, er, s2) := by have := HRV.out; rw [if_pos her] at this; exact this
          have HRV2 := hid hRv
          have e1 : (er == 0) = false := by simpa using her
          have e2 : (er != 0) = true := by simpa using her
          have HER := hid her
          clear hb1 hb2 hRv HRV her
          go_wp2_with fail
          refine hlf.mono ?_
          rintro e w' ⟨rfl, rfl⟩
          go_wp2_with fail
          refine hbr.mono ?_
          rintro e w' ⟨rfl, rfl⟩
          go_wp2
          refine bodyPost_ret (v := .tuple #[.slice A4 (out.length + x.length) c4, .int .i64 er, .bool false, .bool true]) (by simp [results, Try.results10, go_sem]) rfl ?_
          refine ⟨A4, c4, by rw [HRV2.out]; simp [HER.out], ?_, ?_, hF4.out⟩
          · rw [HRV2.out]; exact hxs.out.le
          · rw [HRV2.out]; exact (hxs.out.rd).mono fun b _ hb => by have := HA.out; simp only [Ge]; omega
    · obtain rfl : k = n := by omega
      have hE := ended_any hS.out
      have hRv := hR.out.trans ((ended_end (ls.drop k)).out (.inr (List.drop_of_length_le (by have := HN.out; omega))))
      have HRV := hid hRv
      clear hRv ended_end
      go_wp2_with fail
      refine hE.mono ?_
      rintro e w' ⟨rfl, rfl⟩
      go_wp2_with fail
      refine bodyPost_ret (v := .tuple #[.slice A2 out.length c2, .int .i64 0, .bool st.ended, .bool true]) (by simp [results, Try.results10, go_sem]) rfl ?_
      refine ⟨A2, c2, by rw [HRV.out]; simp, ?_, ?_, hf.out⟩
      · rw [HRV.out]; exact hown.out.le
      · rw [HRV.out]; exact (hown.out.rd).mono fun b _ hb => by have := HA.out; simp only [Ge]; omega
end Go.Proofs.Ytfkkaalchffgaaa
