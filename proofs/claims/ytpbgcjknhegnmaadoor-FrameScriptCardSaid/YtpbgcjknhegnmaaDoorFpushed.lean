/- The law's pushed: what a reader tells of pieces, till it is broken. -/
import Derived.Test.YtpbgcjknhegnmaaDoorFfeed
import Derived.Test.YtpbgcjknhegnmaaDoorFawk
import Derived.Test.YtpbgcjknhegnmaaDoorCut
namespace Go.Proofs.YtpbgcjknhegnmaaDoor
open Go.RowKit Go.Ost

theorem Msgs.pcs {w : World} {E : Nat → Prop} {vs : List Value} {ls : List (List UInt8)} (h : Msgs w E vs ls) : Pcs w (Blks vs) vs ls :=
  ⟨h.1, fun i v l hv hl => by
    obtain ⟨A, c, rfl, ho, _⟩ := h.2.1 i v l hv hl
    exact ⟨A, _, c, rfl, ho.le, Rd.mono (own_and ho).rd fun y _ hy => ⟨A, _, c, List.mem_of_getElem? hv, hy.2⟩⟩⟩
theorem Pcs.mono {w : World} {O O2 : Nat → Prop} {vs : List Value} {ls : List (List UInt8)} (h : Pcs w O vs ls) (hO : ∀ y, O y → O2 y) : Pcs w O2 vs ls :=
  ⟨h.1, fun i v l hv hl => (h.2 i v l hv hl).mono fun y _ hy => hO y hy⟩
theorem Pcs.app {w : World} {O : Nat → Prop} {vs vs2 : List Value} {ls ls2 : List (List UInt8)} (h : Pcs w O vs ls) (h2 : Pcs w O vs2 ls2) : Pcs w O (vs ++ vs2) (ls ++ ls2) := by
  refine ⟨by simp [h.1, h2.1], fun i v l hv hl => ?_⟩
  rcases Nat.lt_or_ge i vs.length with hi | hi
  · rw [List.getElem?_append_left hi] at hv
    rw [List.getElem?_append_left (by rw [← h.1]; exact hi)] at hl
    exact h.2 i v l hv hl
  · rw [List.getElem?_append_right hi] at hv
    rw [List.getElem?_append_right (by rw [← h.1]; exact hi), ← h.1] at hl
    exact h2.2 _ v l hv hl
theorem own_self {w : World} {O : Nat → Prop} {e : TypeId} {T : Value → Prop} {A : Option Addr} {n c : Nat} {vs : List Value} (h : Ost.Own w O e T A n c vs) : Ost.Own w (At A) e T A n c vs :=
  (own_and h).mono fun _ _ hy => hy.2
theorem one_all {w : World} {E : Nat → Prop} {vs : List Value} {ls : List (List UInt8)} (h : Msgs w E vs ls) : ∀ u ∈ vs, u.oneCell' = true := by
  intro u hu
  obtain ⟨i, hi⟩ := List.mem_iff_getElem?.1 hu
  have hil : i < ls.length := by rw [← h.1]; exact (List.getElem?_eq_some_iff.1 hi).1
  obtain ⟨A, c, rfl, _⟩ := h.2.1 i u _ hi (List.getElem?_eq_getElem hil)
  rfl

/-- What pushed hands back. -/
def FPushedR (w : World) (r : List (List UInt8) × Int) (e : Ending) (w' : World) : Prop :=
  ∃ A c, e = .returned (.tuple #[.slice A r.1.length c, .int .i64 r.2, .bool true]) ∧ r.1.length ≤ 10000000 ∧ RdL w' (fun y => w.heap.size ≤ y) A r.1.length r.1 ∧ Fr No w w'

set_option maxRecDepth 100000 in
set_option maxHeartbeats 8000000 in
theorem fpushed_any {w : World} {O : Nat → Prop} {most : Int} {A : Option Addr} {c : Nat} {ls : List (List UInt8)} (hm1 : 12 ≤ most) (hm2 : most ≤ 65535) (h : RdL w O A ls.length ls) (hO : ∀ b, O b → b < w.heap.size) (h61 : ls.length ≤ 61) (hl20 : ∀ p ∈ ls, p.length ≤ 20000) :
    Calls Tryd.prog 16 #[.int .i64 most, .slice A ls.length c] w (FPushedR w (FC.feed ⟨most, false, 0, []⟩ [] ls)) := by
  obtain ⟨i0, hi, hz0, hz1, hz2⟩ := info_parts info_bs
  have H := hid h
  have HL20 := hid hl20
  clear h hl20
  obtain ⟨R, hR⟩ : ∃ R, R = FC.feed ⟨most, false, 0, []⟩ [] ls := ⟨_, rfl⟩
  rw [← hR]
  have HR := hid hR
  clear hR
  generalize hn : ls.length = n at h61 H
  have HN := hid hn
  clear hn
  go_enter Tryd.func16, Tryd.ntmps16
  go_wp2_with fail
  refine (fnew_ok w hm1 hm2).mono ?_
  rintro e w1 ⟨rfl, hS, hf1⟩
  have hpe := ptr_ne ⟨w.heap.size, 0, none⟩
  have hl1 := hS.mem.2 _ hS.mem.1
  have HF1 := hid hf1
  have HS := hid hS
  clear hf1 hS
  obtain ⟨a, ha⟩ : ∃ a, a = w.heap.size := ⟨_, rfl⟩
  rw [← ha] at hpe hl1 HS
  rw [← ha]
  have HA := hid ha
  clear ha
  go_wp2
  go_loopw [9, 10] (fun s i wr => ∃ (k : Nat) (st : FC) (out : List (List UInt8)) (vs : List Value) (A2 : Option Addr) (c2 : Nat) (O1 E : Nat → Prop), k ≤ n ∧ i = .int .i64 k ∧ s = .slice A2 vs.length c2 ∧ Hid (Ost.Own wr (At A2) 22 (fun _ => True) A2 vs.length c2 vs) ∧
    Hid (Pcs wr E vs out) ∧ Hid (∀ y, At A2 y → a ≤ y ∧ ¬ O1 y) ∧ Hid (∀ y, E y → a ≤ y ∧ ¬ O1 y ∧ ¬ At A2 y ∧ y < wr.heap.size) ∧ Hid (FR wr O1 a st) ∧ Hid (∀ b, O1 b → a ≤ b) ∧ Hid (R = FC.feed st out (ls.drop k)) ∧ Hid (st.broken = false ∧ st.err = 0 ∧ st.most = most) ∧ Hid ((st.b.length : Int) ≤ most + 1) ∧ Hid (Fr No w wr) ∧ vs.length ≤ k * 90000) (fun _ i _ => n - (intOf i).toNat)
  case atStart => exact ⟨0, ⟨most, false, 0, []⟩, [], [], none, 0, fun b => b = a, fun _ => False, Nat.zero_le _, rfl, rfl, Ost.Own.nil _ _ _ _, ⟨rfl, fun i v l hv => by simp at hv⟩, (fun y ⟨_, e⟩ => by cases e), fun _ h => h.elim, HS, fun b hb => Nat.le_of_eq hb.symm, by simpa [Hid] using HR.out, ⟨rfl, rfl, rfl⟩, by simp [Hid]; omega, HF1.out, Nat.zero_le _⟩
  case round =>
    clear HS HF1 HR
    obtain ⟨k, st, out, vs, A2, c2, O1, E, hk, rfl, rfl, hown, hpcs, hA2, hE, hS, hO1, hR, hst, hbl, hf, hvl⟩ := hrel
    by_cases hlt : k < n
    · obtain ⟨us, hus, hul, hue⟩ := H.out
      obtain ⟨b, o, v, rfl, hbO, hv, hcell⟩ := hus.at_ hlt
      have hlk : k < ls.length := by have := HN.out; omega
      obtain ⟨B, m, d, rfl, hmd, hrp⟩ := hue k v ls[k] hv (List.getElem?_eq_getElem hlk)
      have hdrop : ls.drop k = ls[k] :: ls.drop (k + 1) := List.drop_eq_getElem_cons hlk
      have hp10 := HL20.out _ (List.getElem_mem hlk)
      have hRv := hR.out
      rw [hdrop] at hRv
      generalize ls[k] = p at hrp hRv hp10
      clear hus hul hue hv hdrop hlk
      obtain ⟨hb1, hb2, hb3⟩ := hst.out
      obtain ⟨q1, q2, q3⟩ := st.push_end p hb1 hb2 (by rw [hb3]; exact hm1)
      have q4 := st.push_len p hb1
      have hpm : p.length = m := by simpa using hrp.1
      subst hpm
      have hO0 : ∀ y, O y → y < a := fun y hy => by have := hO y hy; have := HA.out; omega
      replace hcell : wr.cell? ⟨b, o + k, none⟩ = some (.slice B p.length d) := hf.out.cell (p := ⟨b, o + k, none⟩) (fun h => h) hcell
      have hrp' : RdB wr O B p.length p := Rd.fr hrp hf.out (fun _ _ _ h => h)
      have hbl' := hbl.out
      have hpush := fpush_any (d := d) hS.out (by rw [hb3]; omega) hrp' (fun y hy h => by have := hO0 y hy; have := hO1.out y h; omega) (by omega)
      simp only [FC.feed] at hRv
      generalize st.push p = r at hpush hRv q1 q2 q3 q4
      obtain ⟨x, er, s2⟩ := r
      simp only at hRv q1 q2 q3 q4
      rw [hb3] at q1 q2
      have HRV := hid hRv
      have HQ1 := hid q1
      have HQ3 := hid q3
      have hxl : x.length ≤ 90000 := by omega
      clear hRv q1 q3 hrp hR hb1 hb2 hb3 hst
      go_wp2_with fail
      refine hpush.mono ?_
      rintro e w3 ⟨A3, c3, vs3, O3, rfl, hown3, hms3, -, hc3, hS3, hO3, hf3⟩
      simp only at hown3 hms3 hS3
      have hgr := hf3.size
      have hwrs := hf.out.size
      have haw := HA.out
      have hxv : vs3.length = x.length := hms3.1
      have hown' : Ost.Own w3 (fun y => At A2 y ∨ w3.heap.size ≤ y) 22 (fun _ => True) A2 (vs.length * 1) (c2 * 1) vs := by
        rw [Nat.mul_one, Nat.mul_one]
        exact (hown.out.fr hf3 (fun y _ hy h => (hA2.out y hy).2 h)).mono fun y _ hy => .inl hy
      have hvl2 : vs.length ≤ 5490000 := Nat.le_trans hvl (by omega)
      have hms1 := one_all hms3
      have hlvs : Hid (∀ y, At A2 y → y < wr.heap.size) := fun y hy => own_lt hown.out y hy
      have HX := hid hxv
      have HAW := hid haw
      clear hxv haw
      go_wp2_with (at_builtin; go_must (refine wpList_app _ rfl (.tmp 40) (.tmp 41) _ rfl 22 i0 _ 1 24 Tryd.underlying31 hi hz0 hz1 hz2 rfl (by omega) triv_zero (O := fun y => At A2 y ∨ w3.heap.size ≤ y) (.inr (Nat.le_refl _)) rfl hown' (m := x.length) rfl (by rw [Nat.mul_one]; exact hown3.rd) hms1 (by simp only [maxLen]; omega) (by omega) ?_; intro A4 c4 w4 hown4 hf4 hc4 hA4))
      have h3n : ∀ y, O3 y → y < w3.heap.size := hS3.mem.2
      have hA2n : ∀ y, At A2 y → ¬ O3 y := fun y hy h => by
        have := hlvs.out y hy
        rcases hO3 y h with h | h
        · exact (hA2.out y hy).2 h
        · omega
      have hEn : ∀ y, E y → ¬ O3 y := fun y hy h => by
        obtain ⟨_, e2, _, e4⟩ := hE.out y hy
        rcases hO3 y h with h | h
        · exact e2 h
        · omega
      have hBl : ∀ y, Blks vs3 y → wr.heap.size ≤ y ∧ ¬ O3 y ∧ y < w3.heap.size := fun y hy => ⟨(hms3.blk hy).1.1, (hms3.blk hy).1.2, (hms3.blk hy).2⟩
      have hS4 := hS3.fr hf4 (fun y hy h => hA2n y h hy)
      have hlf := fleft_any hS4 (by rw [HQ1.out]; omega)
      have P4 : Hid (Pcs w4 (fun y => E y ∨ Blks vs3 y) (vs ++ vs3) (out ++ x)) :=
        (((hpcs.out.fr hf3 (fun y _ hy => (hE.out y hy).2.1)).fr hf4 (fun y _ hy => (hE.out y hy).2.2.1)).mono fun y hy => .inl hy).app ((hms3.pcs.fr hf4 (fun y _ hy h => by have := (hBl y hy).1; have := hlvs.out y h; omega)).mono fun y hy => .inr hy)
      have hA4' : Hid (∀ y, At A4 y → a ≤ y ∧ ¬ O3 y) := fun y hy => by
        rcases hA4 y hy with h | h
        · exact ⟨(hA2.out y h).1, hA2n y h⟩
        · exact ⟨by have := HAW.out; omega, fun h2 => by have := h3n y h2; omega⟩
      have hE4 : Hid (∀ y, (E y ∨ Blks vs3 y) → a ≤ y ∧ ¬ O3 y ∧ ¬ At A4 y ∧ y < w4.heap.size) := fun y hy => by
        have hz4 := hf4.size
        rcases hy with hy | hy
        · obtain ⟨e1, e2, e3, e4⟩ := hE.out y hy
          refine ⟨e1, hEn y hy, fun h => ?_, by omega⟩
          rcases hA4 y h with h | h
          · exact e3 h
          · omega
        · obtain ⟨e1, e2, e3⟩ := hBl y hy
          refine ⟨by have := HAW.out; omega, e2, fun h => ?_, by omega⟩
          rcases hA4 y h with h | h
          · have := hlvs.out y h; omega
          · omega
      have hO4 : Hid (∀ y, O3 y → a ≤ y) := fun y hy => by rcases hO3 y hy with h | h; exact hO1.out y h; have := HAW.out; omega
      have hF4 : Hid (Fr No w w4) := (hf.out.trans_new hf3 (fun y hy => .inr (by have := hO1.out y hy; have := HAW.out; omega))).trans_new hf4 (fun y hy => .inr (by have := (hA2.out y hy).1; have := HAW.out; omega))
      have hO4w : Hid (Ost.Own w4 (At A4) 22 (fun _ => True) A4 (vs.length + x.length) c4 (vs ++ vs3)) := hid (own_self (by simpa using hown4))
      have HS4 := hid hS4
      have hlen4 : (vs ++ vs3).length = vs.length + x.length := by rw [List.length_append, HX.out]
      have HL4 := hid hlen4
      clear hown4 hf4 hc4 hA4 hS3 hS4 hown' hf3 hown3 hms3 hms1 hlen4 h3n hA2n hEn hBl hO3 hpush
      by_cases her : er = 0
      · subst her
        have hRv : R = FC.feed s2 (out ++ x) (ls.drop (k + 1)) := by have := HRV.out; simpa using this
        have HRV2 := hid hRv
        clear hRv HRV
        go_wp2_with fail
        refine hlf.mono ?_
        rintro e w' ⟨rfl, k2, rfl⟩
        go_wp2
        go_roundw
        case rel => exact ⟨k + 1, s2, out ++ x, vs ++ vs3, A4, c4, O3, fun y => E y ∨ Blks vs3 y, by omega, by go_num, by rw [HL4.out], by simp only [Hid]; rw [HL4.out]; exact hO4w.out, P4, hA4', hE4, HS4, hO4, HRV2, ⟨(HQ3.out trivial).1, (HQ3.out trivial).2, HQ1.out⟩, q2, hid (hF4.out.drewN k2), by rw [HL4.out]; omega⟩
        case measure => simp [intOf]; omega
      · have hRv : R = (out ++ x, er) := by have := HRV.out; rw [if_pos her] at this; exact this
        have HRV2 := hid hRv
        have e1 : (er == 0) = false := by simpa using her
        have e2 : (er != 0) = true := by simpa using her
        have hlo : (out ++ x).length = vs.length + x.length := by rw [← P4.out.1, HL4.out]
        have HLO := hid hlo
        clear hRv HRV her hlo
        go_wp2_with fail
        refine hlf.mono ?_
        rintro e w' ⟨rfl, k2, rfl⟩
        go_wp2
        go_ret3
        refine ⟨A4, c4, by rw [HRV2.out]; simp only; rw [HLO.out]; rfl, ?_, ?_, hF4.out.drewN _⟩
        · rw [HRV2.out]; show (out ++ x).length ≤ 10000000; rw [HLO.out]; omega
        · rw [HRV2.out]
          show RdL _ _ A4 (out ++ x).length (out ++ x)
          rw [HLO.out]
          exact P4.out.rdl (w := w4) hO4w.out.rd (fun y hy => by have := hE4.out y hy; have := HA.out; omega) (fun y hy => by have := hA4'.out y hy; have := HA.out; omega)
    · obtain rfl : k = n := by omega
      have hRv := hR.out
      rw [List.drop_of_length_le (by have := HN.out; omega)] at hRv
      have hRv2 : R = (out, 0) := hRv
      have HRV := hid hRv2
      have hlo : vs.length = out.length := hpcs.out.1
      have HLO := hid hlo
      clear hRv hRv2 hR hlo
      go_wp2
      go_ret3
      refine ⟨A2, c2, by rw [HRV.out, HLO.out]; rfl, ?_, ?_, hf.out⟩
      · rw [HRV.out]; show out.length ≤ 10000000; rw [← HLO.out]; omega
      · rw [HRV.out]
        show RdL wr _ A2 out.length out
        rw [← HLO.out]
        exact hpcs.out.rdl hown.out.rd (fun y hy => by have := hE.out y hy; have := HA.out; omega) (fun y hy => by have := hA2.out y hy; have := HA.out; omega)
end Go.Proofs.YtpbgcjknhegnmaaDoor
