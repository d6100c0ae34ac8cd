/- The reference's Send (a channel that seals). -/
import Derived.Test.YtfkkaalchffgaaaRsend
import Derived.Test.YtfkkaalchffgaaaPushW
namespace Go.Proofs.Ytfkkaalchffgaaa
open Go.RowKit Go.Ost

theorem slice_to {A : Option Addr} {n c h : Nat} (hh : h ≤ c) : ∃ A', (∀ w, (Instr.slice 28 (.slice A n c) none (some (.int .i64 (h : Int))) none).run Try.prog w = .ok (.slice A' h c) w) ∧ (0 < h → A' = A.map (·.add (0 * 1))) := by
  have hs : ∀ w, (sizeOf (Try.prog.elem 28)).run Try.prog w = .ok 1 w := fun w => by kernel_rfl
  have hr := fun w => run_slice_h (P := Try.prog) (w := w) 28 A n c Try.underlying28 .i64 (h : Int) (by omega) (by omega)
  refine ⟨(match sliced A 0 h c 1 with | .slice A' _ _ => A' | _ => none), fun w => ?_, fun hlt => ?_⟩
  · rw [hr w, hs w]
    simp only [Result.andThen, Int.toNat_natCast]
    unfold sliced
    split <;> simp
  · unfold sliced
    have hne : c ≠ 0 := by omega
    split <;> simp_all
theorem rd_to {w : World} {O : Nat → Prop} {A A' : Option Addr} {n h : Nat} {vs : List Value} (hr : Rd w O A n vs) (hh : h ≤ n) (hA : 0 < h → A' = A.map (·.add (0 * 1))) : Rd w O A' h (vs.take h) := by
  refine ⟨by rw [List.length_take, hr.1]; omega, fun hn => ?_⟩
  obtain ⟨b, o, rfl, hb, hc⟩ := hr.2 (by omega)
  refine ⟨b, o, ?_, hb, fun j v hv => ?_⟩
  · rw [hA hn, Option.map_some, Nat.zero_mul, add_lit_none, Nat.add_zero]
  · rw [List.getElem?_take] at hv
    split at hv
    · exact hc _ v hv
    · cases hv

theorem rd_pre {w : World} {O : Nat → Prop} {A : Option Addr} {n h : Nat} {vs : List Value} (hr : Rd w O A n vs) (hh : h ≤ n) : Rd w O A h (vs.take h) := by
  refine ⟨by rw [List.length_take, hr.1]; omega, fun hn => ?_⟩
  obtain ⟨b, o, e, hb, hc⟩ := hr.2 (by omega)
  refine ⟨b, o, e, hb, fun j v hv => ?_⟩
  rw [List.getElem?_take] at hv
  split at hv
  · exact hc _ v hv
  · cases hv

section
variable {w : World} {O : Nat → Prop} {a : Nat} {s : PC}
set_option maxHeartbeats 1600000 in
theorem rsend_nil {A : Option Addr} {n c : Nat} {bs : List UInt8} (h : RWin w O a true s) (hl : bs.length = n) (hd : s.shut = true ∨ n = 0) :
    Calls Try.prog 24 #[.pointer (some ⟨a, 0, none⟩), .slice A n c] w (RPutR w O a true (s.send bs).1 (s.send bs).2) := by
  have e : s.send bs = ([], s) := by
    unfold PC.send
    rw [if_pos]
    rcases hd with hd | hd
    · exact .inl hd
    · exact .inr (List.eq_nil_of_length_eq_zero (by omega))
  rw [e]
  have h' := h
  obtain ⟨h0, ha, A1, c1, hB, hc1, hc2, hr1⟩ := h'
  have c6 := hB.cell 6
  have hlt := hB.lt
  simp at c6
  clear hl e
  rcases Nat.eq_zero_or_pos n with hn | hn
  · subst hn
    go_enter Try.func24, Try.ntmps24
    go_wp2
    go_ret
    exact rputR_nil h
  · have hs : s.shut = true := by rcases hd with hd | hd; exact hd; omega
    rw [hs] at c6
    have hnz : decide ((n : Int) = 0) = false := by simp; omega
    go_enter Try.func24, Try.ntmps24
    go_wp2
    go_ret
    exact rputR_nil h

set_option maxRecDepth 100000 in
set_option maxHeartbeats 4000000 in
theorem rsend_go {O3 : Nat → Prop} {B : Option Addr} {n d : Nat} {bs : List UInt8} (h : RWin w O a true s) (hs : s.shut = false) (hr : RdB w O3 B n bs) (hO3 : ∀ y, O3 y → y ≠ a ∧ y < w.heap.size) (hnc : n ≤ d) (hlen : n ≤ 9000) (hne : 0 < n) :
    Calls Try.prog 24 #[.pointer (some ⟨a, 0, none⟩), .slice B n d] w (RPutR w O a true (gone s (parts bs (many bs))) { s with greeted := true }) := by
  obtain ⟨i0, hi, hz0, hz1, hz2⟩ := info_parts info_u8
  have h' := h
  obtain ⟨h0, ha, A1, c1, hB, hc1, hc2, hr1⟩ := h'
  have c0 := hB.cell 0
  have c6 := hB.cell 6
  have hlt := hB.lt
  simp [hs] at c0 c6
  have hbl : bs.length = n := by simpa using hr.1
  have HBL := hid hbl
  have HR := hid hr
  have hnz : decide ((n : Int) = 0) = false := by simp; omega
  have hello := rhello_any h
  clear hbl hr hB hr1
  go_enter Try.func24, Try.ntmps24
  go_wp2_with fail
  refine hello.mono ?_
  rintro e w1 ⟨A2, c2, rfl, hown2, hc22, hS1, hf1⟩
  have gl : s.greet.length ≤ 4 := by simp only [PC.greet]; split <;> simp
  have HS := hid hS1
  have HF := hid hf1
  have HO2 := hid hown2
  have hsz1 := hf1.size
  have HR1 : Hid (RdB w1 O3 B n bs) := Rd.fr HR.out hf1 (fun y _ hy h => (hO3 y hy).1 h)
  clear hS1 hf1 hown2 hello c0 c6 hlt
  go_wp2
  go_loopw [1, 5] (fun pv ov wr => ∃ (j l m dm : Nat) (A3 : Option Addr) (c3 : Nat) (B1 : Option Addr), m ≤ dm ∧ Hid (l + m = n) ∧ Hid (0 < m → l = 1024 * j) ∧ Hid (j ≤ many bs) ∧ Hid (n ≤ 1024 * j ∨ 0 < m) ∧ pv = .slice B1 m dm ∧ ov = .slice A3 (gone s (parts bs j)).length c3 ∧
    Hid (RdB wr O3 B1 m (bs.drop l)) ∧ Hid (Ost.Own wr (Ge w.heap.size) 5 Byte A3 (gone s (parts bs j)).length c3 ((gone s (parts bs j)).map bv)) ∧ c3 ≤ maxLen ∧ (gone s (parts bs j)).length ≤ 4 + 1027 * j ∧ Hid (Fr (Ge w.heap.size) w1 wr)) (fun pv _ _ => match pv with | .slice _ m _ => m | _ => 0)
  case atStart => exact ⟨0, 0, n, d, A2, c2, B, hnc, Nat.zero_add n, fun _ => rfl, Nat.zero_le _, .inr hne, rfl, by simp [gone, parts], by simpa [Hid] using HR1.out, by simpa [Hid, gone, parts] using HO2.out, hc22, by simpa [gone, parts] using gl, Fr.refl _ _⟩
  case round =>
    clear HO2 HR1
    obtain ⟨j, l, m, dm, A3, c3, B1, hm, hlm, hlj, hjm, hend, rfl, rfl, hrd, hown, hc3, hgl, hfr⟩ := hrel
    have hj10 : j ≤ 10 := by
      have h1 := hjm.out
      unfold many at h1
      rw [HBL.out] at h1
      omega
    rcases Nat.eq_zero_or_pos m with hm0 | hm0
    · subst hm0
      have hj : j = many bs := by
        have h1 := hjm.out
        have h2 := hend.out
        unfold many at h1 ⊢
        rw [HBL.out] at h1 ⊢
        omega
      subst hj
      go_wp2
      go_ret
      exact ⟨A3, c3, rfl, hown.out, hc3, HS.out.fr hfr.out (fun y hy h => by have := h0 y hy; simp only [Ge] at h; omega), HF.out.trans_new hfr.out (fun y hy => .inr hy)⟩
    · by_cases hbig : 1024 < m
      · have hKm : 1024 ≤ m := by omega
        have hL := hlj.out hm0
        have hmin : (1024 : Int) < (m : Int) := by omega
        have hpos : decide ((0 : Int) < (m : Int)) = true := by simp; omega
        obtain ⟨B3, hsl3, hB3⟩ := slice_from (P := Try.prog) (t := 28) (s := 1) Try.underlying28 (fun w => by kernel_rfl) B1 (n := m) (c := dm) (l := 1024) hKm hm
        simp only [show ((1024 : Nat) : Int) = 1024 from rfl] at hsl3
        obtain ⟨x, hxe⟩ : ∃ x, x = (bs.drop l).take 1024 := ⟨_, rfl⟩
        have hx : RdB wr O3 B1 1024 x := by
          have := rd_pre hrd.out hKm
          rw [← List.map_take, ← hxe] at this
          exact this
        have hxl : x.length = 1024 := by simpa using hx.1
        have hx2 : x = (bs.drop (1024 * j)).take 1024 := by
          rw [hxe, hL]
        have hgs : gone s (parts bs (j + 1)) = gone s (parts bs j) ++ datum x := by rw [parts_succ, gone_snoc, ← hx2]
        have hdat : (datum x).length = 3 + 1024 := by simp [datum, be2, hxl] <;> omega
        have er : recOf 2 x = (datum x, 0) := by
          have : ¬ 1024 < x.length := by omega
          simp [recOf, this, datum]
        have HGS := hid hgs
        have HDAT := hid hdat
        have HL := hid hL
        have HXL := hid hxl
        have hrec := rrecord_any (c := dm) 2 hx (by omega)
        rw [er] at hrec
        have hown3 := hown.out
        clear hgs hdat hL hxl hx2 hxe er hlj
        generalize gone s (parts bs j) = G at hown hown3 hgl HGS
        go_wp2_with fail
        refine hrec.mono ?_
        rintro e w3 ⟨A4, c4, rfl, hown4, hc4, hf3⟩
        have hown5 : Ost.Own w3 (Ge w.heap.size) 5 Byte A3 (G.length * 1) (c3 * 1) (G.map bv) := by
          rw [Nat.mul_one, Nat.mul_one]
          exact hown3.fr hf3 (fun _ _ _ h => h)
        have hz3 := hf3.size
        have hzw := hfr.out.size
        go_wp2_with (at_builtin; go_must (refine wpList_app _ rfl (.tmp 41) (.tmp 42) _ rfl 5 i0 _ 1 1 Try.underlying28 hi hz0 hz1 hz2 rfl (by omega) byte_zero (O := Ge w.heap.size) (by simp only [Ge]; omega) rfl hown5 (m := (datum x).length) rfl (by rw [Nat.mul_one]; exact hown4.rd) (bv_all _) (by have := HDAT.out; simp only [maxLen]; omega) (by have := HDAT.out; omega) ?_; intro A5 c5 w5 hown6 hf5 hc5 hA5))
        have hF35 : Fr (Ge w.heap.size) wr w5 := hf3.of_no.trans hf5 (fun y _ h => hown3.at_ y h)
        go_roundw
        case rel =>
          refine ⟨j + 1, l + 1024, m - 1024, dm - 1024, A5, c5, B3, by omega, ?_, ?_, ?_, ?_, by first | rfl | (rw [Nat.sub_self]) | (rw [hB3 (by omega)]; rfl), by rw [HGS.out, List.length_append], ?_, ?_, hc5 hc3, ?_, hfr.out.trans hF35 (fun _ _ h => h)⟩
          · have := hlm.out; simp only [Hid]; omega
          · intro hh; have := HL.out; omega
          · have h1 := hlm.out; have h2 := HL.out; simp only [Hid]; unfold many; rw [HBL.out]; omega
          · have h1 := hlm.out; have h2 := HL.out; simp only [Hid]; omega
          · have := rd_from hrd.out hKm hB3
            rw [← List.map_drop, List.drop_drop] at this
            exact Rd.fr this hF35 (fun y _ hy h => by have := (hO3 y hy).2; simp only [Ge] at h; omega)
          · rw [HGS.out, List.length_append]
            simpa [Hid] using hown6
          · rw [HGS.out, List.length_append]; have := HDAT.out; omega
        case measure => simp only; omega
      · have hKm : m ≤ m := by omega
        have hL := hlj.out hm0
        have hmin : ¬ ((1024 : Int) < (m : Int)) := by omega
        have hpos : decide ((0 : Int) < (m : Int)) = true := by simp; omega
        obtain ⟨B3, hsl3, hB3⟩ := slice_from (P := Try.prog) (t := 28) (s := 1) Try.underlying28 (fun w => by kernel_rfl) B1 (n := m) (c := dm) (l := m) hKm hm
        obtain ⟨x, hxe⟩ : ∃ x, x = (bs.drop l).take m := ⟨_, rfl⟩
        have hx : RdB wr O3 B1 m x := by
          have := rd_pre hrd.out hKm
          rw [← List.map_take, ← hxe] at this
          exact this
        have hxl : x.length = m := by simpa using hx.1
        have hx2 : x = (bs.drop (1024 * j)).take 1024 := by
          rw [hxe, hL]
          have hdl : (bs.drop (1024 * j)).length = m := by rw [List.length_drop, HBL.out]; have := hlm.out; omega
          rw [List.take_of_length_le (by omega), List.take_of_length_le (by omega)]
        have hgs : gone s (parts bs (j + 1)) = gone s (parts bs j) ++ datum x := by rw [parts_succ, gone_snoc, ← hx2]
        have hdat : (datum x).length = 3 + m := by simp [datum, be2, hxl] <;> omega
        have er : recOf 2 x = (datum x, 0) := by
          have : ¬ 1024 < x.length := by omega
          simp [recOf, this, datum]
        have HGS := hid hgs
        have HDAT := hid hdat
        have HL := hid hL
        have HXL := hid hxl
        have hrec := rrecord_any (c := dm) 2 hx (by omega)
        rw [er] at hrec
        have hown3 := hown.out
        clear hgs hdat hL hxl hx2 hxe er hlj
        generalize gone s (parts bs j) = G at hown hown3 hgl HGS
        go_wp2_with fail
        refine hrec.mono ?_
        rintro e w3 ⟨A4, c4, rfl, hown4, hc4, hf3⟩
        have hown5 : Ost.Own w3 (Ge w.heap.size) 5 Byte A3 (G.length * 1) (c3 * 1) (G.map bv) := by
          rw [Nat.mul_one, Nat.mul_one]
          exact hown3.fr hf3 (fun _ _ _ h => h)
        have hz3 := hf3.size
        have hzw := hfr.out.size
        go_wp2_with (at_builtin; go_must (refine wpList_app _ rfl (.tmp 41) (.tmp 42) _ rfl 5 i0 _ 1 1 Try.underlying28 hi hz0 hz1 hz2 rfl (by omega) byte_zero (O := Ge w.heap.size) (by simp only [Ge]; omega) rfl hown5 (m := (datum x).length) rfl (by rw [Nat.mul_one]; exact hown4.rd) (bv_all _) (by have := HDAT.out; simp only [maxLen]; omega) (by have := HDAT.out; omega) ?_; intro A5 c5 w5 hown6 hf5 hc5 hA5))
        have hF35 : Fr (Ge w.heap.size) wr w5 := hf3.of_no.trans hf5 (fun y _ h => hown3.at_ y h)
        go_roundw
        case rel =>
          refine ⟨j + 1, l + m, m - m, dm - m, A5, c5, B3, by omega, ?_, ?_, ?_, ?_, by first | rfl | (rw [Nat.sub_self]) | (rw [hB3 (by omega)]; rfl), by rw [HGS.out, List.length_append], ?_, ?_, hc5 hc3, ?_, hfr.out.trans hF35 (fun _ _ h => h)⟩
          · have := hlm.out; simp only [Hid]; omega
          · intro hh; have := HL.out; omega
          · have h1 := hlm.out; have h2 := HL.out; simp only [Hid]; unfold many; rw [HBL.out]; omega
          · have h1 := hlm.out; have h2 := HL.out; simp only [Hid]; omega
          · have := rd_from hrd.out hKm hB3
            rw [← List.map_drop, List.drop_drop] at this
            exact Rd.fr this hF35 (fun y _ hy h => by have := (hO3 y hy).2; simp only [Ge] at h; omega)
          · rw [HGS.out, List.length_append]
            simpa [Hid] using hown6
          · rw [HGS.out, List.length_append]; have := HDAT.out; omega
        case measure => simp only; omega

theorem rsend_any {O3 : Nat → Prop} {B : Option Addr} {n d : Nat} {bs : List UInt8} (h : RWin w O a true s) (hr : RdB w O3 B n bs) (hO3 : ∀ y, O3 y → y ≠ a ∧ y < w.heap.size) (hnc : n ≤ d) (hlen : n ≤ 9000) :
    Calls Try.prog 24 #[.pointer (some ⟨a, 0, none⟩), .slice B n d] w (RPutR w O a true (s.send bs).1 (s.send bs).2) := by
  have hl : bs.length = n := by simpa using hr.1
  by_cases hd : s.shut = true ∨ n = 0
  · exact rsend_nil h hl hd
  · simp only [not_or, Bool.not_eq_true] at hd
    have hne : bs ≠ [] := by intro e; subst e; simp at hl; omega
    have := rsend_go (d := d) h hd.1 hr hO3 hnc hlen (by omega)
    simp only [hd.1] at this
    simp only [PC.send, hd.1, hne, Bool.false_eq_true, or_self, if_false]
    exact this
end
end Go.Proofs.Ytfkkaalchffgaaa
