/- bytes.Buffer's grow at every state; Write. -/
import Derived.Test.YtpbgcjknhegnmaaDoorBufD
namespace Go.Ost
open Go.RowKit
/-- 'copy' into a block that is known whole. -/
theorem run_cp_at {P : Program} {w : World} {O : Nat → Prop} (dT sT ty elem : TypeId) (hu : P.underlying dT = some (.slice elem)) (hsz : (P.info? elem).map (·.size) = some 1) {g o : Nat} {t : TypeId} {cur : List Value} (hB : Blk w g t cur.toArray)
    {B : Option Addr} {m d dc sc : Nat} {cs : List Value} (hr : Rd w O B m cs) (h1 : ∀ u ∈ cs, u.oneCell' = true) (hd : m ≤ d) (hfit : o + m ≤ cur.length) :
    ∃ w2, (Builtin.copy_ #[dT, sT] ty #[.slice (some ⟨g, o, none⟩) d dc, .slice B m sc]).run P w = .ok (goInt m) w2 ∧ Blk w2 g t (cur.take o ++ cs ++ cur.drop (o + m)).toArray ∧ Fr (fun y => y = g) w w2 := by
  have hl := hr.1
  rcases Nat.eq_zero_or_pos m with h0 | h0
  · subst h0
    have : cs = [] := List.eq_nil_of_length_eq_zero hl
    subst this
    exact ⟨w, run_copy_none (P := P) w dT sT ty elem (some ⟨g, o, none⟩) B d dc 0 sc hu hsz (by simp), by simpa using hB, Fr.refl _ _⟩
  · obtain ⟨b, o2, rfl, _, hc⟩ := hr.2 h0
    have hrun := run_copy_row (P := P) w dT sT ty elem g o d dc ⟨b, o2, none⟩ m sc cur.toArray t cs hu hsz hB (by rw [hl, show Nat.min m d = min m d from rfl, Nat.min_eq_left hd]) (fun j v hv => by rw [add_lit_none]; exact hc j v hv) (by simp; omega) h1
    rw [hl] at hrun
    refine ⟨_, hrun, ?_, ⟨rfl, rfl, rfl, by simp [World.setRow], fun k _ hk => setRow_other w g k _ hk⟩⟩
    exact setRow_heap w g cur.toArray _ t _ hB
end Go.Ost
namespace Go.Proofs.YtpbgcjknhegnmaaDoor
open Go.RowKit Go.Ost

section
variable {w : World} {O : Nat → Prop} {a : Nat} {most : Int} {br : Bool} {er : Int} {all : List UInt8} {off : Nat} {A : Option Addr} {c : Nat} {lr : Int}
theorem grow_any {n : Nat} (h : FW w O a most br er all off A c lr) (hfull : c < all.length + n) (hn : 1 ≤ n) (hs : (all.drop off).length + n ≤ 1000000) :
    Calls Tryd.prog 38 #[.pointer (some ⟨a, 2, none⟩), .int .i64 n] w (GrowR w O a most br er (all.drop off) n) := by
  have h3 := h.2.2.1
  have hown := h.2.2.2.2.1
  rw [List.length_drop] at hs
  by_cases hm : off = all.length
  · have hlive : all.drop off = [] := List.drop_of_length_le (by omega)
    rw [hlive]
    rcases hown with ⟨_, ⟨rfl, h0, hc⟩ | ⟨b, ts, rfl, _, _, _, _⟩⟩
    · have ha : all = [] := List.eq_nil_of_length_eq_zero h0
      subst ha hc
      have : off = 0 := by simpa using hm
      subst this
      by_cases h64 : n ≤ 64
      · exact grow_small h h64 hn (by omega)
      · exact grow_none h (by omega) hn (by omega)
    · by_cases h0 : off = 0
      · have ha : all = [] := List.eq_nil_of_length_eq_zero (by omega)
        subst ha h0
        exact grow_some h (by simpa using hfull) hn (by omega)
      · by_cases hr : n ≤ c
        · exact grow_reset_room h hm (by omega) hr hn (by omega)
        · exact grow_reset_new h hm (by omega) (by omega) hn (by omega)
  · have hml : all.length = off + (all.length - off) := by omega
    by_cases hc : (all.length - off) + n ≤ c / 2
    · exact grow_slide h hml (by omega) hfull hn (by omega) hc
    · exact grow_new h hml (by omega) hfull hn (by omega) (by omega)

/-- What is copied in. -/
theorem fill_in {pre xs p : List UInt8} {O3 : Nat → Prop} {B : Option Addr} {d : Nat} (h : FW w O a most br er (pre ++ xs) off A c lr) (hx : xs.length = p.length) (hr : RdB w O3 B p.length p) :
    ∃ A' w3, (∀ W, (Instr.slice 22 (.slice A (pre ++ xs).length c) (some (.int .i64 (pre.length : Int))) none none).run Tryd.prog W = .ok (.slice A' p.length (c - pre.length)) W) ∧
      (Builtin.copy_ #[22, 22] 3 #[.slice A' p.length (c - pre.length), .slice B p.length d]).run Tryd.prog w = .ok (goInt p.length) w3 ∧ FW w3 O a most br er (pre ++ p) off A c lr ∧ Fr (fun y => O y ∧ y ≠ a) w w3 := by
  obtain ⟨h1, h2, h3, h4, h5, h6⟩ := h
  have hle := h5.le
  have hlen : (pre ++ xs).length = pre.length + p.length := by rw [List.length_append, hx]
  have hlen2 : (pre ++ p).length = pre.length + p.length := List.length_append
  obtain ⟨A', hsl, hA'⟩ := slice_from (P := Tryd.prog) (t := 22) (s := 1) Tryd.underlying22 (fun w => by kernel_rfl) A (n := (pre ++ xs).length) (c := c) (l := pre.length) (by omega) hle
  have e1 : (pre ++ xs).length - pre.length = p.length := by omega
  rw [e1] at hsl
  obtain ⟨_, ⟨rfl, h0, hc⟩ | ⟨g, ts, rfl, hg, hB, htl, hts⟩⟩ := h5
  · have hp0 : p.length = 0 := by omega
    have hp : p = [] := List.eq_nil_of_length_eq_zero hp0
    have hxx : xs = [] := List.eq_nil_of_length_eq_zero (by omega)
    subst hp hxx
    exact ⟨A', w, hsl, run_copy_none (P := Tryd.prog) w 22 22 3 5 A' B 0 (c - pre.length) 0 d Tryd.underlying22 size_u8 (by simp), ⟨h1, h2, h3, h4, ⟨by simp, .inl ⟨rfl, h0, hc⟩⟩, h6⟩, Fr.refl _ _⟩
  · rcases Nat.eq_zero_or_pos p.length with hp0 | hp0
    · have hp : p = [] := List.eq_nil_of_length_eq_zero hp0
      have hxx : xs = [] := List.eq_nil_of_length_eq_zero (by omega)
      subst hp hxx
      exact ⟨A', w, hsl, run_copy_none (P := Tryd.prog) w 22 22 3 5 A' B 0 (c - pre.length) 0 d Tryd.underlying22 size_u8 (by simp), ⟨h1, h2, h3, h4, ⟨by simp, .inr ⟨g, ts, rfl, hg, hB, htl, hts⟩⟩, h6⟩, Fr.refl _ _⟩
    · have hA2 : A' = some ⟨g, pre.length, none⟩ := by rw [hA' (by omega), Option.map_some, Nat.mul_one, add_lit_none, Nat.zero_add]
      subst hA2
      obtain ⟨w3, hcp, hB3, hf3⟩ := run_cp_at (P := Tryd.prog) 22 22 3 5 Tryd.underlying22 size_u8 (o := pre.length) hB hr (bv_all _) (d := p.length) (dc := c - pre.length) (sc := d) (Nat.le_refl _) (by simp; omega)
      refine ⟨_, w3, hsl, hcp, ⟨fun y hy => Nat.lt_of_lt_of_le (h1 y hy) hf3.size, h2, by omega, ?_, ⟨by simp, .inr ⟨g, ts, rfl, hg, ?_, by omega, hts⟩⟩, h6⟩, hf3.mono fun y _ e => e ▸ hg⟩
      · rw [hlen2]
        rw [hlen] at h4
        exact h4.fr hf3 (fun e => hg.2 e.symm)
      · have e3 : ((pre ++ xs).map bv ++ ts).take pre.length ++ p.map bv ++ ((pre ++ xs).map bv ++ ts).drop (pre.length + p.length) = (pre ++ p).map bv ++ ts := by
          have hl1 : (pre.map bv).length = pre.length := by simp
          have hl2 : (xs.map bv).length = p.length := by simp [hx]
          rw [List.map_append, List.append_assoc (pre.map bv), ← hl1, List.take_left, ← List.drop_drop, List.drop_left, ← hl2, List.drop_left, List.map_append]
        rw [← e3]
        exact hB3

/-- What Write hands back. -/
def WriteR (w : World) (O : Nat → Prop) (a : Nat) (most : Int) (br : Bool) (er : Int) (live p : List UInt8) (e : Ending) (w' : World) : Prop :=
  ∃ O' A' c' lr' all' off', e = .returned (.tuple #[.int .i64 p.length, .nilIface]) ∧ FW w' O' a most br er all' off' A' c' lr' ∧ all'.drop off' = live ++ p ∧ (∀ y, O' y → O y ∨ w.heap.size ≤ y) ∧ Fr O w w'

set_option maxRecDepth 100000 in
set_option maxHeartbeats 4000000 in
theorem write_any {O3 : Nat → Prop} {B : Option Addr} {d : Nat} {p : List UInt8} (h : FW w O a most br er all off A c lr) (hr : RdB w O3 B p.length p) (hO3 : ∀ y, O3 y → ¬ O y) (hs : (all.drop off).length + p.length ≤ 1000000) :
    Calls Tryd.prog 32 #[.pointer (some ⟨a, 2, none⟩), .slice B p.length d] w (WriteR w O a most br er (all.drop off) p) := by
  have hHH := h
  obtain ⟨h1, h2, h3, h4, h5, h6⟩ := h
  have hf1 : Fr (· = a) w (w.setCell ⟨a, 4, none⟩ (.int .i8 0)) := (Fr.refl (· = a) w).setCell (p := ⟨a, 4, none⟩) (.inl rfl) _
  have hW1 : FW (w.setCell ⟨a, 4, none⟩ (.int .i8 0)) O a most br er all off A c 0 :=
    ⟨fun y hy => Nat.lt_of_lt_of_le (h1 y hy) hf1.size, h2, h3, by simpa using h4.set_ 4 (.int .i8 0), h5.fr hf1 (fun y _ hy => hy.2), h6⟩
  have hr1 : RdB (w.setCell ⟨a, 4, none⟩ (.int .i8 0)) O3 B p.length p := Rd.fr hr hf1 (fun y _ hy e => hO3 y hy (e ▸ h2))
  have c4 := h4.cell 4
  have f4 := h4.frozen 4
  have hle := h5.le
  have hlt := h4.lt
  simp at c4
  have hcm : c ≤ 9223372036854775807 := by unfold maxLen at h6; exact h6
  have HH := hid hHH
  have HW := hid hW1
  have HF := hid hf1
  have HO : Hid (O a) := h2
  have HL3 : Hid (off ≤ all.length) := h3
  clear hHH h3 h4 h5 h6 hf1 hr h1
  by_cases hroom : all.length + p.length ≤ c
  · have htry := try_room (n := p.length) HW.out hroom
    clear hW1
    go_enter Tryd.func32, Tryd.ntmps32
    go_wp2_with fail
    refine htry.mono ?_
    rintro e w2 ⟨xs, hx, rfl, hW2, hf2⟩
    have hr2 : RdB w2 O3 B p.length p := Rd.fr hr1 hf2 (fun y _ hy e => hO3 y hy (e ▸ HO.out))
    obtain ⟨A', w3, hsl, hcp, hW3, hf3⟩ := fill_in (d := d) hW2 hx hr2
    have HX := hid hx
    have hlen2 : (all ++ xs).length = all.length + p.length := by rw [List.length_append, hx]
    rw [hlen2] at hsl
    have HW3 := hid hW3
    have HF3 := hid hf3
    have HF2 := hid hf2
    obtain ⟨k1, k2, k3, k4, k5, k6⟩ := hW2
    have c2 := k4.cell 2
    simp at c2
    rw [← List.length_append, hlen2] at c2
    clear k1 k2 k3 k4 k5 k6 hx hW3 hf3 hf2 hr2 hlen2 hr1
    go_wp2
    go_ret2
    refine ⟨O, A, c, 0, all ++ p, off, rfl, HW3.out, by rw [List.drop_append_of_le_length HL3.out], fun y hy => .inl hy, ?_⟩
    exact ((HF.out.trans HF2.out (fun _ _ h => h)).mono (T := O) fun y _ e => e ▸ HO.out).trans (HF3.out.mono (T := O) fun y _ e => e.1) (fun _ _ h => h)
  · have hpn : 1 ≤ p.length := by omega
    have htry := try_none (n := p.length) HW.out (by omega) (by omega)
    have hgrow := grow_any (n := p.length) HW.out (by omega) hpn hs
    clear hW1
    go_enter Tryd.func32, Tryd.ntmps32
    go_wp2_with fail
    refine htry.mono ?_
    rintro e w' ⟨rfl, rfl⟩
    go_wp2_with fail
    refine hgrow.mono ?_
    rintro e w2 ⟨O2, A2, c2, lr2, xs, hx, rfl, hW2, hO2, hf2⟩
    have hr2 : RdB w2 O3 B p.length p := Rd.fr hr1 hf2 (fun y _ hy e => hO3 y hy e)
    obtain ⟨A', w3, hsl, hcp, hW3, hf3⟩ := fill_in (d := d) hW2 hx hr2
    have HX := hid hx
    have hlen2 : (all.drop off ++ xs).length = (all.drop off).length + p.length := by rw [List.length_append, hx]
    rw [hlen2] at hsl
    have HW3 := hid hW3
    have HF3 := hid hf3
    have HF2 := hid hf2
    have HO2 := hid hO2
    obtain ⟨k1, k2, k3, k4, k5, k6⟩ := hW2
    have d2 := k4.cell 2
    have hlc := k5.le
    rw [hlen2] at hlc
    have hcm2 : c2 ≤ 9223372036854775807 := by unfold maxLen at k6; exact k6
    simp only [hlen2] at d2
    generalize hll : (all.drop off).length = m at d2 hsl hlc hcp
    have HLL := hid hll
    simp at d2
    clear k1 k2 k3 k4 k5 k6 hx hW3 hf3 hf2 hO2 hr2 hlen2 hr1 hll hgrow htry
    go_wp2
    go_ret2
    have hz := HF.out.size
    have hO2 : ∀ y, O2 y → O y ∨ w.heap.size ≤ y := fun y hy => (HO2.out y hy).imp id (fun h => by omega)
    refine ⟨O2, A2, c2, lr2, all.drop off ++ p, 0, rfl, HW3.out, by simp, hO2, ?_⟩
    exact ((HF.out.mono (T := O) fun y _ e => e ▸ HO.out).trans HF2.out (fun _ _ h => h)).trans_new HF3.out (fun y hy => hO2 y hy.1)
end
end Go.Proofs.YtpbgcjknhegnmaaDoor
