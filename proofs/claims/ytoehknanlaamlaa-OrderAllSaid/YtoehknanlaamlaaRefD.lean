/- The contract of the reference's Done (ostiaryref17) in the words of the machine. -/
import Derived.Test.YtoehknanlaamlaaRefC
import Derived.Deep.AppendLies
namespace Go.Proofs.Ytoehknanlaamlaa
open Go.RowKit Go.Ost

theorem Fr.made {w w1 : World} {k : Nat} {o : Obj} {T : Nat → Prop} (h : Fr T ((w.drewN k).alloc o) w1) (hT : ∀ b, T b → w.heap.size ≤ b) : Fr No w w1 :=
  (((Fr.refl No w).drewN k).alloc o).trans_new h fun b hb => .inr (hT b hb)

section
variable {w : World} {a : Nat} {O : Nat → Prop} {s : OW}

theorem rdone_missing (h : RWin w O a s) (n : Int) (v : Value) (hn : n ≤ 9223372036854775807) (hx : n < s.least ∨ (s.least + s.L.length : Int) ≤ n) :
    Calls Try.prog 20 #[.pointer (some ⟨a, 0, none⟩), .int .i64 n, v] w fun e w' => e = .returned (.tuple #[.slice none 0 0, .int .i64 6]) ∧ ∃ k, w' = w.drewN k := by
  obtain ⟨hO, hm, hl0, hl1, ha, A, c, vals, hc, hcm, hS, hR, hV⟩ := h
  have c1 := hS.c1
  have c2 := hS.c2
  obtain ⟨f, hf⟩ : ∃ f : Int, f = s.least := ⟨_, rfl⟩
  rw [← hf] at c1 hx
  by_cases hy : n < f
  · clear hf
    go_enter Try.func20, Try.ntmps20
    go_wp2
    go_quiet (fail)
    go_wp2
    go_ret2
    exact ⟨rfl, _, rfl⟩
  · have hz : (s.L.length : Int) ≤ n - f := by omega
    have hd : decide (n < f) = false := by simpa using hy
    have hw : IntKind.i64.wrap (n - f) = n - f := IntWalk.i64_in _ (by omega)
    clear hf hx
    go_enter Try.func20, Try.ntmps20
    go_wp2
    go_quiet (fail)
    go_wp2
    go_ret2
    exact ⟨rfl, _, rfl⟩

set_option maxHeartbeats 800000 in
theorem rdone_there (h : RWin w O a s) (n : Int) (v : Value) {i : Nat} {l : Bs} (hi : s.L[i]? = some (some l)) (hn : n = s.least + i) :
    Calls Try.prog 20 #[.pointer (some ⟨a, 0, none⟩), .int .i64 n, v] w fun e w' => e = .returned (.tuple #[.slice none 0 0, .int .i64 7]) ∧ ∃ k, w' = w.drewN k := by
  obtain ⟨hO, hm, hl0, hl1, ha, A, c, vals, hc, hcm, hS, hR, hV⟩ := h
  have hil : i < s.L.length := (List.getElem?_eq_some_iff.1 hi).1
  obtain ⟨b, o, cs, rfl, hOb, hB, hcs⟩ := hR (by omega)
  obtain ⟨hv, _⟩ := hV.2 i _ hi
  have hcell : w.cell? ⟨b, o + i * 2, none⟩ = some (.bool true) := by rw [hB.cell]; exact hcs _ _ hv
  have c1 := hS.c1
  have c2 := hS.c2
  obtain ⟨f, hf⟩ : ∃ f : Int, f = s.least := ⟨_, rfl⟩
  obtain ⟨N, hN⟩ : ∃ N : Nat, N = s.L.length := ⟨_, rfl⟩
  rw [← hf] at c1 hn
  rw [← hN] at c2 hil hc
  have hd : decide (n < f) = false := by simp; omega
  have hd2 : decide ((N : Int) ≤ (i : Int)) = false := by simp; omega
  have hw : IntKind.i64.wrap (n - f) = (i : Int) := by rw [IntWalk.i64_in _ (by omega)]; omega
  have hi0 : (0 : Int) ≤ (i : Int) := by omega
  have hi1 : (i : Int) < (N : Int) := by omega
  clear hf hN hn hi hv hcs hR
  go_enter Try.func20, Try.ntmps20
  go_wp2
  go_quiet (fail)
  go_wp2
  go_quiet (fail)
  go_wp2
  go_ret2
  exact ⟨rfl, _, World.drewN_drewN ..⟩

set_option maxHeartbeats 2000000 in
theorem rdone_ok {O' : Nat → Prop} {A0 : Option Addr} {c0 : Nat} {bs : Bs} (h : RWin w O a s) (n : Int) (hb : RdB w O' A0 bs.length bs) (hlb : bs.length ≤ 140737488355328)
    {i : Nat} (hi : s.L[i]? = some none) (hn : n = s.least + i) :
    Calls Try.prog 20 #[.pointer (some ⟨a, 0, none⟩), .int .i64 n, .slice A0 bs.length c0] w (RDoneR w O a (rel (s.put i bs)) 0 (s.released i bs)) := by
  obtain ⟨hO, hm, hl0, hl1, ha, A, c, vals, hc, hcm, hS, hR, hV⟩ := h
  obtain ⟨most, least, L⟩ := s
  simp only at hm hl0 hl1 hS hR hV hi hn hc
  have hil : i < L.length := (List.getElem?_eq_some_iff.1 hi).1
  obtain ⟨b, o, cs, rfl, hOb, hB, hcs⟩ := hR (by omega)
  obtain ⟨hv, _⟩ := hV.2 i _ hi
  have hcell : w.cell? ⟨b, o + i * 2, none⟩ = some (.bool false) := by rw [hB.cell]; exact hcs _ _ hv
  have c1 := hS.c1
  have c2 := hS.c2
  obtain ⟨f, hf⟩ : ∃ f : Nat, f = least := ⟨_, rfl⟩
  obtain ⟨N, hN⟩ : ∃ N : Nat, N = L.length := ⟨_, rfl⟩
  obtain ⟨nx, hnx⟩ : ∃ nx : Int, nx = (least + L.length : Int) := ⟨_, rfl⟩
  have hhv := hV.2 i _ hi
  have hal := hO a ha
  have hbl := hO b hOb
  have hstart := fun (w1 : World) (A1 : Option Addr) (c1 : Nat) (h1 : Own w1 (Ge w.heap.size) 5 Byte A1 bs.length c1 (bs.map bv)) (h2 : Fr No w w1) => RL.start (m := most) (nx := nx) hO ha hOb hS ⟨hc, hcm⟩ hB hcs hV hnx.symm hil h1 h2
  have hends : 1 ≤ most ∧ most ≤ 64 ∧ (rest (L.set i (some bs))).length ≤ most := by have h1 := rel_len (L.set i (some bs)); simp at h1; omega
  have hK : (rel (L.set i (some bs))).length ≤ 64 := by have h1 := rel_len (L.set i (some bs)); simp at h1; omega
  have hnum : (least + (rel (L.set i (some bs))).length + (rest (L.set i (some bs))).length : Int) = nx := by have h1 := rel_len (L.set i (some bs)); simp at h1; omega
  have b3 : nx < 4611686018427387904 := by omega
  have hSS := hS
  rw [← hf] at c1 hn hstart hSS
  rw [← hN] at c2 hil hc hstart hSS
  have HSS := hid hSS
  have hd : decide (n < (f : Int)) = false := by simp; omega
  have hd2 : decide ((N : Int) ≤ (i : Int)) = false := by simp; omega
  have hw : IntKind.i64.wrap (n - f) = (i : Int) := by rw [IntWalk.i64_in _ (by omega)]; omega
  have hi0 : (0 : Int) ≤ (i : Int) := by omega
  have hi1 : (i : Int) < (N : Int) := by omega
  obtain ⟨i0, hq0, hz0, hz1, hz2⟩ := info_parts info_u8
  obtain ⟨i1, hp0, hy0, hy1, hy2⟩ := info_parts info_bs
  have HS := hid hstart
  have HU := hid hnum
  have HN := hid hN
  have HF := hid hf
  have HX := hid hnx
  clear hf hN hn hi hv hcs hR hhv hstart hnum hnx hSS
  go_enter Try.func20, Try.ntmps20
  go_wp2
  go_quiet (fail)
  go_wp2
  go_quiet (fail)
  go_wp2
  go_region_held3 (fun w' => w'.cell? ⟨a, 2, none⟩ = some (.slice (some ⟨b, o, none⟩) N c) ∧ w'.cell? ⟨a, 1, none⟩ = some (.int .i64 f)) (first | exact ⟨c2, c1⟩ | exact ⟨(World.cell?_alloc_lt _ _ ⟨a, 2, none⟩ hal).trans c2, (World.cell?_alloc_lt _ _ ⟨a, 1, none⟩ hal).trans c1⟩ | exact ⟨k2, k1⟩ | exact ⟨S3.c2, S3.c1⟩)
    (go_must ((refine step_app _ (by rfl) (.tmp 52) (.tmp 53) _ (by rfl) 5 i0 _ 1 1 Try.underlying22 hq0 hz0 hz1 hz2 rfl (by omega) byte_zero (O := Ge w.heap.size) (by simp [Ge]) (by rfl) own_lit (m := bs.length) (by rfl) (by rw [Nat.mul_one]; exact Rd.alloc (w := _) hb _) (bv_all _) (by simp only [maxLen]; omega) (by omega) ?_; intro A1 c3 w1 hown1 hf1 hc3 _; have own1 : Own w1 (Ge w.heap.size) 5 Byte A1 bs.length c3 (bs.map bv) := (by simpa using hown1); have F1 : Fr No w w1 := Fr.made hf1 (fun x hx => by rw [At_none_iff] at hx; have hx' : x = w.heap.size := hx; omega); obtain ⟨B1, ⟨u1, hu1⟩, ⟨u2, hu2⟩, S3, HL⟩ := HS.out w1 A1 c3 own1 F1; have k2 := (RefS.fr HSS.out F1 fun h => h).c2; have k1 := (RefS.fr HSS.out F1 fun h => h).c1; have g1 : w1.cell? ⟨b, o + i * 2, none⟩ = some u1 := (B1.cell _).trans hu1; have g2 : w1.cell? ⟨b, o + i * 2 + 1, none⟩ = some u2 := (B1.cell _).trans hu2; have gf1 := B1.frozen (o + i * 2); have gf2 := B1.frozen (o + i * 2 + 1); have HL' := hid HL; clear HL)))
  clear c1 c2 hcell k1 k2 g1 g2 gf1 gf2 S3 B1 hu1 hu2 hown1 hf1 hc3 F1 own1 hV hB hS
  go_wp2
  go_loopw [8] (fun o wr => RL w O a b most nx (rel (L.set i (some bs))) (rest (L.set i (some bs))) o wr) (fun _ wr => slotN wr a)
  case atStart => exact HL'.out
  case round =>
    obtain ⟨Ao, co, f2, outs, L2, vs, A2, c2, vals2, cs2, rfl, hd⟩ := hrel
    match L2, hd with
    | [], hd =>
      have g2 : wr.cell? ⟨a, 2, none⟩ = some (.slice A2 0 c2) := hd.win.c2
      have HD := hid hd
      clear hd
      go_wp2
      go_ret2
      exact HD.out.done rfl hO ha hOb hends hl0 b3 rfl HU.out
    | none :: t, hd =>
      have g2 : wr.cell? ⟨a, 2, none⟩ = some (.slice A2 (t.length + 1) c2) := hd.win.c2
      obtain ⟨o2, rfl, hrow⟩ := hd.row (by simp)
      have g3 : wr.cell? ⟨b, o2, none⟩ = some (.bool false) := by rw [hd.blk.cell]; exact hrow 0 _ hd.slots.head.1
      have HD := hid hd
      clear hd hrow
      go_wp2
      go_ret2
      exact HD.out.done rfl hO ha hOb hends hl0 b3 rfl HU.out
    | some l :: t, hd =>
      have g2 : wr.cell? ⟨a, 2, none⟩ = some (.slice A2 (t.length + 1) c2) := hd.win.c2
      have g1 := hd.win.c1
      obtain ⟨o2, rfl, hrow⟩ := hd.row (by simp)
      have g3 : wr.cell? ⟨b, o2, none⟩ = some (.bool true) := by rw [hd.blk.cell]; exact hrow 0 _ hd.slots.head.1
      obtain ⟨B3, k3, d3, hv3, _⟩ := hd.slots.head.2
      have g4 : wr.cell? ⟨b, o2 + 1, none⟩ = some (.slice B3 k3 d3) := by rw [hd.blk.cell]; exact hrow 1 _ hv3
      have hlen : vs.length < 64 := by
        have h1 := congrArg List.length hd.goes
        simp [rel] at h1
        have := hd.len
        omega
      have hsz : w.heap.size ≤ wr.heap.size := hd.fr.size
      have hfb : (f2 : Int) < 4611686018427387904 := by have := hd.next; omega
      have hcap : t.length + 1 ≤ c2 := hd.cap.1
      have HV := hid hv3
      have HD := hid hd
      clear hd hrow hv3
      go_wp2_with (at_builtin; go_must (refine wpList_app _ rfl (.tmp 72) (.tmp 80) _ rfl 22 i1 _ 1 24 Try.underlying31 hp0 hy0 hy1 hy2 rfl (by omega) (T := fun _ => True) (fun _ _ => trivial) (O := Ge w.heap.size) (by simp [Ge]; omega) rfl (HD.out.own.alloc _) (m := 1) rfl (rd_one _ _ _) (by simp [Value.oneCell']) (by simp only [maxLen]; omega) (by omega) ?_); intro A5 c5 w5 hown5 hf5 hc5 hA5; obtain ⟨S5, HR5, HM5⟩ := HD.out.round hO ha hOb HV.out hown5 hf5 hA5 (A' := if c2 = 1 then some ⟨b, o2, none⟩ else some ⟨b, o2 + 2, none⟩) (fun h => by rw [if_neg (by omega)]; simp [add_lit_none]); have k2 := S5.c2; have k1 := S5.c1; have kf2 := Blk.frozen S5 2; have kf1 := Blk.frozen S5 1; have HR := hid HR5; have HM := hid HM5; clear HR5 HM5)
      go_roundw
      case rel => exact HR.out
      case measure => exact HM.out
end
end Go.Proofs.Ytoehknanlaamlaa
