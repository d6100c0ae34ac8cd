/- The contract of package order's (*Window).Done. -/
import Derived.Test.YtoehknanlaamlaaOrdD
import Derived.Deep.RegionHeld3
namespace Go.Proofs.Ytoehknanlaamlaa
open Go.RowKit Go.Ost

section
variable {w : World} {a r : Nat} {m f nx : Int}
theorem done_missing (h : WinS w a m f nx r) (hm : 1 ≤ m) (n : Int) (v : Value) (hx : n < f ∨ nx ≤ n) :
    Calls Try.prog 12 #[.pointer (some ⟨a, 0, none⟩), .int .i64 n, v] w fun e w' => e = .returned (.tuple #[.slice none 0 0, .int .i64 6]) ∧ w = w' := by
  have h1 := h.c1
  have h2 := h.c2
  rcases hx with hx | hx
  · go_enter Try.func12, Try.ntmps12
    go_wp2_with (go_at_call 26; refine (none_no h hm).mono ?_; rintro e w' ⟨rfl, rfl⟩)
    go_ret2
    exact ⟨rfl, rfl⟩
  · by_cases hy : n < f
    · go_enter Try.func12, Try.ntmps12
      go_wp2_with (go_at_call 26; refine (none_no h hm).mono ?_; rintro e w' ⟨rfl, rfl⟩)
      go_ret2
      exact ⟨rfl, rfl⟩
    · go_enter Try.func12, Try.ntmps12
      go_wp2_with (go_at_call 26; refine (none_no h hm).mono ?_; rintro e w' ⟨rfl, rfl⟩)
      go_ret2
      exact ⟨rfl, rfl⟩

theorem done_there {es : List (Int × Value)} (h : WinS w a m f nx r) (he : MapI w r es) (hm : 1 ≤ m) (n : Int) (v : Value) (hx : f ≤ n) (hy : n < nx) {x : Value} (hat : at? n es = some x) :
    Calls Try.prog 12 #[.pointer (some ⟨a, 0, none⟩), .int .i64 n, v] w fun e w' => e = .returned (.tuple #[.slice none 0 0, .int .i64 7]) ∧ w = w' := by
  have h1 := h.c1
  have h2 := h.c2
  have h3 := h.c3
  have hl := he.look (P := Try.prog) n Try.underlying51 Try.underlying3 hat
  go_enter Try.func12, Try.ntmps12
  go_wp2_with (go_at_call 26; refine (none_no h hm).mono ?_; rintro e w' ⟨rfl, rfl⟩)
  go_ret2
  exact ⟨rfl, rfl⟩

theorem zero_bs (w : World) : (zeroValue 22).run Try.prog w = .ok (.slice none 0 0) w := by kernel_rfl

set_option maxHeartbeats 1000000 in
theorem done_ok {s : OW} {O O' : Nat → Prop} {A : Option Addr} {c : Nat} {bs : Bs} (h : OWin w O a s) (n : Int) (hb : RdB w O' A bs.length bs) (hlb : bs.length ≤ 140737488355328)
    {i : Nat} (hi : s.L[i]? = some none) (hn : n = s.least + i) :
    Calls Try.prog 12 #[.pointer (some ⟨a, 0, none⟩), .int .i64 n, .slice A bs.length c] w (DoneR w O a (rel (s.put i bs)) 0 (s.released i bs)) := by
  obtain ⟨hO, hm, hl0, hl1, r, es, ha, hr, hW, he, hE⟩ := h
  obtain ⟨most, least, L⟩ := s
  simp only at hm hl0 hl1 hW he hE hi hn
  subst hn
  have hil : i < L.length := (List.getElem?_eq_some_iff.1 hi).1
  have hne : a ≠ r := hW.ne he
  have h1 := hW.c1
  have h2 := hW.c2
  have h3 := hW.c3
  have hat : at? ((least : Int) + i) es = none := hE.at_none fun j l hj => by
    have : j = i := by omega
    subst this
    rw [hi]
    simp
  have hl := he.look_none (P := Try.prog) ((least : Int) + i) Try.underlying51 Try.underlying3 (zero_bs w) hat
  have hm' : (1 : Int) ≤ most := by have := hm.1; omega
  have hK : (rel (L.set i (some bs))).length ≤ 64 := by have h1 := rel_len (L.set i (some bs)); have h2 := hm.2; simp at h1; omega
  have hends : 1 ≤ most ∧ most ≤ 64 ∧ (rest (L.set i (some bs))).length ≤ most := by have h1 := rel_len (L.set i (some bs)); simp at h1; omega
  obtain ⟨i0, hi0, hz0, hz1, hz2⟩ := info_parts info_bs
  obtain ⟨nx, hnx⟩ : ∃ nx : Int, nx = (least + L.length : Int) := ⟨_, rfl⟩
  rw [← hnx] at hW h2
  have b1 : (least : Int) + i < nx := by omega
  have b2 : (least : Int) ≤ least + i := by omega
  have b3 : nx < 4611686018427387904 := by omega
  have hnum : (least + (rel (L.set i (some bs))).length + (rest (L.set i (some bs))).length : Int) = nx := by have h1 := rel_len (L.set i (some bs)); simp at h1; omega
  have HU := hid hnum
  clear hnum
  have HN := hid hnx
  have HI := hid hi
  have HA := hid hat
  clear hnx hi hat
  go_enter Try.func12, Try.ntmps12
  go_wp2_with (go_at_call 26; refine (none_no hW hm').mono ?_; rintro e w' ⟨rfl, rfl⟩)
  go_region_held3 (fun w' => w'.cell? ⟨a, 3, none⟩ = some (.map (some r))) (assumption)
    ((go_at_call 27; refine (clone_bytes (w := w.drew) (O := O') hb hlb).mono ?_; rintro e w1 ⟨A1, c1, rfl, hown1, hc1, hf1⟩; obtain ⟨w2, hput, hm2, hf2⟩ := MapI.put (he.fr (Fr.of_drew hf1) (fun h => h)) ((least : Int) + i) (.slice A1 bs.length c1) Try.underlying51 Try.underlying3 HA.out; have h31 : w1.cell? ⟨a, 3, none⟩ = some (.map (some r)) := Fr.cell (p := ⟨a, 3, none⟩) hf1 (fun h => h) h3; have h32 : w2.cell? ⟨a, 3, none⟩ = some (.map (some r)) := Fr.cell (p := ⟨a, 3, none⟩) hf2 hne h31))
  obtain ⟨g3, g1, x0, q0, hlook, hstart⟩ := DL.start hO ha hr hW he hE HN.out.symm HI.out hown1 hf1 hm2 hf2
  clear hput h31 h32 hl h1 h2 h3
  have HS := hid hstart
  clear hstart
  go_wp2
  go_quiet (fail)
  go_wp2
  go_loopw [10, 11, 12] (fun o x is wr => DL w O a r most nx (rel (L.set i (some bs))) (rest (L.set i (some bs))) o x is wr) (fun _ _ _ wr => msize wr r)
  case atStart => exact HS.out _
  case round =>
    obtain ⟨A2, c2, q, f, outs, L2, es2, vs2, B2, k2, d2, rfl, rfl, rfl, hd⟩ := hrel
    cases q
    · have HD := hid hd
      clear hd
      go_wp2
      go_ret2
      exact DL.done ⟨A2, c2, false, f, outs, L2, es2, vs2, B2, k2, d2, rfl, rfl, rfl, HD.out⟩ hO ha hr hends hl0 b3 rfl HU.out
    · have HD := hid hd
      have hlen : vs2.length < 64 := by
        obtain ⟨l, t, e, _⟩ := hd.yes rfl
        have h1 := congrArg List.length hd.goes
        rw [e] at h1
        simp [rel] at h1
        have := hd.len
        omega
      have hsz : w.heap.size ≤ wr.heap.size := hd.fr.size
      have hfb : (f : Int) < 4611686018427387904 := by have := hd.next; omega
      clear hd
      go_wp2_with (at_builtin; refine wpList_app _ rfl (.tmp 73) (.tmp 75) _ rfl 22 i0 _ 1 24 Try.underlying31 hi0 hz0 hz1 hz2 rfl (by omega) (T := fun _ => True) (fun _ _ => trivial) (O := Ge w.heap.size) (by simp [Ge]; omega) rfl (HD.out.own.alloc _) (m := 1) rfl (rd_one _ _ _) (by simp [Value.oneCell']) (by simp only [maxLen]; omega) (by omega) ?_; intro A3 c3 w3 hown3 hf3 hc3 hA3)
      obtain ⟨k3, k1, w4, hdel, k1', kf, hms, x5, q5, k53, k51, hlook5, hdl⟩ := HD.out.round hO ha hr hown3 hf3 hA3
      have HL := hid hdl
      clear hdl HD
      go_wp2
      go_region
      go_wp2
      go_quiet (fail)
      go_wp2
      go_roundw
      case rel => exact (HL.out _).1
      case measure => exact (HL.out _).2
end
end Go.Proofs.Ytoehknanlaamlaa
