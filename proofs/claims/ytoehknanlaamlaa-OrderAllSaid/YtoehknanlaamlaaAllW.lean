/- OrderAll, walked: in whatever order the numbers are done, each goes once, with its own byte, none ahead of a lower one; and all have gone when all are done. -/
import Derived.Test.YtoehknanlaamlaaAll
import Derived.Test.YtoehknanlaamlaaWaits
import Derived.Test.YtoehknanlaamlaaOpen
import Derived.Deep.DeepCutAuto
import Derived.Deep.CutRange
import Derived.Deep.LoopGhost
import Derived.Deep.RegionHeld3
import Derived.Deep.AppendLies
namespace Go.Proofs.Ytoehknanlaamlaa
open Go.RowKit Go.Ost

theorem head_of {l : List Nat} {x : Nat} (h : 0 < l.length) (hx : ∀ u t, l = u :: t → u = x) : l[0] = x := by
  cases l with
  | nil => simp at h
  | cons u t => exact hx u t rfl

theorem u8_nat {v : Nat} (h : v < 256) : IntKind.u8.wrap (v : Int) = (v : Int) := by rw [IntKind.wrap_u8]; omega
/-- One small number as a byte in a new block of its own. -/
theorem rdb_nb (w : World) {v : Nat} (hv : v < 256) (t : TypeId) : RdB (w.alloc (.cells #[.int .u8 (v : Int)] t)) (fun _ => True) (some ⟨w.heap.size, 0, none⟩) 1 (nb v) := by
  have h := rdb_one w (UInt8.ofNat v) t
  have e : (UInt8.ofNat v).toNat = v := by rw [UInt8.toNat_ofNat']; omega
  rw [e] at h
  exact h

theorem ivs_snoc (k : Nat) : ivs (List.range' 1 (k + 1)) = ivs (List.range' 1 k) ++ [.int .i64 ((k : Int) + 1)] := by
  rw [List.range'_concat]
  simp [ivs]
  omega

theorem size_ad (w : World) (o : Obj) : (w.alloc o).drew.heap.size = w.heap.size + 1 := World.size_alloc ..
theorem arm_size {w w1 : World} {o : Obj} {S : Nat → Prop} (h : Fr S (w.alloc o).drew w1) : w.heap.size ≤ w1.heap.size := by
  have := h.size
  have := size_ad w o
  omega
theorem arm_rd {w w1 : World} {n : Nat} {o : Obj} {A : Option Addr} {vs : List Value} (h : Rd w (fun b => b < w.heap.size) A n vs) (hf : Fr (At (some ⟨w.heap.size, 0, none⟩)) (w.alloc o).drew w1) : Rd w1 (fun b => b < w.heap.size) A n vs :=
  Rd.fr (w := (w.alloc o).drew) (Rd.alloc h o) hf fun b _ hb hc => by
    obtain ⟨o, e⟩ := hc
    injection e with e
    injection e with e _
    have hb' : b < w.heap.size := hb
    omega

set_option maxRecDepth 100000 in
set_option maxHeartbeats 4000000 in
theorem all_any {w : World} {B : Option Addr} {n d : Nat} {zs : List Int} (x : Int) (hz : Rd w (fun b => b < w.heap.size) B n (zs.map (Value.int .i64))) :
    Calls Try.prog 7 #[.int .i64 x, .slice B n d] w fun e w' => e = .returned (.bool true) ∧ Fr No w w' := by
  have h0 := Int.emod_nonneg x (show (64 : Int) ≠ 0 by omega)
  have h1 := Int.emod_lt_of_pos x (show (0 : Int) < 64 by omega)
  obtain ⟨M, hM⟩ : ∃ M : Nat, 1 + x % 64 = (M : Int) := ⟨(1 + x % 64).toNat, by omega⟩
  have m1 : 1 ≤ M := by omega
  have m2 : M ≤ 64 := by omega
  obtain ⟨i0, hi0, hz0, hz1, hz2⟩ := info_parts info_int
  have HZ := hid hz
  by_cases hlong : 1000 < n
  · clear hz
    go_enter Try.func7, Try.ntmps7
    go_wp2_with fail
    refine (known_any w).mono ?_
    rintro e w1 ⟨rfl, f1⟩
    go_wp2_with fail
    refine (pick_any x 64 w1 (by omega) (by omega)).mono ?_
    rintro e w2 ⟨rfl, rfl⟩
    go_wp2_with fail
    refine (new_hasN (w0 := w) M f1 (by omega) (by omega)).mono ?_
    rintro e w2 ⟨rfl, H2⟩
    go_wp2_with fail
    go_ret
    exact ⟨rfl, H2.frame⟩
  · clear hz
    go_enter Try.func7, Try.ntmps7
    go_wp2_with fail
    refine (known_any w).mono ?_
    rintro e w1 ⟨rfl, f1⟩
    go_wp2_with fail
    refine (pick_any x 64 w1 (by omega) (by omega)).mono ?_
    rintro e w2 ⟨rfl, rfl⟩
    go_wp2_with fail
    refine (new_win (M : Int) w1 (by omega) (by omega)).mono ?_
    rintro e w2 ⟨rfl, ho, hf⟩
    rw [Int.toNat_natCast] at ho
    have hI : InvA w w2 (fun b => w1.heap.size ≤ b ∧ b < w2.heap.size) (w1.heap.size + 1) ⟨M, 1, []⟩ none 0 [] :=
      ⟨ho, Own.nil _ _ _ _, Nat.zero_le _, fun b hb => by have := f1.size; omega, f1.trans_no hf⟩
    clear ho
    go_wp2_with fail
    go_loopw [8, 9] (fun lv i wr => ∃ (k : Nat) (A : Option Addr) (c : Nat) (O : Nat → Prop), k ≤ M ∧ i = .int .i64 k ∧ lv = .slice A k c ∧ InvA w wr O (w1.heap.size + 1) ⟨M, 1, List.replicate k none⟩ A c (List.range' 1 k)) (fun _ i _ => M - (intOf i).toNat)
    case atStart => exact ⟨0, none, 0, _, Nat.zero_le _, rfl, rfl, hI⟩
    case round =>
      obtain ⟨k, A, c, O, hk, rfl, rfl, h3⟩ := hrel
      by_cases hlt : k < M
      · go_wp2_with fail
        refine (h3.open1 (open_rep hlt) (by simp; omega)).mono ?_
        rintro e w3 ⟨rfl, h4⟩
        have hown : Own w3 (Pm w O) 3 (fun _ => True) A (k * 1) (c * 1) (ivs (List.range' 1 k)) := by have := h4.own; rwa [List.length_range'] at this
        have HO := hid hown
        have hnew := h4.new (b := w3.heap.size + 1) (by omega)
        have HN := hid hnew
        clear h3 hown hnew
        go_wp2_with (at_builtin; go_must (refine wpList_app _ rfl (.tmp 57) (.tmp 59) _ rfl 3 i0 _ 1 8 Try.underlying55 hi0 hz0 hz1 hz2 rfl (by omega) (T := fun _ => True) (fun _ _ => trivial) (O := Pm w O) (by simpa using HN.out) rfl (HO.out.alloc _) (m := 1) rfl (rd_one _ _ _) (by simp [Value.oneCell']) (by simp only [maxLen]; omega) (by omega) ?_); intro A5 c5 w5 hown5 hf5 hc5 hA5)
        go_roundw
        case rel =>
          refine ⟨k + 1, A5, c5, O, by omega, by go_num, rfl, h4.list (((Fr.refl _ _).alloc _).trans hf5 fun _ _ h => h) (fun b hb => h4.at_ b hb) ?_ (hc5 h4.cap)⟩
          rw [ivs_snoc, List.length_range']
          exact hown5
        case measure => simp [intOf]; omega
      · obtain rfl : k = M := by omega
        obtain ⟨hg, hs⟩ := OGood.start k m1
        rw [← hs] at h3
        have HG := hid hg
        clear hs hg hI
        go_wp2_with fail
        refine (h3.open1 (r := (0, 8)) (s' := Sl k (List.range' 1 k) 0) (by simp [OW.open_, Sl, Fl_len]) (by simp [Sl, Fl_len]; omega)).mono ?_
        rintro e w3 ⟨rfl, h4⟩
        clear h3
        go_wp2_with fail
        go_loopg [8, 14, 15] k (fun q lv gv iv wr => ∃ (left : List Nat) (g i : Nat) (A : Option Addr) (c : Nat) (O : Nat → Prop), lv = .slice A left.length c ∧ gv = .int .i64 g ∧ iv = .int .i64 i ∧ Hid (q = left.length) ∧ i + left.length = k ∧ OGood k left g ∧ InvA w wr O (w1.heap.size + 1) (Sl k left g) A c left)
        case atStart => exact ⟨List.range' 1 k, 0, 0, A, c, O, by simp, rfl, rfl, by simp [Hid], by simp, HG.out, h4⟩
        case round =>
          obtain ⟨left, g, i, A6, c6, O6, rfl, rfl, rfl, hq, hil, hg, h5⟩ := hrel
          obtain ⟨q2, hq2⟩ : ∃ q2, q2 = gk := ⟨_, rfl⟩
          subst hq2
          have HIL := hid hil
          have hgle := hg.le
          have HG6 := hid hg
          clear hil hg
          rcases left with _ | ⟨y, t⟩
          · have hgk : g = k := (HG6.out.first).1 rfl
            subst hgk
            go_wp2_with fail
            refine (h5.first1).mono ?_
            rintro e w6 ⟨rfl, _, h6⟩
            rw [show (Sl g [] g).first = 0 by simp [OW.first, Sl, Fl]]
            go_wp2_with fail
            go_ret
            exact ⟨rfl, h6.fr⟩
          · obtain ⟨N, hN⟩ : ∃ N, N = (y :: t).length := ⟨_, rfl⟩
            have hN1 : 1 ≤ N := by rw [hN]; simp
            have hNk : i + N ≤ k := by have := HIL.out; omega
            rw [← hN]
            have HN := hid hN
            have H5 := hid h5
            have HF := hid h5.fr
            clear hN h5 h4
            go_upto_if 74 with fail
            go_cut [16] (fun kv wc => ∃ j : Nat, kv = .int .i64 j ∧ j < N ∧ wr = wc)
            case first =>
              by_cases hin : i < n
              · obtain ⟨b7, o7, z7, rfl, _, hz7, hc7⟩ := (HZ.out.fr HF.out fun _ _ _ h => h).at_ hin
                rw [List.getElem?_map] at hz7
                obtain ⟨z, hz, rfl⟩ := Option.map_eq_some_iff.1 hz7
                clear hz7 hz
                have p0 := Int.emod_nonneg z (show (N : Int) ≠ 0 by omega)
                have p1 := Int.emod_lt_of_pos z (show (0 : Int) < N by omega)
                obtain ⟨j, hj⟩ : ∃ j : Nat, z % (N : Int) = (j : Int) := ⟨(z % (N : Int)).toNat, by omega⟩
                have hjN : j < N := by omega
                have HJ := hid hj
                clear hj
                go_wp2_with fail
                refine (pick_any z N wr (by omega) (by omega)).mono ?_
                rintro e w7 ⟨rfl, rfl⟩
                rw [HJ.out]
                go_wp2_with fail
                go_meet
                exact ⟨j, rfl, hjN, rfl⟩
              · go_wp2_with fail
                go_meet
                exact ⟨0, rfl, by omega, rfl⟩
            case rest =>
              obtain ⟨j, rfl, hjN, rfl⟩ := hcut
              have hjl : j < (y :: t).length := by rw [← HN.out]; exact hjN
              obtain ⟨v, hv⟩ : ∃ v, v = (y :: t)[j] := ⟨_, rfl⟩
              obtain ⟨r, he, hg'⟩ := HG6.out.step hjl
              rw [← hv] at he
              obtain ⟨b8, rfl, hc8⟩ := H5.out.head hjl
              rw [← hv] at hc8
              have hvk : v ≤ 64 := by have := (HG6.out.within v (by rw [hv]; exact List.getElem_mem hjl)).2; omega
              have hgr : g + r ≤ 64 := by have := hg'.le; omega
              have hu8 := u8_nat (show v < 256 by omega)
              have HE := hid he
              have HG' := hid hg'
              have ji0 : (0 : Int) ≤ (j : Int) := by omega
              have ji1 : (j : Int) < (N : Int) := by omega
              have HV := hid hv
              clear he hg' hv
              go_wp2_with fail
              go_region_held3 (fun w' => w'.cell? ⟨b8, j, none⟩ = some (.int .i64 v)) (first | assumption | exact (World.cell?_alloc_lt _ _ ⟨b8, j, none⟩ (block_lt_of_cell hc8)).trans hc8 | exact k8)
                ((go_at_call 12; refine (InvA.done1 (w := (wr.drewN 1).alloc _) (H5.out.n_step (((Fr.refl No _).drewN 1).alloc _)) v (rdb_nb (wr.drewN 1) (v := v) (by omega) _) (by simp [nb]) HE.out).mono ?_; rintro e w8 ⟨X, d8, O8, he8, hx8, h8⟩; rw [List.length_map, List.length_range'] at he8; subst he8; have k8 : w8.cell? ⟨b8, j, none⟩ = some (.int .i64 v) := (by obtain ⟨b9, e9, hc9⟩ := h8.head hjl; injection e9 with e9; injection e9 with e9 _; rw [e9, HV.out]; exact hc9)))
              clear hc8 k8 hu8
              have HX8 := hid hx8
              have H8 := hid h8
              clear hx8 h8
              obtain ⟨wo, hwo⟩ : ∃ wo, wo = wr := ⟨_, rfl⟩
              subst hwo
              go_wp2_with fail
              go_loopg [14, 19] r (fun q gv jv wl => ∃ p : Nat, Hid (p + q = r) ∧ gv = .int .i64 ((g + p : Nat) : Int) ∧ jv = .int .i64 (p : Nat) ∧ Hid (Fr No w8 wl))
              case atStart => exact ⟨0, by simp [Hid], by simp, rfl, Fr.refl _ _⟩
              case round =>
                obtain ⟨p, hp, rfl, rfl, hfl⟩ := hrel
                by_cases hpr : p < r
                · obtain ⟨bX, oX, rfl, hcX⟩ := HX8.out.head (by simp; omega)
                  obtain ⟨A9, n9, c9, l9, hl9, hc9, _, hr9⟩ := hcX p (by simp; omega)
                  have hl9' : l9 = nb (g + p + 1) := by
                    rw [List.getElem?_map, List.getElem?_range' hpr] at hl9
                    simp at hl9
                    rw [← hl9]
                    congr 1
                    omega
                  subst hl9'
                  replace hc9 : wr.cell? ⟨bX, oX + p, none⟩ = some (.slice A9 n9 c9) := hfl.out.cell (fun h => h) hc9
                  replace hr9 : RdB wr O8 A9 n9 (nb (g + p + 1)) := Rd.fr hr9 hfl.out fun _ _ _ h => h
                  have hu9 := u8_nat (show g + p + 1 < 256 by omega)
                  have hg9 : g + p < 100 := by omega
                  clear hcX hl9
                  go_wp2_with (go_at_call 14; go_must (refine (same_bytes (c := c9) (d := 1) (Rd.alloc hr9 _) (rdb_nb wr (v := g + p + 1) (by omega) _)).mono ?_; rintro e w9 ⟨rfl, rfl⟩))
                  go_roundg (gk - 1)
                  case measure => have := hp.out; omega
                  case rel => exact ⟨p + 1, by have := hp.out; simp only [Hid]; omega, by go_num, by go_num, hfl.out.alloc _⟩
                · obtain rfl : p = r := by have := hp.out; omega
                  go_wp2_with fail
                  have h10 := H8.out.n_step hfl.out
                  have hlt := HN.out
                  have hc6 : (y :: t).length ≤ c6 := by have := h10.own.le; omega
                  have hr1 : Rd wr (Pm w O8) (some ⟨b8, 0, none⟩) (j * 1) ((ivs (y :: t)).take j) := by have h := h10.own.rd.take (k := j * 1) (by omega); rwa [Nat.mul_one] at h ⊢
                  have hr2 : Rd wr (Pm w O8) (if c6 = j + 1 then some ⟨b8, 0, none⟩ else some ⟨b8, j + 1, none⟩) ((N - (j + 1)) * 1) ((ivs (y :: t)).drop (j + 1)) := by
                    have h := h10.own.rd.cut (k := j + 1) (cap := c6) (by omega) (by omega)
                    simpa [add_lit_none, hlt] using h
                  have hn1 := h10.new (b := wr.heap.size) (Nat.le_refl _)
                  have hn2 := fun b (hb : wr.heap.size ≤ b) => h10.new hb
                  have HR1 := hid hr1
                  have HR2 := hid (hr2.mono (O' := fun b => b < wr.heap.size) fun b hb _ => hb)
                  have HN1 := hid hn1
                  have HN2 := hid hn2
                  have HN1' := hid (hn2 (wr.heap.size + 1) (by omega))
                  have H10 := hid h10
                  have hcN : N ≤ c6 := by omega
                  have hcm := h10.cap
                  clear hr1 hr2 hn1 hn2 h10 hc6 hlt
                  have hwj : IntKind.i64.wrap ((j : Int) + 1) = (j : Int) + 1 := IntWalk.i64_in _ (by omega)
                  have j0 : (0 : Int) ≤ (j : Int) + 1 := by omega
                  have j1 : ((j : Int) + 1).toNat = j + 1 := by omega
                  have j2 : (j : Int) + 1 ≤ (N : Int) := by omega
                  have j3 : (j : Int) ≤ (c6 : Int) := by omega
                  have hlit : ∀ l, (ivs l).length = l.length := fun l => by simp [ivs]
                  obtain ⟨N1, hN1⟩ : ∃ N1, N1 + 1 = N := ⟨N - 1, by omega⟩
                  have HNN := hid hN1
                  clear hN1
                  go_cut [8, 14] (fun lv gv wc => ∃ (A : Option Addr) (c G : Nat), lv = .slice A N1 c ∧ gv = .int .i64 (G : Nat) ∧ Hid (G = g + p) ∧ Hid (InvA w wc O8 (w1.heap.size + 1) (Sl k ((y :: t).eraseIdx j) (g + p)) A c ((y :: t).eraseIdx j)))
                  case first =>
                   go_region_held3 (fun _ => True) (trivial)
                    (first
                      | ((refine step_app _ (by rfl) (.tmp 116) (.tmp 119) _ (by rfl) 3 i0 _ 1 8 Try.underlying55 hi0 hz0 hz1 hz2 rfl (by omega) (T := fun _ => True) (fun _ _ => trivial) (O := Pm w O8) (by rw [size_ad]; exact HN1'.out) (by rfl) (own_litP HN1.out) (m := j) (by rfl) (Rd.alloc HR1.out _) (fun u hu => ivs_one _ u (List.mem_of_mem_take hu)) (by simp only [maxLen]; omega) (by omega) ?_; intro A11 c11 w11 hown11 hf11 hc11 hA11; have F11 := arm_size hf11; have N11 := HN2.out _ F11; have R11 := arm_rd HR2.out hf11; have O11 := hid hown11; have Q11 := hid hA11; clear hown11 hA11))
                      | (go_must ((refine step_app _ (by rfl) (.tmp 120) (.tmp 124) _ (by rfl) 3 i0 _ 1 8 Try.underlying55 hi0 hz0 hz1 hz2 rfl (by omega) (T := fun _ => True) (fun _ _ => trivial) (O := Pm w O8) N11 (by rfl) O11.out (m := N - (j + 1)) (by rfl) R11 (fun u hu => ivs_one _ u (List.mem_of_mem_drop hu)) (by simp only [maxLen]; omega) (by omega) ?_; intro A12 c12 w12 hown12 hf12 hc12 hA12))))
                   all_goals (go_wp2_with fail)
                   all_goals
                    go_meet
                    have hlN := HN.out
                    have hnn := HNN.out
                    refine ⟨A12, c12, g + p, by rw [show j + (N - (j + 1)) = N1 by omega], rfl, rfl, ?_⟩
                    refine H10.out.cut hjl ?_ hf11 rfl hf12 Q11.out (hc11 (Nat.zero_le _)) hc12
                    rw [← hlN]
                    exact hown12
                  case rest =>
                    obtain ⟨A13, c13, G, rfl, rfl, hG, hI⟩ := hcut
                    have hgood := HG'.out
                    have hlen' : ((y :: t).eraseIdx j).length = N1 := by rw [List.length_eraseIdx_of_lt hjl]; have := HN.out; have := HNN.out; omega
                    have hGk : G ≤ k := by have := hgood.le; have := hG.out; omega
                    have hN1k : N1 ≤ 64 := by have := HNN.out; omega
                    have e1 : (((Sl k ((y :: t).eraseIdx j) (g + p)).L.length : Nat) : Int) = (k : Int) - (G : Int) := by
                      rw [hG.out]
                      simp only [Sl, Fl_len]
                      have := hgood.le
                      omega
                    have e2 : (((Sl k ((y :: t).eraseIdx j) (g + p)).ready : Nat) : Int) = (k : Int) - (N1 : Int) - (G : Int) := by
                      have := hgood.ready
                      rw [hlen'] at this
                      rw [hG.out]
                      omega
                    have E1 := hid e1
                    have E2 := hid e2
                    have HL := hid hlen'
                    clear e1 e2 hlen' hgood
                    rcases N1 with _ | N2
                    · go_wp2_with fail
                      refine (hI.out.len1).mono ?_
                      rintro e wA ⟨heA, _, h11⟩
                      rw [E1.out] at heA
                      subst heA
                      have H11 := hid h11
                      clear h11
                      go_wp2_with fail
                      refine (H11.out.ready1).mono ?_
                      rintro e wB ⟨heB, rfl⟩
                      rw [E2.out] at heB
                      subst heB
                      go_wp2_with fail
                      go_roundg (q2 - 1)
                      case measure => have h1 := hq.out; have h2 := HN.out; omega
                      case rel => exact ⟨(y :: t).eraseIdx j, G, i + 1, A13, c13, O8, by rw [HL.out], rfl, by go_num, by have h1 := hq.out; have h2 := HN.out; have h3 := HNN.out; have h4 := HL.out; simp only [Hid]; omega, by have h1 := HIL.out; have h2 := HN.out; have h3 := HNN.out; have h4 := HL.out; omega, by rw [hG.out]; exact HG'.out, by rw [hG.out]; exact H11.out⟩
                    · obtain ⟨b14, rfl, hc14⟩ := hI.out.head (k := 0) (by rw [HL.out]; omega)
                      have hhead : (((y :: t).eraseIdx j)[0]'(by rw [HL.out]; omega) : Nat) = G + 1 := head_of _ (fun u v' e => by rw [(HG'.out.first).2 u v' e, hG.out])
                      rw [hhead] at hc14
                      clear hhead
                      have hG64 : G ≤ 64 := by omega
                      go_wp2_with fail
                      refine (hI.out.len1).mono ?_
                      rintro e wA ⟨heA, hqA, h11⟩
                      rw [E1.out] at heA
                      subst heA
                      replace hc14 : wA.cell? ⟨b14, 0, none⟩ = some (.int .i64 ((G + 1 : Nat) : Int)) := by obtain ⟨k, rfl⟩ := hqA.out; exact hc14
                      have H11 := hid h11
                      clear h11
                      go_wp2_with fail
                      refine (H11.out.ready1).mono ?_
                      rintro e wB ⟨heB, rfl⟩
                      rw [E2.out] at heB
                      subst heB
                      go_wp2_with fail
                      go_roundg (q2 - 1)
                      case measure => have h1 := hq.out; have h2 := HN.out; omega
                      case rel => exact ⟨(y :: t).eraseIdx j, G, i + 1, (some ⟨b14, 0, none⟩), c13, O8, by rw [HL.out], rfl, by go_num, by have h1 := hq.out; have h2 := HN.out; have h3 := HNN.out; have h4 := HL.out; simp only [Hid]; omega, by have h1 := HIL.out; have h2 := HN.out; have h3 := HNN.out; have h4 := HL.out; omega, by rw [hG.out]; exact HG'.out, by rw [hG.out]; exact H11.out⟩
end Go.Proofs.Ytoehknanlaamlaa
