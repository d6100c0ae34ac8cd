/- The plain law of the sealed channel's machine: pushing in pieces is pushing all at once; what it keeps is short; what one sends another one tells. -/
import Derived.Test.YtfkkaalchffgaaaPush
namespace Go.Ost

/-- With y behind what is kept. -/
def PC.more (s : PC) (y : List UInt8) : PC := { s with b := s.b ++ y }

theorem PC.one_more (s : PC) (y : List UInt8) (h : s.one.2.2.1 ≠ 0 ∨ s.one.2.1 ≠ 0) : (s.more y).one = (s.one.1, s.one.2.1, s.one.2.2.1, s.one.2.2.2.more y) := by
  obtain ⟨b, hello, ended, broken, greeted, shut⟩ := s
  match b, h with
  | [], h => simp [PC.one] at h
  | z :: t, h =>
    simp only [PC.more, List.cons_append]
    by_cases hk : z.toNat < 1 ∨ 3 < z.toNat ∨ decide (z.toNat = 1) = hello
    · simp only [PC.one, if_pos hk, List.cons_append]
    · match t, h with
      | [], h => simp only [PC.one, if_neg hk] at h; simp at h
      | [x], h => simp only [PC.one, if_neg hk] at h; simp at h
      | x :: y' :: r, h =>
        simp only [PC.one, if_neg hk, List.cons_append] at h ⊢
        generalize 256 * x.toNat + y'.toNat = n at h ⊢
        by_cases h1 : (z.toNat = 1 ∧ n ≠ 1) ∨ (z.toNat = 3 ∧ n ≠ 0)
        · simp only [if_pos h1, List.cons_append]
        · by_cases h2 : 1024 < n
          · simp only [if_neg h1, if_pos h2, List.cons_append]
          · by_cases h3 : r.length < n
            · simp only [if_neg h1, if_neg h2, if_pos h3] at h; simp at h
            · have h3' : ¬ (r ++ y).length < n := by rw [List.length_append]; omega
              simp only [if_neg h1, if_neg h2, if_neg h3, if_neg h3']
              by_cases h4 : z.toNat = 1
              · have hn : n = 1 := Decidable.byContradiction fun e => h1 (.inl ⟨h4, e⟩)
                subst hn
                match r, h3 with
                | v :: r', _ =>
                  simp only [if_pos h4, List.cons_append, List.head?_cons]
                  by_cases hv : v = 1 <;> simp [hv]
                | [], h3 => simp at h3
              · simp only [if_neg h4]
                by_cases h5 : z.toNat = 3
                · simp only [if_pos h5, List.cons_append]
                · simp only [if_neg h5, List.cons_append]
                  rw [List.take_append_of_le_length (by omega)]

/-- Nothing whole is kept. -/
theorem PC.one_none (s : PC) (h1 : s.one.2.2.1 = 0) (h2 : s.one.2.1 = 0) : s.one = ([], 0, 0, s) ∧ s.b.length ≤ 1026 := by
  obtain ⟨b, hello, ended, broken, greeted, shut⟩ := s
  match b, h1, h2 with
  | [], _, _ => simp [PC.one]
  | z :: t, h, h' =>
    by_cases hk : z.toNat < 1 ∨ 3 < z.toNat ∨ decide (z.toNat = 1) = hello
    · simp only [PC.one, if_pos hk] at h; simp at h
    · match t, h, h' with
      | [], _, _ => simp only [PC.one, if_neg hk]; simp
      | [x], _, _ => simp only [PC.one, if_neg hk]; simp
      | x :: y' :: r, h, h' =>
        simp only [PC.one, if_neg hk] at h h' ⊢
        generalize 256 * x.toNat + y'.toNat = n at h h' ⊢
        by_cases h1 : (z.toNat = 1 ∧ n ≠ 1) ∨ (z.toNat = 3 ∧ n ≠ 0)
        · simp only [if_pos h1] at h; simp at h
        · by_cases h2 : 1024 < n
          · simp only [if_neg h1, if_pos h2] at h; simp at h
          · by_cases h3 : r.length < n
            · simp only [if_neg h1, if_neg h2, if_pos h3]
              refine ⟨trivial, ?_⟩
              simp only [List.length_cons]
              omega
            · exfalso
              simp only [if_neg h1, if_neg h2, if_neg h3] at h h'
              by_cases h4 : z.toNat = 1
              · by_cases h5 : r.head? ≠ some (1 : UInt8)
                · simp only [if_pos h4, if_pos h5] at h; simp at h
                · simp only [if_pos h4, if_neg h5] at h'; simp at h'
              · by_cases h5 : z.toNat = 3
                · simp only [if_neg h4, if_pos h5] at h'; simp at h'
                · simp only [if_neg h4, if_neg h5] at h'; omega

theorem PC.one_err (s : PC) (h : s.one.2.2.1 ≠ 0) : s.one.2.2.2 = s := by
  obtain ⟨b, hello, ended, broken, greeted, shut⟩ := s
  match b, h with
  | [], h => simp [PC.one] at h
  | z :: t, h =>
    by_cases hk : z.toNat < 1 ∨ 3 < z.toNat ∨ decide (z.toNat = 1) = hello
    · simp only [PC.one, if_pos hk]
    · match t, h with
      | [], h => simp only [PC.one, if_neg hk] at h; simp at h
      | [x], h => simp only [PC.one, if_neg hk] at h; simp at h
      | x :: y' :: r, h =>
        simp only [PC.one, if_neg hk] at h ⊢
        generalize 256 * x.toNat + y'.toNat = n at h ⊢
        repeat' split
        all_goals first | rfl | (simp_all; done)

theorem PC.one_eq (s : PC) : s.one = (s.one.1, s.one.2.1, s.one.2.2.1, s.one.2.2.2) := rfl

theorem PC.run_step {s : PC} {x : List UInt8} {n : Nat} {e : Int} {s1 : PC} (h : s.one = (x, n, e, s1)) (f : Nat) (out : List UInt8) :
    PC.run (f + 1) s out = if e ≠ 0 then (out, e, { s1 with broken := true, b := [] }) else if s1.ended then (out ++ x, 0, { s1 with b := [] }) else if n = 0 then (out ++ x, 0, { s1 with b := s1.b.drop n }) else PC.run f { s1 with b := s1.b.drop n } (out ++ x) := by
  simp only [PC.run, h]

theorem PC.run_out : ∀ (f : Nat) (s : PC) (out : List UInt8), PC.run f s out = (out ++ (PC.run f s []).1, (PC.run f s []).2.1, (PC.run f s []).2.2)
  | 0, s, out => by simp [PC.run]
  | f + 1, s, out => by
    rw [PC.run_step s.one_eq f out, PC.run_step s.one_eq f []]
    by_cases h1 : s.one.2.2.1 ≠ 0
    · rw [if_pos h1, if_pos h1, List.append_nil]
    · rw [if_neg h1, if_neg h1]
      by_cases h2 : s.one.2.2.2.ended = true
      · rw [if_pos h2, if_pos h2, List.nil_append]
      · rw [if_neg h2, if_neg h2]
        by_cases h3 : s.one.2.1 = 0
        · rw [if_pos h3, if_pos h3, List.nil_append]
        · rw [if_neg h3, if_neg h3, List.nil_append]
          rw [PC.run_out f _ (out ++ s.one.1), PC.run_out f _ s.one.1]
          simp only [List.append_assoc]

theorem PC.run_fuel : ∀ (f g : Nat) (s : PC) (out : List UInt8), s.b.length < f → s.b.length < g → PC.run f s out = PC.run g s out
  | 0, _, _, _, h, _ => by omega
  | _ + 1, 0, _, _, _, h => by omega
  | f + 1, g + 1, s, out, hf, hg => by
    obtain ⟨k1, k2, _⟩ := s.one_keeps
    rw [PC.run_step s.one_eq f out, PC.run_step s.one_eq g out]
    by_cases h1 : s.one.2.2.1 ≠ 0
    · rw [if_pos h1, if_pos h1]
    · rw [if_neg h1, if_neg h1]
      by_cases h2 : s.one.2.2.2.ended = true
      · rw [if_pos h2, if_pos h2]
      · rw [if_neg h2, if_neg h2]
        by_cases h3 : s.one.2.1 = 0
        · rw [if_pos h3, if_pos h3]
        · rw [if_neg h3, if_neg h3]
          exact PC.run_fuel f g _ _ (by simp only [List.length_drop, k1]; omega) (by simp only [List.length_drop, k1]; omega)

/-- A record of it all is taken: the same with more behind. -/
theorem PC.run_split : ∀ (f : Nat) (s : PC) (out : List UInt8), s.b.length < f → s.ended = false → (PC.run f s out).2.1 = 0 → (PC.run f s out).2.2.ended = false →
    ∀ (y : List UInt8) (g k : Nat), s.b.length + y.length < g → (PC.run f s out).2.2.b.length + y.length < k → PC.run g (s.more y) out = PC.run k ((PC.run f s out).2.2.more y) (PC.run f s out).1
  | 0, _, _, h, _, _, _ => by omega
  | f + 1, s, out, hf, he, h0, hend => fun y g k hg hk => by
    obtain ⟨k1, k2, _⟩ := s.one_keeps
    rw [PC.run_step s.one_eq f out] at h0 hend hk ⊢
    by_cases h1 : s.one.2.2.1 ≠ 0
    · rw [if_pos h1] at h0; exact absurd h0 h1
    · rw [if_neg h1] at h0 hend hk ⊢
      by_cases h2 : s.one.2.2.2.ended = true
      · rw [if_pos h2] at hend; rw [h2] at hend; cases hend
      · rw [if_neg h2] at h0 hend hk ⊢
        by_cases h3 : s.one.2.1 = 0
        · have e := (s.one_none (by simpa using h1) h3).1
          have e' : ({ s.one.2.2.2 with b := s.one.2.2.2.b.drop s.one.2.1 } : PC) = s := by rw [h3, e]; simp
          have e2 : out ++ s.one.1 = out := by rw [e]; simp
          rw [if_pos h3, e', e2] at hk ⊢
          exact PC.run_fuel _ _ _ _ (by simp only [PC.more, List.length_append]; omega) (by simp only [PC.more, List.length_append] at hk ⊢; omega)
        · rw [if_neg h3] at h0 hend hk ⊢
          obtain ⟨g', rfl⟩ : ∃ g', g = g' + 1 := ⟨g - 1, by omega⟩
          have hd : (s.one.2.2.2.b ++ y).drop s.one.2.1 = s.one.2.2.2.b.drop s.one.2.1 ++ y := List.drop_append_of_le_length (by rw [k1]; exact k2)
          rw [PC.run_step (s.one_more y (.inr h3)) g' out, if_neg h1, if_neg (by simpa [PC.more] using h2), if_neg h3]
          have := PC.run_split f { s.one.2.2.2 with b := s.one.2.2.2.b.drop s.one.2.1 } (out ++ s.one.1) (by simp only [List.length_drop, k1]; omega) (by simpa using h2) h0 hend y g' k (by simp only [List.length_drop, k1]; omega) hk
          rw [← this]
          simp only [PC.more, hd]

/-- Where it stops it stops with more behind. -/
theorem PC.run_stop : ∀ (f : Nat) (s : PC) (out : List UInt8), s.b.length < f → s.ended = false → ((PC.run f s out).2.1 ≠ 0 ∨ (PC.run f s out).2.2.ended = true) →
    ∀ (y : List UInt8) (g : Nat), s.b.length + y.length < g → PC.run g (s.more y) out = PC.run f s out
  | 0, _, _, h, _, _ => by omega
  | f + 1, s, out, hf, he, h0 => fun y g hg => by
    obtain ⟨k1, k2, _⟩ := s.one_keeps
    obtain ⟨g', rfl⟩ : ∃ g', g = g' + 1 := ⟨g - 1, by omega⟩
    rw [PC.run_step s.one_eq f out] at h0 ⊢
    by_cases h1 : s.one.2.2.1 ≠ 0
    · rw [PC.run_step (s.one_more y (.inl h1)) g' out, if_pos h1, if_pos h1]
      rfl
    · by_cases h3 : s.one.2.1 = 0
      · exfalso
        have e := (s.one_none (by simpa using h1) h3).1
        have e1 : s.one.2.2.2 = s := by rw [e]
        rw [if_neg h1, e1, if_neg (by simp [he]), if_pos h3] at h0
        rcases h0 with h0 | h0
        · exact h0 rfl
        · rw [he] at h0; cases h0
      · rw [PC.run_step (s.one_more y (.inr h3)) g' out]
        rw [if_neg h1] at h0 ⊢
        rw [if_neg h1]
        by_cases h2 : s.one.2.2.2.ended = true
        · rw [if_pos h2, if_pos (by simpa [PC.more] using h2)]
          rfl
        · rw [if_neg h2, if_neg h3] at h0 ⊢
          rw [if_neg (by simpa [PC.more] using h2), if_neg h3]
          have hd : (s.one.2.2.2.b ++ y).drop s.one.2.1 = s.one.2.2.2.b.drop s.one.2.1 ++ y := List.drop_append_of_le_length (by rw [k1]; exact k2)
          have := PC.run_stop f { s.one.2.2.2 with b := s.one.2.2.2.b.drop s.one.2.1 } (out ++ s.one.1) (by simp only [List.length_drop, k1]; omega) (by simpa using h2) h0 y g' (by simp only [List.length_drop, k1]; omega)
          rw [← this]
          simp only [PC.more, hd]

/-- How a run ends. -/
theorem PC.run_end : ∀ (f : Nat) (s : PC) (out : List UInt8), s.b.length < f → s.broken = false → s.ended = false →
    ((PC.run f s out).2.1 ≠ 0 → (PC.run f s out).2.2.broken = true ∧ (PC.run f s out).2.2.b = [] ∧ (PC.run f s out).2.2.ended = false) ∧
    ((PC.run f s out).2.1 = 0 → (PC.run f s out).2.2.broken = false ∧ (PC.run f s out).2.2.b.length ≤ 1026 ∧ ((PC.run f s out).2.2.ended = false → (PC.run f s out).2.2.one = ([], 0, 0, (PC.run f s out).2.2)))
  | 0, _, _, h, _, _ => by omega
  | f + 1, s, out, hf, hb, he => by
    obtain ⟨k1, k2, k3, k4, _⟩ := s.one_keeps
    rw [PC.run_step s.one_eq f out]
    by_cases h1 : s.one.2.2.1 ≠ 0
    · rw [if_pos h1]
      exact ⟨fun _ => ⟨rfl, rfl, by rw [s.one_err h1]; exact he⟩, fun h => absurd h h1⟩
    · rw [if_neg h1]
      by_cases h2 : s.one.2.2.2.ended = true
      · rw [if_pos h2]
        exact ⟨fun h => absurd rfl h, fun _ => ⟨by rw [k4]; exact hb, Nat.zero_le _, fun h => by rw [h2] at h; cases h⟩⟩
      · rw [if_neg h2]
        by_cases h3 : s.one.2.1 = 0
        · have e := s.one_none (by simpa using h1) h3
          have e' : ({ s.one.2.2.2 with b := s.one.2.2.2.b.drop s.one.2.1 } : PC) = s := by rw [h3, e.1]; simp
          rw [if_pos h3, e']
          exact ⟨fun h => absurd rfl h, fun _ => ⟨hb, e.2, fun _ => e.1⟩⟩
        · rw [if_neg h3]
          exact PC.run_end f _ _ (by simp only [List.length_drop, k1]; omega) (by rw [k4]; exact hb) (by simpa using h2)

/-- Pieces, one behind the other, till it is broken or ended. -/
def PC.feed : PC → List UInt8 → List (List UInt8) → List UInt8 × Int × PC
  | s, out, [] => (out, 0, s)
  | s, out, x :: l => if s.ended then (out, 0, s) else if (s.push x).2.1 ≠ 0 then (out ++ (s.push x).1, (s.push x).2.1, (s.push x).2.2) else PC.feed (s.push x).2.2 (out ++ (s.push x).1) l

theorem PC.feed_ended (s : PC) (out : List UInt8) (l : List (List UInt8)) (h : s.ended = true) : PC.feed s out l = (out, 0, s) := by
  cases l with
  | nil => rfl
  | cons x l => simp only [PC.feed, if_pos h]

/-- However it is cut, the same is told. -/
theorem PC.feed_flat : ∀ (l : List (List UInt8)) (s : PC) (out : List UInt8), s.one = ([], 0, 0, s) → s.broken = false → s.ended = false → ∀ g, s.b.length + l.flatten.length < g → PC.feed s out l = PC.run g (s.more l.flatten) out
  | [], s, out, h1, _, he => fun g hg => by
    obtain ⟨g', rfl⟩ : ∃ g', g = g' + 1 := ⟨g - 1, by omega⟩
    have e : s.more [].flatten = s := by simp [PC.more]
    rw [e, PC.run_step h1 g' out, if_neg (by simp), if_neg (by simp [he]), if_pos rfl]
    simp [PC.feed]
  | x :: l, s, out, h1, hb, he => fun g hg => by
    have ep : s.push x = PC.run (s.b.length + x.length + 1) (s.more x) [] := by unfold PC.push; rw [if_neg (by simp [hb, he])]; rfl
    have er := PC.run_out (s.b.length + x.length + 1) (s.more x) out
    have hlen : (s.more x).b.length < s.b.length + x.length + 1 := by simp only [PC.more, List.length_append]; omega
    have hend := PC.run_end (s.b.length + x.length + 1) (s.more x) [] hlen hb he
    rw [← ep] at er hend
    have em : s.more (x :: l).flatten = (s.more x).more l.flatten := by simp [PC.more]
    rw [List.flatten_cons, List.length_append] at hg
    have hg2 : (s.more x).b.length + l.flatten.length < g := by simp only [PC.more, List.length_append]; omega
    rw [em]
    simp only [PC.feed, he, Bool.false_eq_true, if_false]
    by_cases h2 : (s.push x).2.1 ≠ 0
    · rw [if_pos h2]
      rw [PC.run_stop _ (s.more x) out hlen he (.inl (by rw [er]; exact h2)) l.flatten g hg2, er]
    · rw [if_neg h2]
      have h2' : (s.push x).2.1 = 0 := by simpa using h2
      cases h3 : (s.push x).2.2.ended with
      | true =>
        rw [PC.feed_ended _ _ _ h3, PC.run_stop _ (s.more x) out hlen he (.inr (by rw [er]; exact h3)) l.flatten g hg2, er, h2']
      | false =>
        obtain ⟨q1, q2, q3⟩ := hend.2 h2'
        rw [PC.feed_flat l _ _ (q3 h3) q1 h3 ((s.push x).2.2.b.length + l.flatten.length + 1) (by omega)]
        have := PC.run_split _ (s.more x) out hlen he (by rw [er]; exact h2') (by rw [er]; exact h3) l.flatten g ((s.push x).2.2.b.length + l.flatten.length + 1) hg2 (by rw [er]; simp only; omega)
        rw [this, er]

theorem be2_size (n : Nat) (h : n ≤ 1024) : ∃ x y : UInt8, be2 n = [x, y] ∧ 256 * x.toNat + y.toNat = n := by
  refine ⟨_, _, rfl, ?_⟩
  rw [UInt8.toNat_ofNat', UInt8.toNat_ofNat']
  omega

theorem PC.run_datum (f : Nat) (s : PC) (x t out : List UInt8) (hb : s.b = datum x ++ t) (hx : x.length ≤ 1024) (hh : s.hello = true) (he : s.ended = false) : PC.run (f + 1) s out = PC.run f { s with b := t } (out ++ x) := by
  obtain ⟨u, v, e1, e2⟩ := be2_size x.length hx
  obtain ⟨b, hello, ended, broken, greeted, shut⟩ := s
  simp only at hb hh he
  subst hh he
  have eb : b = 2 :: u :: v :: (x ++ t) := by rw [hb]; simp [datum, e1]
  subst eb
  have h2 : (2 : UInt8).toNat = 2 := rfl
  have h3 : ¬ 1024 < x.length := by omega
  have h4 : ¬ (x ++ t).length < x.length := by simp
  have hone : PC.one ⟨2 :: u :: v :: (x ++ t), true, false, broken, greeted, shut⟩ = (x, 3 + x.length, 0, ⟨2 :: u :: v :: (x ++ t), true, false, broken, greeted, shut⟩) := by
    simp only [PC.one, h2, e2]
    simp [h3]
    omega
  simp only [PC.run, hone]
  have ed : List.drop (3 + x.length) (2 :: u :: v :: (x ++ t)) = t := by rw [Nat.add_comm]; simp
  simp [ed]

theorem PC.run_data : ∀ (recs : List (List UInt8)) (f : Nat) (s : PC) (t out : List UInt8), s.b = (recs.map datum).flatten ++ t → (∀ x ∈ recs, x.length ≤ 1024) → s.hello = true → s.ended = false →
    PC.run (f + recs.length) s out = PC.run f { s with b := t } (out ++ recs.flatten)
  | [], f, s, t, out, hb, _, _, _ => by
    simp only [List.map_nil, List.flatten_nil, List.nil_append] at hb
    simp only [List.length_nil, Nat.add_zero, List.flatten_nil, List.append_nil]
    rw [← hb]
  | x :: recs, f, s, t, out, hb, hx, hh, he => by
    rw [List.length_cons, ← Nat.add_assoc, PC.run_datum (f + recs.length) s x ((recs.map datum).flatten ++ t) out (by rw [hb]; simp) (hx x (by simp)) hh he,
      PC.run_data recs f { s with b := (recs.map datum).flatten ++ t } t (out ++ x) rfl (fun z hz => hx z (List.mem_cons_of_mem _ hz)) hh he]
    simp

/-- What one sends another one tells; and that it ended. -/
theorem PC.run_back (recs : List (List UInt8)) (hx : ∀ x ∈ recs, x.length ≤ 1024) (g : Nat) (s : PC) (hs : s.b = [1, 0, 1, 1] ++ (recs.map datum).flatten ++ [3, 0, 0]) (hh : s.hello = false) (he : s.ended = false) (hg : s.b.length < g) :
    PC.run g s [] = (recs.flatten, 0, { s with b := [], hello := true, ended := true }) := by
  have hl : recs.length + 2 ≤ s.b.length := by
    have : ∀ r : List (List UInt8), r.length ≤ (r.map datum).flatten.length := by
      intro r
      induction r with
      | nil => simp
      | cons x r ih => simp only [List.map_cons, List.flatten_cons, List.length_append, List.length_cons, datum]; omega
    have := this recs
    rw [hs]
    simp only [List.length_append, List.length_cons, List.length_nil]
    omega
  obtain ⟨k, rfl⟩ : ∃ k, g = (k + 1 + recs.length) + 1 := ⟨g - (recs.length + 2), by omega⟩
  obtain ⟨b, hello, ended, broken, greeted, shut⟩ := s
  simp only at hs hh he
  subst hh he
  have hone : PC.one ⟨1 :: 0 :: 1 :: 1 :: ((recs.map datum).flatten ++ [3, 0, 0]), false, false, broken, greeted, shut⟩ = ([], 4, 0, ⟨1 :: 0 :: 1 :: 1 :: ((recs.map datum).flatten ++ [3, 0, 0]), true, false, broken, greeted, shut⟩) := by
    have e1 : (1 : UInt8).toNat = 1 := rfl
    have e0 : (0 : UInt8).toNat = 0 := rfl
    simp only [PC.one, e1, e0]
    simp
  have eb : b = 1 :: 0 :: 1 :: 1 :: ((recs.map datum).flatten ++ [3, 0, 0]) := by rw [hs]; simp
  subst eb
  have e1 : PC.run ((k + 1 + recs.length) + 1) ⟨1 :: 0 :: 1 :: 1 :: ((recs.map datum).flatten ++ [3, 0, 0]), false, false, broken, greeted, shut⟩ [] = PC.run (k + 1 + recs.length) ⟨(recs.map datum).flatten ++ [3, 0, 0], true, false, broken, greeted, shut⟩ [] := by
    conv => lhs; unfold PC.run
    rw [hone]
    simp
  have hone2 : PC.one ⟨[3, 0, 0], true, false, broken, greeted, shut⟩ = ([], 3, 0, ⟨[3, 0, 0], true, true, broken, greeted, shut⟩) := by
    cases broken <;> cases greeted <;> cases shut <;> rfl
  rw [e1, PC.run_data recs (k + 1) _ [3, 0, 0] [] rfl hx rfl rfl]
  simp [PC.run, hone2]
end Go.Ost
