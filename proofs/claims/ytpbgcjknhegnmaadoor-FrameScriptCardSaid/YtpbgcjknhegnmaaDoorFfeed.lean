/- The plain law of the reader's machine: pieces, one behind the other, are as the whole; what it keeps is short; frames are read as their messages. -/
import Derived.Test.YtpbgcjknhegnmaaDoorFpush
import Derived.Test.YtpbgcjknhegnmaaDoorFput
namespace Go.Ost
/-- With y behind what is kept. -/
def FC.more (s : FC) (y : List UInt8) : FC := { s with b := s.b ++ y }
theorem two_more {b : List UInt8} {n : Nat} (h : two b = some n) (y : List UInt8) : two (b ++ y) = some n := by
  match b, h with
  | x :: z :: r, h => simpa [two] using h

/-- Nothing whole is kept. -/
def FC.stuck (s : FC) : Prop := two s.b = none ∨ ∃ n, two s.b = some n ∧ 12 ≤ n ∧ (n : Int) ≤ s.most ∧ s.b.length < n + 2

theorem FC.stuck_len {s : FC} (h : s.stuck) (hm : 12 ≤ s.most) : (s.b.length : Int) ≤ s.most + 1 := by
  rcases h with h | ⟨n, _, _, h3, h4⟩
  · have := two_none h; omega
  · omega
theorem FC.run_stuck {s : FC} (h : s.stuck) (f : Nat) (out : List (List UInt8)) : FC.run f s out = (out, s) := by
  cases f with
  | zero => rfl
  | succ f =>
    rcases h with h | ⟨n, h1, h2, h3, h4⟩
    · exact FC.run_none h f out
    · rw [FC.run_some h1, if_neg (by omega), if_neg (by omega), if_pos h4]

theorem FC.run_out : ∀ (f : Nat) (s : FC) (out : List (List UInt8)), FC.run f s out = (out ++ (FC.run f s []).1, (FC.run f s []).2)
  | 0, s, out => by simp [FC.run]
  | f + 1, s, out => by
    cases h : two s.b with
    | none => rw [FC.run_none h, FC.run_none h, List.append_nil]
    | some n =>
      rw [FC.run_some h, FC.run_some h]
      by_cases h1 : n < 12
      · rw [if_pos h1, if_pos h1, List.append_nil]
      · rw [if_neg h1, if_neg h1]
        by_cases h2 : s.most < n
        · rw [if_pos h2, if_pos h2, List.append_nil]
        · rw [if_neg h2, if_neg h2]
          by_cases h3 : s.b.length < n + 2
          · rw [if_pos h3, if_pos h3, List.append_nil]
          · rw [if_neg h3, if_neg h3, List.nil_append]
            rw [FC.run_out f _ (out ++ _), FC.run_out f _ [_]]
            simp only [List.append_assoc]

theorem FC.run_fuel : ∀ (f g : Nat) (s : FC) (out : List (List UInt8)), s.b.length < f → s.b.length < g → FC.run f s out = FC.run g s out
  | 0, _, _, _, h, _ => by omega
  | _ + 1, 0, _, _, _, h => by omega
  | f + 1, g + 1, s, out, hf, hg => by
    cases h : two s.b with
    | none => rw [FC.run_none h, FC.run_none h]
    | some n =>
      rw [FC.run_some h, FC.run_some h]
      by_cases h1 : n < 12
      · rw [if_pos h1, if_pos h1]
      · rw [if_neg h1, if_neg h1]
        by_cases h2 : s.most < n
        · rw [if_pos h2, if_pos h2]
        · rw [if_neg h2, if_neg h2]
          by_cases h3 : s.b.length < n + 2
          · rw [if_pos h3, if_pos h3]
          · rw [if_neg h3, if_neg h3]
            have := (two_lt h).2
            exact FC.run_fuel f g _ _ (by simp only [List.length_drop]; omega) (by simp only [List.length_drop]; omega)

/-- How a run ends. -/
theorem FC.run_end : ∀ (f : Nat) (s : FC) (out : List (List UInt8)), s.b.length < f → s.err = 0 →
    (FC.run f s out).2.most = s.most ∧ (FC.run f s out).2.broken = s.broken ∧ ((FC.run f s out).2.err = 0 → (FC.run f s out).2.stuck)
  | 0, _, _, h, _ => by omega
  | f + 1, s, out, hf, he => by
    cases h : two s.b with
    | none => rw [FC.run_none h]; exact ⟨rfl, rfl, fun _ => .inl h⟩
    | some n =>
      rw [FC.run_some h]
      by_cases h1 : n < 12
      · rw [if_pos h1]; exact ⟨rfl, rfl, fun e => by simp at e⟩
      · rw [if_neg h1]
        by_cases h2 : s.most < n
        · rw [if_pos h2]; exact ⟨rfl, rfl, fun e => by simp at e⟩
        · rw [if_neg h2]
          by_cases h3 : s.b.length < n + 2
          · rw [if_pos h3]; exact ⟨rfl, rfl, fun _ => .inr ⟨n, h, by omega, (by show (n : Int) ≤ s.most; omega), h3⟩⟩
          · rw [if_neg h3]
            have := (two_lt h).2
            exact FC.run_end f _ _ (by simp only [List.length_drop]; omega) he

theorem FC.run_split : ∀ (f : Nat) (s : FC) (out : List (List UInt8)), s.b.length < f → s.err = 0 → ∀ (y : List UInt8) (g : Nat), s.b.length + y.length < g →
    ((FC.run f s out).2.err = 0 → ∀ k, (FC.run f s out).2.b.length + y.length < k → FC.run g (s.more y) out = FC.run k ((FC.run f s out).2.more y) (FC.run f s out).1) ∧
    ((FC.run f s out).2.err ≠ 0 → FC.run g (s.more y) out = ((FC.run f s out).1, (FC.run f s out).2.more y))
  | 0, _, _, h, _ => by omega
  | f + 1, s, out, hf, he => fun y g hg => by
    obtain ⟨g', rfl⟩ : ∃ g', g = g' + 1 := ⟨g - 1, by omega⟩
    have stay : s.stuck → (FC.run (f + 1) s out = (out, s)) := fun h => FC.run_stuck h _ _
    cases h : two s.b with
    | none =>
      rw [FC.run_none h]
      exact ⟨fun _ k hk => FC.run_fuel _ _ _ _ (by simp only [FC.more, List.length_append]; omega) (by simp only [FC.more, List.length_append] at hk ⊢; omega), fun e => absurd he e⟩
    | some n =>
      rw [FC.run_some h]
      have hy : two (s.more y).b = some n := two_more h y
      by_cases h1 : n < 12
      · rw [if_pos h1, FC.run_some hy, if_pos h1]
        exact ⟨fun e => by simp at e, fun _ => rfl⟩
      · rw [if_neg h1]
        by_cases h2 : s.most < n
        · rw [if_pos h2, FC.run_some hy, if_neg h1, if_pos (by simpa [FC.more] using h2)]
          exact ⟨fun e => by simp at e, fun _ => rfl⟩
        · rw [if_neg h2]
          by_cases h3 : s.b.length < n + 2
          · rw [if_pos h3]
            exact ⟨fun _ k hk => FC.run_fuel _ _ _ _ (by simp only [FC.more, List.length_append]; omega) (by simp only [FC.more, List.length_append] at hk ⊢; omega), fun e => absurd he e⟩
          · rw [if_neg h3, FC.run_some hy, if_neg h1, if_neg (by simpa [FC.more] using h2), if_neg (by simp only [FC.more, List.length_append]; omega)]
            have := (two_lt h).2
            have hd1 : (s.b ++ y).drop (n + 2) = s.b.drop (n + 2) ++ y := List.drop_append_of_le_length (by omega)
            have hd2 : ((s.b ++ y).drop 2).take n = (s.b.drop 2).take n := by
              rw [List.drop_append_of_le_length (by omega), List.take_append_of_le_length (by simp only [List.length_drop]; omega)]
            have ih := FC.run_split f { s with b := s.b.drop (n + 2) } (out ++ [(s.b.drop 2).take n]) (by simp only [List.length_drop]; omega) he y g' (by simp only [List.length_drop]; omega)
            simp only [FC.more, hd1, hd2] at ih ⊢
            exact ih

/-- Pieces, one behind the other, till it is broken. -/
def FC.feed : FC → List (List UInt8) → List (List UInt8) → List (List UInt8) × Int
  | _, out, [] => (out, 0)
  | s, out, x :: l => if (s.push x).2.1 ≠ 0 then (out ++ (s.push x).1, (s.push x).2.1) else FC.feed (s.push x).2.2 (out ++ (s.push x).1) l

theorem FC.push_run (s : FC) (x : List UInt8) (hb : s.broken = false) : (s.push x).1 = (FC.run (s.b.length + x.length + 1) (s.more x) []).1 ∧ (s.push x).2.1 = (FC.run (s.b.length + x.length + 1) (s.more x) []).2.err ∧
    ((FC.run (s.b.length + x.length + 1) (s.more x) []).2.err = 0 → (s.push x).2.2 = (FC.run (s.b.length + x.length + 1) (s.more x) []).2) ∧ ((FC.run (s.b.length + x.length + 1) (s.more x) []).2.err ≠ 0 → (s.push x).2.2.b = []) := by
  have e : s.push x = if (FC.run (s.b.length + x.length + 1) (s.more x) []).2.err = 0 then ((FC.run (s.b.length + x.length + 1) (s.more x) []).1, 0, (FC.run (s.b.length + x.length + 1) (s.more x) []).2)
      else ((FC.run (s.b.length + x.length + 1) (s.more x) []).1, (FC.run (s.b.length + x.length + 1) (s.more x) []).2.err, { (FC.run (s.b.length + x.length + 1) (s.more x) []).2 with broken := true, b := [] }) := by
    unfold FC.push
    rw [if_neg (by simp [hb])]
    rfl
  rw [e]
  by_cases h : (FC.run (s.b.length + x.length + 1) (s.more x) []).2.err = 0
  · rw [if_pos h]; exact ⟨rfl, h.symm, fun _ => rfl, fun hn => absurd h hn⟩
  · rw [if_neg h]; exact ⟨rfl, rfl, fun hn => absurd hn h, fun _ => rfl⟩

/-- However it is cut, the same is told. -/
theorem FC.feed_flat : ∀ (l : List (List UInt8)) (s : FC) (out : List (List UInt8)), s.stuck → s.broken = false → s.err = 0 → ∀ g, s.b.length + l.flatten.length < g →
    FC.feed s out l = ((FC.run g (s.more l.flatten) out).1, (FC.run g (s.more l.flatten) out).2.err)
  | [], s, out, h1, _, he => fun g _ => by
    have e : s.more [].flatten = s := by simp [FC.more]
    rw [e, FC.run_stuck h1, he]
    rfl
  | x :: l, s, out, h1, hb, he => fun g hg => by
    obtain ⟨p1, p2, p3, _⟩ := s.push_run x hb
    have er := FC.run_out (s.b.length + x.length + 1) (s.more x) out
    have hlen : (s.more x).b.length < s.b.length + x.length + 1 := by simp only [FC.more, List.length_append]; omega
    have hend := FC.run_end (s.b.length + x.length + 1) (s.more x) [] hlen he
    rw [List.flatten_cons, List.length_append] at hg
    have hsp := FC.run_split (s.b.length + x.length + 1) (s.more x) out hlen he l.flatten g (by simp only [FC.more, List.length_append]; omega)
    rw [er] at hsp
    have em : s.more (x :: l).flatten = (s.more x).more l.flatten := by simp [FC.more]
    rw [em]
    simp only [FC.feed]
    rw [p1, p2]
    generalize FC.run (s.b.length + x.length + 1) (s.more x) [] = r at p3 hend hsp
    obtain ⟨o, s2⟩ := r
    simp only at p3 hend hsp ⊢
    by_cases h2 : s2.err ≠ 0
    · rw [if_pos h2, hsp.2 h2]
      rfl
    · rw [if_neg h2]
      have h2' : s2.err = 0 := by simpa using h2
      rw [p3 h2', FC.feed_flat l s2 _ (hend.2.2 h2') (hend.2.1.trans hb) h2' (s2.b.length + l.flatten.length + 1) (by omega), hsp.1 h2' (s2.b.length + l.flatten.length + 1) (by omega)]

theorem FC.push_end (s : FC) (p : List UInt8) (hb : s.broken = false) (he : s.err = 0) (hm : 12 ≤ s.most) :
    (s.push p).2.2.most = s.most ∧ ((s.push p).2.2.b.length : Int) ≤ s.most + 1 ∧ ((s.push p).2.1 = 0 → (s.push p).2.2.broken = false ∧ (s.push p).2.2.err = 0) := by
  obtain ⟨p1, p2, p3, p4⟩ := s.push_run p hb
  have hlen : (s.more p).b.length < s.b.length + p.length + 1 := by simp only [FC.more, List.length_append]; omega
  obtain ⟨q1, q2, q3⟩ := FC.run_end (s.b.length + p.length + 1) (s.more p) [] hlen he
  have hmost : (s.push p).2.2.most = s.most := by
    unfold FC.push
    rw [if_neg (by simp [hb])]
    split <;> exact q1
  refine ⟨hmost, ?_, fun h => ?_⟩
  · by_cases h : (FC.run (s.b.length + p.length + 1) (s.more p) []).2.err = 0
    · rw [p3 h]
      have := FC.stuck_len (q3 h) (by rw [q1]; exact hm)
      rw [q1] at this
      exact this
    · rw [p4 h]
      simp
      omega
  · rw [p2] at h
    rw [p3 h]
    exact ⟨q2.trans hb, h⟩

/-- What frames tell, up to the first that is longer than the most. -/
def short (most : Int) : List (List UInt8) → List (List UInt8)
  | [] => []
  | x :: l => if most < x.length then [] else x :: short most l
def toolong (most : Int) (l : List (List UInt8)) : Int := if l.any (fun x => decide (most < x.length)) then 3 else 0

theorem two_be2 (n : Nat) (h : n < 65536) (r : List UInt8) : two (be2 n ++ r) = some n := by
  simp only [be2, List.cons_append, List.nil_append, two, Option.some.injEq, UInt8.toNat_ofNat']
  omega
theorem FC.run_frames : ∀ (l : List (List UInt8)) (g : Nat) (s : FC) (out : List (List UInt8)), s.b = (l.map fun x => be2 x.length ++ x).flatten → s.err = 0 → (∀ x ∈ l, 12 ≤ x.length ∧ x.length ≤ 600) → s.b.length < g →
    (FC.run g s out).1 = out ++ short s.most l ∧ (FC.run g s out).2.err = toolong s.most l
  | [], g, s, out, hb, he, _, hg => by
    obtain ⟨g', rfl⟩ : ∃ g', g = g' + 1 := ⟨g - 1, by omega⟩
    have h : two s.b = none := by rw [hb]; rfl
    rw [FC.run_none h]
    exact ⟨by simp [short], by simp [he, toolong]⟩
  | x :: l, g, s, out, hb, he, hx, hg => by
    obtain ⟨g', rfl⟩ : ∃ g', g = g' + 1 := ⟨g - 1, by omega⟩
    obtain ⟨x1, x2⟩ := hx x (List.mem_cons_self ..)
    have hb2 : s.b = be2 x.length ++ (x ++ (l.map fun x => be2 x.length ++ x).flatten) := by rw [hb]; simp
    have h : two s.b = some x.length := by rw [hb2]; exact two_be2 _ (by omega) _
    rw [FC.run_some h, if_neg (by omega)]
    by_cases h2 : s.most < x.length
    · rw [if_pos h2]
      exact ⟨by simp [short, h2], by simp [toolong, h2]⟩
    · have hl2 : (be2 x.length).length = 2 := rfl
      have hsl : s.b.length = 2 + x.length + (l.map fun x => be2 x.length ++ x).flatten.length := by rw [hb2]; simp only [List.length_append, hl2]; omega
      have hd2 : s.b.drop 2 = x ++ (l.map fun x => be2 x.length ++ x).flatten := by rw [hb2]; rfl
      have hd : s.b.drop (x.length + 2) = (l.map fun x => be2 x.length ++ x).flatten := by
        rw [Nat.add_comm, ← List.drop_drop, hd2, List.drop_left]
      rw [if_neg h2, if_neg (by omega)]
      have ih := FC.run_frames l g' { s with b := s.b.drop (x.length + 2) } (out ++ [(s.b.drop 2).take x.length]) hd he (fun z hz => hx z (List.mem_cons_of_mem _ hz)) (by simp only [List.length_drop]; omega)
      have ht : (s.b.drop 2).take x.length = x := by rw [hd2, List.take_left]
      rw [ht] at ih ⊢
      refine ⟨?_, ?_⟩
      · rw [ih.1]; simp [short, h2]
      · rw [ih.2]; simp [toolong, h2]

theorem FC.run_len : ∀ (f : Nat) (s : FC) (out : List (List UInt8)), (FC.run f s out).1.length ≤ out.length + s.b.length
  | 0, s, out => by simp [FC.run]
  | f + 1, s, out => by
    cases h : two s.b with
    | none => rw [FC.run_none h]; simp
    | some n =>
      rw [FC.run_some h]
      by_cases h1 : n < 12
      · rw [if_pos h1]; simp
      · rw [if_neg h1]
        by_cases h2 : s.most < n
        · rw [if_pos h2]; simp
        · rw [if_neg h2]
          by_cases h3 : s.b.length < n + 2
          · rw [if_pos h3]; simp
          · rw [if_neg h3]
            have := FC.run_len f { s with b := s.b.drop (n + 2) } (out ++ [(s.b.drop 2).take n])
            simp only [List.length_append, List.length_drop, List.length_cons, List.length_nil] at this
            omega
theorem FC.push_len (s : FC) (p : List UInt8) (hb : s.broken = false) : (s.push p).1.length ≤ s.b.length + p.length := by
  obtain ⟨p1, _⟩ := s.push_run p hb
  rw [p1]
  have := FC.run_len (s.b.length + p.length + 1) (s.more p) []
  have e : (s.more p).b.length = s.b.length + p.length := by simp [FC.more]
  rw [e, List.length_nil] at this
  omega
end Go.Ost
