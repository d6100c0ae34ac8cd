/- What a sealed channel has sent, in plain words; two rows of bytes that a law builds side by side. -/
import Derived.Test.YtfkkaalchffgaaaFeed
import Derived.Test.YtfkkaalchffgaaaAwk
namespace Go.Ost
theorem parts_flatten (bs : List UInt8) (k : Nat) : (parts bs k).flatten = bs.take (1024 * k) := by
  induction k with
  | zero => simp [parts]
  | succ k ih =>
    rw [parts_succ, List.flatten_append, ih, Nat.mul_succ, List.take_add]
    simp
theorem parts_many (bs : List UInt8) : (parts bs (many bs)).flatten = bs := by
  rw [parts_flatten, List.take_of_length_le]
  unfold many
  omega
theorem parts_short (bs : List UInt8) (k : Nat) : ∀ x ∈ parts bs k, x.length ≤ 1024 := by
  intro x hx
  simp only [parts, List.mem_map, List.mem_range] at hx
  obtain ⟨j, _, rfl⟩ := hx
  exact List.length_take_le _ _
theorem datum_len (r : List (List UInt8)) : (r.map datum).flatten.length = r.flatten.length + 3 * r.length := by
  induction r with
  | nil => rfl
  | cons x r ih =>
    have h2 : (be2 x.length).length = 2 := rfl
    simp only [List.map_cons, List.flatten_cons, List.length_append, List.length_cons, datum, ih, h2]
    omega
theorem PC.send_len (s : PC) (p : List UInt8) (h : p.length ≤ 5000) : (s.send p).1.length ≤ p.length + 30 := by
  unfold PC.send
  split
  · simp
  · have h1 : s.greet.length ≤ 4 := by unfold PC.greet; split <;> simp
    have h2 : many p ≤ 5 := by unfold many; omega
    simp only [List.length_append, datum_len, parts_many, parts_len]
    omega

theorem PC.close_len (s : PC) : s.close.1.length ≤ 7 := by
  have h1 : s.greet.length ≤ 4 := by unfold PC.greet; split <;> simp
  unfold PC.close
  split
  · simp
  · simp only [List.length_append, List.length_cons, List.length_nil]; omega
theorem PC.send_shut (s : PC) (p : List UInt8) (h : s.shut = true) : s.send p = ([], s) := by
  unfold PC.send
  rw [if_pos (.inl h)]

/-- What has gone out, and what for. -/
def Sent (s : PC) (bb wt : List UInt8) : Prop :=
  s.shut = false ∧ ∃ recs : List (List UInt8), bb = (if s.greeted then [1, 0, 1, 1] else []) ++ (recs.map datum).flatten ∧ wt = recs.flatten ∧ (∀ x ∈ recs, x.length ≤ 1024) ∧ (s.greeted = false → recs = [])

theorem Sent.zero : Sent pc0 [] [] := ⟨rfl, [], rfl, rfl, fun x hx => by simp at hx, fun _ => rfl⟩
theorem Sent.send {s : PC} {bb wt : List UInt8} (h : Sent s bb wt) (p : List UInt8) : Sent (s.send p).2 (bb ++ (s.send p).1) (wt ++ p) := by
  obtain ⟨h1, recs, h2, h3, h4, h5⟩ := h
  unfold PC.send
  by_cases hp : p = []
  · rw [if_pos (.inr hp)]
    subst hp
    simp only [List.append_nil]
    exact ⟨h1, recs, h2, h3, h4, h5⟩
  · rw [if_neg (by simp [h1, hp])]
    refine ⟨h1, recs ++ parts p (many p), ?_, ?_, ?_, fun h => by cases h⟩
    · cases hg : s.greeted with
      | true => simp [h2, hg, PC.greet]
      | false => simp [h2, hg, PC.greet, h5 hg]
    · rw [List.flatten_append, parts_many, h3]
    · intro x hx
      rcases List.mem_append.1 hx with hx | hx
      · exact h4 x hx
      · exact parts_short _ _ x hx
theorem Sent.close {s : PC} {bb wt : List UInt8} (h : Sent s bb wt) : ∃ recs : List (List UInt8), bb ++ s.close.1 = [1, 0, 1, 1] ++ (recs.map datum).flatten ++ [3, 0, 0] ∧ recs.flatten = wt ∧ (∀ x ∈ recs, x.length ≤ 1024) ∧ s.close.2.shut = true := by
  obtain ⟨h1, recs, h2, h3, h4, h5⟩ := h
  refine ⟨recs, ?_, h3.symm, h4, ?_⟩
  · cases hg : s.greeted with
    | true => simp [PC.close, h1, h2, hg, PC.greet]
    | false => simp [PC.close, h1, h2, hg, PC.greet, h5 hg]
  · simp [PC.close, h1]
/-- Another one tells it all. -/
theorem Sent.told {s : PC} {bb wt : List UInt8} (h : Sent s bb wt) (ls : List (List UInt8)) (hl : ls.flatten = bb ++ s.close.1) : PC.feed pc0 [] ls = (wt, 0, { pc0 with hello := true, ended := true }) := by
  obtain ⟨recs, e1, e2, e3, _⟩ := h.close
  rw [PC.feed_flat ls pc0 [] rfl rfl rfl (ls.flatten.length + 1) (by simp [pc0]), PC.run_back recs e3 _ (pc0.more ls.flatten) (by rw [hl, e1]; simp [PC.more, pc0]) rfl rfl (by simp [PC.more, pc0]), e2]
  rfl
end Go.Ost
namespace Go.Proofs.Ytfkkaalchffgaaa
open Go.RowKit Go.Ost

theorem own_self {w : World} {O : Nat → Prop} {e : TypeId} {T : Value → Prop} {A : Option Addr} {n c : Nat} {vs : List Value} (h : Ost.Own w O e T A n c vs) : Ost.Own w (At A) e T A n c vs := by
  obtain ⟨h1, h2⟩ := h
  refine ⟨h1, ?_⟩
  rcases h2 with h2 | ⟨b, ts, rfl, _, h3⟩
  · exact .inl h2
  · exact .inr ⟨b, ts, rfl, ⟨0, rfl⟩, h3⟩
theorem own_lt {w : World} {O : Nat → Prop} {e : TypeId} {T : Value → Prop} {A : Option Addr} {n c : Nat} {vs : List Value} (h : Ost.Own w O e T A n c vs) : ∀ y, At A y → y < w.heap.size := by
  rintro y ⟨o, rfl⟩
  rcases h.2 with ⟨e1, _⟩ | ⟨b', ts, e1, _, hb, _⟩
  · cases e1
  · injection e1 with e1
    injection e1 with e1
    rw [e1]
    exact hb.lt

/-- A row of bytes of the call's own above block a, apart from the blocks of O. -/
def Row (w : World) (a : Nat) (O : Nat → Prop) (A : Option Addr) (c : Nat) (bs : List UInt8) : Prop :=
  Ost.Own w (At A) 5 Byte A bs.length c (bs.map bv) ∧ (∀ y, At A y → a < y ∧ ¬ O y) ∧ c ≤ maxLen

section
variable {w w' : World} {a c c' : Nat} {O S : Nat → Prop} {A A' : Option Addr} {bs xs : List UInt8}
theorem Row.nil (w : World) (a : Nat) (O : Nat → Prop) : Row w a O none 0 [] := ⟨Ost.Own.nil _ _ _ _, (fun y ⟨_, e⟩ => by cases e), Nat.zero_le _⟩
theorem Row.fr (h : Row w a O A c bs) (hf : Fr S w w') (hd : ∀ y, S y → y ≤ a ∨ O y) : Row w' a O A c bs :=
  ⟨h.1.fr hf fun y _ hy hs => by have := h.2.1 y hy; rcases hd y hs with h1 | h1; omega; exact this.2 h1, h.2⟩
/-- It has grown: what came back of an append. -/
theorem Row.grown (h : Row w a O A c bs) {O2 : Nat → Prop} (hown : Ost.Own w' O2 5 Byte A' ((bs.length + xs.length) * 1) (c' * 1) (bs.map bv ++ xs.map bv)) (hc : c ≤ maxLen → c' ≤ maxLen) (hA : ∀ b, At A' b → At A b ∨ w.heap.size ≤ b) (ha : a < w.heap.size) (hO : ∀ y, O y → y < w.heap.size) :
    Row w' a O A' c' (bs ++ xs) := by
  refine ⟨own_self (by rw [List.length_append, List.map_append]; simpa using hown), fun y hy => ?_, hc h.2.2⟩
  rcases hA y hy with h1 | h1
  · exact h.2.1 y h1
  · exact ⟨by omega, fun h2 => by have := hO y h2; omega⟩
theorem Row.apart (h : Row w a O A c bs) {O2 : Nat → Prop} (hO : ∀ y, At A y → ¬ O2 y) : Row w a O2 A c bs := ⟨h.1, fun y hy => ⟨(h.2.1 y hy).1, hO y hy⟩, h.2.2⟩
theorem Row.fr_at (h : Row w a O A c bs) {A2 : Option Addr} (hf : Fr (At A2) w w') (hd : ∀ y, At A2 y → ¬ At A y) : Row w' a O A c bs :=
  ⟨h.1.fr hf fun y _ hy hs => hd y hs hy, h.2⟩
theorem Row.own1 (h : Row w a O A c bs) : Ost.Own w (fun y => At A y ∨ w.heap.size ≤ y) 5 Byte A (bs.length * 1) (c * 1) (bs.map bv) := by
  rw [Nat.mul_one, Nat.mul_one]
  exact h.1.mono fun y _ hy => .inl hy
theorem Row.lt (h : Row w a O A c bs) : ∀ y, At A y → y < w.heap.size := own_lt h.1
end
end Go.Proofs.Ytfkkaalchffgaaa
