/- Slice expressions, appends inside a region that draws its order, and two cells in a new block: small laws for the walks. -/
import Derived.Test.YtfkkaalchffgaaaApp
namespace Go.Ost
open Go.RowKit

/-- 's[l:]': the value that comes back, named; where something is left it begins l elements further on. -/
theorem slice_from {P : Program} {t : TypeId} {s : Nat} (ht : P.underlying t = some (.slice (P.elem t))) (hs : ∀ w, (sizeOf (P.elem t)).run P w = .ok s w) (A : Option Addr) {n c l : Nat} (hl : l ≤ n) (hc : n ≤ c) :
    ∃ A', (∀ w, (Instr.slice t (.slice A n c) (some (.int .i64 (l : Int))) none none).run P w = .ok (.slice A' (n - l) (c - l)) w) ∧ (l < n → A' = A.map (·.add (l * s))) := by
  have h := fun w => run_slice_l (P := P) (w := w) t A n c ht .i64 (l : Int) (by omega) (by omega)
  refine ⟨(match sliced A l n c s with | .slice A' _ _ => A' | _ => none), fun w => ?_, fun hlt => ?_⟩
  · rw [h w, hs w]
    simp only [Result.andThen, Int.toNat_natCast]
    unfold sliced
    split <;> simp
  · unfold sliced
    have hne : c ≠ l := by omega
    split <;> simp_all

/-- 'append' at a step of a region that draws its order. -/
theorem step_app {P : Program} (w : World) {ops : Array Oper} {o : Oper} {a : Act} {K : Act → World → Prop} {Q : Exit → Act → World → Prop} {E : Prop} (hgd : o.guard = none) (sx x : Operand) (t : TypeId)
    (ho : o.op = .call { callee := .builtin .append, args := #[sx, x], argTypes := #[t, t] })
    (e : TypeId) (i : TypeInfo) (z : Value) (s bytes : Nat) (ht : P.underlying t = some (.slice e)) (hi : P.info? e = some i) (hz : i.zero = some z)
    (hsize : i.size = s) (hby : i.bytes = bytes) (hzs : z.cells.size = s) (hs0 : 0 < s) {T : Value → Prop} (hT : ∀ v ∈ z.cells.toList, T v)
    {O O' : Nat → Prop} (hO : O w.heap.size) {A : Option Addr} {n c : Nat} {vs : List Value} (ha : a.eval sx = .slice A n c) (hown : Own w O e T A (n * s) (c * s) vs)
    {B : Option Addr} {m d : Nat} {news : List Value} (hb : a.eval x = .slice B m d) (hr : Rd w O' B (m * s) news) (h1 : ∀ u ∈ news, u.oneCell' = true)
    (h63 : n + m ≤ maxLen) (hbytes : (n + m) * bytes ≤ 140737488355328)
    (h : ∀ A' c' w', Own w' O e T A' ((n + m) * s) (c' * s) (vs ++ news) → Fr (At A) w w' → (c ≤ maxLen → c' ≤ maxLen) → (∀ b, At A' b → At A b ∨ w.heap.size ≤ b) → K (a.put o.dst (.slice A' (n + m) c')) w') :
    if Region.wanted o (yielded ops a.tmps) = true then Oper.wp P o a w K Q else E := by
  have hw : Region.wanted o (yielded ops a.tmps) = true := by simp [Region.wanted, hgd]
  rw [if_pos hw]
  exact wp_app w sx x t ho e i z s bytes ht hi hz hsize hby hzs hs0 hT hO ha hown hb hr h1 h63 hbytes h

/-- Two values in a new block of their own, as one element of two cells. -/
theorem rd_pair (w : World) (u v : Value) (t : TypeId) : Rd (w.alloc (.cells #[u, v] t)) (fun _ => True) (some ⟨w.heap.size, 0, none⟩) (1 * 2) [u, v] :=
  ⟨rfl, fun _ => ⟨_, _, rfl, trivial, fun j x hx => by
    rw [Nat.zero_add, (Blk.new w t #[u, v]).cell]
    simpa using hx⟩⟩

theorem RdL.head {w : World} {O : Nat → Prop} {A : Option Addr} {n : Nat} {ls : List (List UInt8)} (h : RdL w O A n ls) (hn : 0 < n) :
    ∃ b o, A = some ⟨b, o, none⟩ ∧ ∀ k, k < n → ∃ A1 n1 c1 l, ls[k]? = some l ∧ w.cell? ⟨b, o + k, none⟩ = some (.slice A1 n1 c1) ∧ n1 ≤ c1 ∧ RdB w O A1 n1 l := by
  obtain ⟨vs, h1, h2, h3⟩ := h
  obtain ⟨b, o, e, _, hc⟩ := h1.2 hn
  refine ⟨b, o, e, fun k hk => ?_⟩
  have hl : k < vs.length := by have := h1.1; omega
  obtain ⟨A1, n1, c1, hv, hle, hr⟩ := h3 k _ _ (List.getElem?_eq_getElem hl) (List.getElem?_eq_getElem (by omega : k < ls.length))
  exact ⟨A1, n1, c1, _, List.getElem?_eq_getElem (by omega : k < ls.length), by rw [← hv]; exact hc k _ (List.getElem?_eq_getElem hl), hle, hr⟩
theorem Own.at_ {w : World} {O : Nat → Prop} {e : TypeId} {T : Value → Prop} {A : Option Addr} {n c : Nat} {vs : List Value} (h : Own w O e T A n c vs) : ∀ b, At A b → O b := by
  rintro b ⟨o, rfl⟩
  rcases h.2 with ⟨e1, _⟩ | ⟨b', ts, e1, hO, _⟩
  · cases e1
  · injection e1 with e1
    injection e1 with e1
    rw [e1]
    exact hO

/-- Slices of bytes in a new block of their own. -/
theorem rdl_new {w : World} {O : Nat → Prop} {t : TypeId} {vs : List Value} {ls : List (List UInt8)} (hl : vs.length = ls.length) (h : ∀ (i : Nat) (v : Value) (l : List UInt8), vs[i]? = some v → ls[i]? = some l → BVal w O v l) :
    RdL (w.alloc (.cells vs.toArray t)) (fun _ => True) (some ⟨w.heap.size, 0, none⟩) vs.length ls :=
  ⟨vs, ⟨rfl, fun _ => ⟨_, _, rfl, trivial, fun j u hu => by rw [Nat.zero_add, (Blk.new w t vs.toArray).cell]; simpa using hu⟩⟩, hl, fun i v l hv hl => ((h i v l hv hl).fr ((Fr.refl No w).alloc _) (fun _ _ _ hb => hb)).mono fun _ _ _ => trivial⟩
theorem rdl_two {w : World} {O : Nat → Prop} {t : TypeId} {v0 v1 : Value} {l0 l1 : List UInt8} (h0 : BVal w O v0 l0) (h1 : BVal w O v1 l1) :
    RdL (w.alloc (.cells #[v0, v1] t)) (fun _ => True) (some ⟨w.heap.size, 0, none⟩) 2 [l0, l1] :=
  rdl_new (vs := [v0, v1]) (ls := [l0, l1]) rfl fun i v l hv hl => by
    match i, hv, hl with
    | 0, hv, hl => simp at hv hl; subst hv hl; exact h0
    | 1, hv, hl => simp at hv hl; subst hv hl; exact h1
    | k + 2, hv, _ => simp at hv
theorem rdl_three {w : World} {O : Nat → Prop} {t : TypeId} {v0 v1 v2 : Value} {l0 l1 l2 : List UInt8} (h0 : BVal w O v0 l0) (h1 : BVal w O v1 l1) (h2 : BVal w O v2 l2) :
    RdL (w.alloc (.cells #[v0, v1, v2] t)) (fun _ => True) (some ⟨w.heap.size, 0, none⟩) 3 [l0, l1, l2] :=
  rdl_new (vs := [v0, v1, v2]) (ls := [l0, l1, l2]) rfl fun i v l hv hl => by
    match i, hv, hl with
    | 0, hv, hl => simp at hv hl; subst hv hl; exact h0
    | 1, hv, hl => simp at hv hl; subst hv hl; exact h1
    | 2, hv, hl => simp at hv hl; subst hv hl; exact h2
    | k + 3, hv, _ => simp at hv
theorem Rd.val {w : World} {O : Nat → Prop} {A : Option Addr} {n c : Nat} {bs : List UInt8} (h : RdB w O A n bs) (hc : n ≤ c) : BVal w (fun _ => True) (.slice A n c) bs := ⟨A, n, c, rfl, hc, Rd.mono h fun _ _ _ => trivial⟩
end Go.Ost
