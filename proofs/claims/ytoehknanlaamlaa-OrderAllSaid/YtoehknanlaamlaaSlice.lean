/- Slice expressions, appends inside a region that draws its order, and two cells in a new block: small laws for the walks. -/
import Derived.Test.YtoehknanlaamlaaApp
namespace Go.Ost
open Go.RowKit

/-- 's[l:]': the value that comes back, named; where something is left it begins l elements further on. -/
theorem slice_from {P : Program} {t : TypeId} {s : Nat} (ht : P.underlying t = some (.slice (P.elem t))) (hs : ∀ w, (sizeOf (P.elem t)).run P w = .ok s w) (A : Option Addr) {n c l : Nat} (hl : l ≤ n) (hc : n ≤ c) :
    ∃ A', (∀ w, (Instr.slice t (.slice A n c) (some (.int .i64 (l : Int))) none none).run P w = .ok (.slice A' (n - l) (c - l)) w) ∧ (l < n → A' = A.map (·.add (l * s))) := by
  have h := fun w => run_slice_l (P := P) (w := w) t A n c ht .i64 (l : Int) (by omega) (by omega)
  refine ⟨(match sliced A l n c s with | .slice A' _ _ => A' | _ => none), fun w => ?_, fun hlt => ?_⟩
  · rw [h w, hs w]
    simp only [Result.andThen, Int.toNat_natCast]
    unfold sliced
    split <;> simp
  · unfold sliced
    have hne : c ≠ l := by omega
    split <;> simp_all

/-- 'append' at a step of a region that draws its order. -/
theorem step_app {P : Program} (w : World) {ops : Array Oper} {o : Oper} {a : Act} {K : Act → World → Prop} {Q : Exit → Act → World → Prop} {E : Prop} (hgd : o.guard = none) (sx x : Operand) (t : TypeId)
    (ho : o.op = .call { callee := .builtin .append, args := #[sx, x], argTypes := #[t, t] })
    (e : TypeId) (i : TypeInfo) (z : Value) (s bytes : Nat) (ht : P.underlying t = some (.slice e)) (hi : P.info? e = some i) (hz : i.zero = some z)
    (hsize : i.size = s) (hby : i.bytes = bytes) (hzs : z.cells.size = s) (hs0 : 0 < s) {T : Value → Prop} (hT : ∀ v ∈ z.cells.toList, T v)
    {O O' : Nat → Prop} (hO : O w.heap.size) {A : Option Addr} {n c : Nat} {vs : List Value} (ha : a.eval sx = .slice A n c) (hown : Own w O e T A (n * s) (c * s) vs)
    {B : Option Addr} {m d : Nat} {news : List Value} (hb : a.eval x = .slice B m d) (hr : Rd w O' B (m * s) news) (h1 : ∀ u ∈ news, u.oneCell' = true)
    (h63 : n + m ≤ maxLen) (hbytes : (n + m) * bytes ≤ 140737488355328)
    (h : ∀ A' c' w', Own w' O e T A' ((n + m) * s) (c' * s) (vs ++ news) → Fr (At A) w w' → (c ≤ maxLen → c' ≤ maxLen) → (∀ b, At A' b → At A b ∨ w.heap.size ≤ b) → K (a.put o.dst (.slice A' (n + m) c')) w') :
    if Region.wanted o (yielded ops a.tmps) = true then Oper.wp P o a w K Q else E := by
  have hw : Region.wanted o (yielded ops a.tmps) = true := by simp [Region.wanted, hgd]
  rw [if_pos hw]
  exact wp_app w sx x t ho e i z s bytes ht hi hz hsize hby hzs hs0 hT hO ha hown hb hr h1 h63 hbytes h

/-- Two values in a new block of their own, as one element of two cells. -/
theorem rd_pair (w : World) (u v : Value) (t : TypeId) : Rd (w.alloc (.cells #[u, v] t)) (fun _ => True) (some ⟨w.heap.size, 0, none⟩) (1 * 2) [u, v] :=
  ⟨rfl, fun _ => ⟨_, _, rfl, trivial, fun j x hx => by
    rw [Nat.zero_add, (Blk.new w t #[u, v]).cell]
    simpa using hx⟩⟩
end Go.Ost
