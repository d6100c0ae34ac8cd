/- 'for x := range seq { .. }' in the words of XMem: the iterator may turn the blocks of S, the body those of T; between two rounds the caller's own word I holds. After the kit's 'wpIn_rangeFunc_ownG', whose proof it follows. -/
import Derived.Test.YtfkkaalchffgaaaApp
import Derived.RangeFuncBox
import Derived.RangeFuncLeaves
import Derived.RangeFuncCalls
import Derived.RangeFuncNested
import Derived.Shelf.Abstract
import Derived.OwnWalkIn
import Derived.TacticsInMore
import Derived.LoopNIn
import Derived.LoopIn
namespace Go.Ost
open Go.RowKit

/-- One block turns. -/
theorem Fr.putObj {S : Nat → Prop} {w w' : World} (h : Fr S w w') {r : Nat} (hr : S r ∨ w.heap.size ≤ r) (o : Obj) : Fr S w (w'.putObj r o) :=
  ⟨h.os, h.tape, h.output, by simpa using h.size, fun i hi hn => (World.putObj_heap_other (by
    rintro rfl
    rcases hr with hr | hr
    · exact hn hr
    · omega)).trans (h.block i hi hn)⟩

/-- What stands between two rounds and what the two sides may turn. 'S': the blocks of the iterator; 'T': those of the body; 'Y pre x v Wp W1': what the iterator says of the value v that it hands out as x, the last word of the body having been given in Wp; 'Z xs W': what holds at its end. -/
def Iter {α : Type} (P : Program) (gf : Nat) (lb : Array Value) (S T : Nat → Prop) (Y : List α → α → Value → World → World → Prop) (Z : List α → World → Prop) (w0 : World) : Prop :=
  ∀ (l : Nat) (J : List α → World → Prop) (W : World), Fr No w0 W → (∀ pre A B, J pre A → Fr S A B → J pre B) → (∀ pre A, J pre A → w0.heap.size ≤ A.heap.size) →
    (∀ pre x v Wp W1, J pre Wp → Fr S Wp W1 → Y pre x v Wp W1 → YieldAt Fence.wide 1 P l #[v] W1 fun e W' => e = .returned (.bool true) ∧ J (pre ++ [x]) W' ∧ Fr T W1 W') →
    J [] W → CallsIn Fence.wide 2 P gf (#[.func (.yield l) #[] #[]] ++ lb) W fun e W' => (∃ v, e = .returned v) ∧ ∃ xs, Z xs W' ∧ J xs W'

/-- How a round ends. -/
def roundEnds (T : Nat → Prop) (R : World → Prop) (W1 : World) : Exit → Act → World → Prop
  | .normal, _, W' => Fr T W1 W' ∧ R W'
  | .ret, _, _ => False
  | .exit _, _, _ => False
  | .goto _, _, _ => False
  | .panic _, _, _ => False
  | .outgrown, _, _ => False

/-- The two blocks of book-keeping. -/
def Two (D : Nat) : Nat → Prop := fun b => b = D ∨ b = D + 1

theorem wp_range {P : Program} {α : Type} {g : Operand} {p : Tmp} {assign body : Code} {Q : Exit → Act → World → Prop} {a : Act} {w : World}
    {gf : Nat} {lb : Array Value} (hg : a.eval g = .func (.func gf) #[] lb) (eg : ∀ args w, (callFunc gf args).run P w = .ok (.enter gf args) w)
    {S T : Nat → Prop} {Y : List α → α → Value → World → World → Prop} {Z : List α → World → Prop} (hseq : Iter P gf lb S T Y Z w)
    (hS : ∀ b, S b → b < w.heap.size) (hT : ∀ b, w.heap.size ≤ b → T b)
    (hY : ∀ pre x v Wp A B, w.heap.size + 2 ≤ Wp.heap.size → Y pre x v Wp A → Fr (Two w.heap.size) A B → Y pre x v Wp B)
    (I : List α → World → Prop) (hI : ∀ pre A B, I pre A → Fr (fun b => S b ∨ Two w.heap.size b) A B → I pre B) (h0 : I [] w)
    (hround : ∀ (l : Nat) (pre : List α) (x : α) (v : Value) (Wp W1 W2 : World) (K : Act → World → Prop), w.heap.size + 2 ≤ Wp.heap.size → I pre Wp → Fr (fun b => S b ∨ Two w.heap.size b) Wp W2 → Y pre x v Wp W2 →
      (∀ a1, body.wpIn (Fence.wide.inRound l) 1 P (roundEnds (fun b => T b ∧ ¬ Two w.heap.size b) (I (pre ++ [x])) W2) a1 W2 → K a1 W1) →
      assign.wpIn (Fence.wide.inRound l) 1 P (Exit.then K (fun _ _ _ => False)) { tmps := a.tmps.setIfInBounds p v, defers := [] } W1)
    (hdone : ∀ (xs : List α) (W2 W : World), Z xs W2 → I xs W → Fr (Two w.heap.size) W2 W → w.heap.size + 2 ≤ W.heap.size → W.heap[w.heap.size]? = some (.deferred (some [])) → Q .normal { a with defers := { target := .collected w.heap.size, args := #[] } :: a.defers } W) :
    (Code.rangeFunc g #[p] assign body).wpIn Fence.wide 3 P Q a w := by
  refine wpIn_rangeFunc ?_
  intro fn hfn
  obtain ⟨rec, hrec⟩ : ∃ rec : LoopState → Option Code → Loop, rec = fun st pe => { state := st, pending := pe, fn, tmps := a.tmps, params := #[p], assign, body, defers := w.heap.size } := ⟨_, rfl⟩
  obtain ⟨W1, hW1⟩ : ∃ W1, (w.alloc (.deferred (some []))).alloc (.loop (rec .ready none)) = W1 := ⟨_, rfl⟩
  have hL1 : W1.heap[w.heap.size + 1]? = some (.loop (rec .ready none)) := by
    rw [← hW1]; have := World.alloc_heap_new (w.alloc (.deferred (some []))) (.loop (rec .ready none)); rwa [World.size_alloc] at this
  have hK1 : W1.heap[w.heap.size]? = some (.deferred (some [])) := by
    rw [← hW1]; exact (Below.heap_alloc _ _ _ (by simp)).trans (World.alloc_heap_new w _)
  have hF1 : Fr No w W1 := by rw [← hW1]; exact ((Fr.refl No w).alloc _).alloc _
  have hI1 : I [] W1 := hI _ _ _ h0 hF1.of_no
  have hs1 : W1.heap.size = w.heap.size + 2 := by rw [← hW1]; simp
  refine ⟨w.heap.size + 1, [{ target := .collected w.heap.size, args := #[] }], W1, { target := .fn (.func gf) lb, args := #[.func (.yield (w.heap.size + 1)) #[] #[]] }, W1, gf,
    #[.func (.yield (w.heap.size + 1)) #[] #[]] ++ lb, W1, ?_, ?_, ?_, ?_, fun _ => by omega, ?_⟩
  · rw [← hW1, hrec]; exact run_enterLoop_outer _ _ _ _ _
  · simp only [resolve, hg]
    simp [go_sem]
  · intro f' _; trivial
  · simp [invoke, go_sem, eg]
  · refine (hseq (w.heap.size + 1)
      (fun pre W => I pre W ∧ W.heap[w.heap.size + 1]? = some (.loop (rec .ready none)) ∧ W.heap[w.heap.size]? = some (.deferred (some [])) ∧ w.heap.size + 2 ≤ W.heap.size)
      W1 hF1
      (fun pre A B hj hf => ⟨hI _ _ _ hj.1 (hf.mono fun b _ hb => .inl hb),
        (hf.block _ (by have := hj.2.2.2; omega) (fun hb => by have := hS _ hb; omega)).trans hj.2.1, (hf.block _ (by have := hj.2.2.2; omega) (fun hb => by have := hS _ hb; omega)).trans hj.2.2.1, Nat.le_trans hj.2.2.2 hf.size⟩)
      (fun pre A hj => by have := hj.2.2.2; omega)
      ?_ ⟨hI1, hL1, hK1, by omega⟩).mono ?_
    · rintro pre x v Wp W2 ⟨hi, hl0, hk0, hsz⟩ hf hy
      have hl : W2.heap[w.heap.size + 1]? = some (.loop (rec .ready none)) := (hf.block _ (by omega) (fun hb => by have := hS _ hb; omega)).trans hl0
      have hk : W2.heap[w.heap.size]? = some (.deferred (some [])) := (hf.block _ (by omega) (fun hb => by have := hS _ hb; omega)).trans hk0
      have hsz2 := hf.size
      have hyl := run_yield (P := P) (args := #[v]) hl (by rw [hrec]; rfl)
      rw [hrec] at hyl
      have hl2 : (W2.putObj (w.heap.size + 1) (.loop { rec .ready none with state := .busy })).heap[w.heap.size + 1]? = some (.loop { rec .ready none with state := .busy }) := World.putObj_heap_same (by omega)
      have hk2 : (W2.putObj (w.heap.size + 1) (.loop { rec .ready none with state := .busy })).heap[w.heap.size]? = some (.deferred (some [])) := (World.putObj_heap_other (by omega)).trans hk
      have hp2 : Fr (Two w.heap.size) W2 (W2.putObj (w.heap.size + 1) (.loop { rec .ready none with state := .busy })) := (Fr.refl _ _).putObj (.inl (.inr rfl)) _
      have ez : (((#[p] : Array Tmp).zip #[v]).foldl (fun tmps (t, a) => tmps.setIfInBounds t a) a.tmps) = a.tmps.setIfInBounds p v := by simp [Array.zip, Array.zipWith, Array.zipWithMAux]
      refine ⟨fn, a.tmps.setIfInBounds p v, assign, body, by rw [← ez]; exact hyl, roundIn_of_wpIn hfn ?_⟩
      have hf3 : Fr (fun b => S b ∨ Two w.heap.size b) Wp (W2.putObj (w.heap.size + 1) (.loop { rec .ready none with state := .busy })) :=
        (hf.mono (fun b _ hb => Or.inl hb)).trans (hp2.mono (fun b _ hb => Or.inr hb)) (fun b _ hb => hb)
      refine hround _ pre x v Wp W2 _ _ hsz hi hf3 (hY _ _ _ _ _ _ hsz hy hp2) ?_
      intro a1 hb0
      refine ⟨_, run_beginRound hl (by rw [hrec]), wpIn_mono hb0 ?_⟩
      rintro e a3 W3 hp
      cases e with
      | normal =>
        obtain ⟨hf4, hi3⟩ := hp
        have hl3 : W3.heap[w.heap.size + 1]? = some (.loop { rec .ready none with state := .busy }) := (hf4.block _ (by simp; omega) (fun hb => hb.2 (.inr rfl))).trans hl2
        have hk3 : W3.heap[w.heap.size]? = some (.deferred (some [])) := (hf4.block _ (by simp; omega) (fun hb => hb.2 (.inl rfl))).trans hk2
        have hr := run_endRound (P := P) none hl3
        have hsz3 := hf4.size
        simp only [World.putObj_size] at hsz3
        have hp3 : Fr (Two w.heap.size) W3 (W3.putObj (w.heap.size + 1) (.loop (rec .ready none))) := (Fr.refl _ _).putObj (.inl (.inr rfl)) _
        refine ⟨_, W3.putObj (w.heap.size + 1) (.loop (rec .ready none)), by rw [hr, hrec]; rfl, rfl, ⟨hI _ _ _ hi3 (hp3.mono fun b _ hb => .inr hb), World.putObj_heap_same (by omega), (World.putObj_heap_other (by omega)).trans hk3, by simp; omega⟩, ?_⟩
        have e1 : Fr T W2 (W2.putObj (w.heap.size + 1) (.loop { rec .ready none with state := .busy })) := (Fr.refl _ _).putObj (.inl (hT _ (by omega))) _
        have e2 : Fr T W2 W3 := e1.trans hf4 (fun b _ hb => hb.1)
        exact e2.putObj (.inl (hT _ (by omega))) _
      | ret => exact hp.elim
      | exit id => exact hp.elim
      | goto t => exact hp.elim
      | panic ch => exact hp.elim
      | outgrown => exact hp.elim
    · rintro e W2 ⟨⟨v, rfl⟩, xs, hZ, hi, hl, hk, hsz⟩
      have hp3 : Fr (Two w.heap.size) W2 (W2.putObj (w.heap.size + 1) (.loop { rec .ready none with state := .exhausted })) := (Fr.refl _ _).putObj (.inl (.inr rfl)) _
      exact ⟨none, _, by have := run_endLoop (P := P) hl (by rw [hrec]; simp); rw [hrec] at this ⊢; exact this, hdone xs W2 _ hZ (hI _ _ _ hi (hp3.mono fun b _ hb => .inr hb)) hp3 (by simp; omega) ((World.putObj_heap_other (by omega)).trans hk)⟩

theorem wpListIn_app {F : Fence} {n0 : Nat} {P : Program} (w : World) {ops : Array Oper} {rest : List Oper} {o : Oper} {a : Act} {Q : Exit → Act → World → Prop} (hgd : o.guard = none) (sx x : Operand) (t : TypeId)
    (ho : o.op = .call { callee := .builtin .append, args := #[sx, x], argTypes := #[t, t] })
    (e : TypeId) (i : TypeInfo) (z : Value) (s bytes : Nat) (ht : P.underlying t = some (.slice e)) (hi : P.info? e = some i) (hz : i.zero = some z)
    (hsize : i.size = s) (hby : i.bytes = bytes) (hzs : z.cells.size = s) (hs0 : 0 < s) {T : Value → Prop} (hT : ∀ v ∈ z.cells.toList, T v)
    {O O' : Nat → Prop} (hO : O w.heap.size) {A : Option Addr} {n c : Nat} {vs : List Value} (ha : a.eval sx = .slice A n c) (hown : Ost.Own w O e T A (n * s) (c * s) vs)
    {B : Option Addr} {m d : Nat} {news : List Value} (hb : a.eval x = .slice B m d) (hr : Rd w O' B (m * s) news) (h1 : ∀ u ∈ news, u.oneCell' = true)
    (h63 : n + m ≤ maxLen) (hbytes : (n + m) * bytes ≤ 140737488355328)
    (h : ∀ A' c' w', Ost.Own w' O e T A' ((n + m) * s) (c' * s) (vs ++ news) → Fr (At A) w w' → (c ≤ maxLen → c' ≤ maxLen) → (∀ b, At A' b → At A b ∨ w.heap.size ≤ b) → wpListIn F n0 P ops Q rest (a.put o.dst (.slice A' (n + m) c')) w') :
    wpListIn F n0 P ops Q (o :: rest) a w := by
  refine wpListIn_plain hgd fun K hK' => ?_
  obtain ⟨A', c', w', hrun, h2, h3, h4, h5⟩ := run_app (P := P) w t o.type e i z s bytes ht hi hz hsize hby hzs hs0 hT hO hown hr h1 h63 hbytes (d := d)
  unfold Oper.wpIn
  refine ⟨?_, ?_⟩
  · simp [Oper.about, ho, resolve, Target.leads, Sem.run_pure]
  · rw [Oper.semAt_plain F _ _ (by rw [ho]; intro c hc'; cases hc')]
    simp [execOp, ho, resolve, invoke, builtin, ha, hb, hrun, Result.andThen]
    exact hK' _ _ (h A' c' w' h2 h3 h4 h5)
end Go.Ost
