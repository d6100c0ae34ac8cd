/- 'append' onto a row of the call's own, in the words of XMem: what comes back reads as the old values and the new ones; only the row's own block and new ones have turned. -/
import Derived.Test.YtfkkaalchffgaaaMem
import Derived.OwnWalk
import Derived.RegionTactic
namespace Go.Ost
open Go.RowKit

/-- The block of an owned row, as a set. -/
def At (A : Option Addr) : Nat → Prop := fun b => ∃ o, A = some ⟨b, o, none⟩

theorem zero_mem {T : Value → Prop} {cs : Array Value} (hc : ∀ v ∈ cs.toList, T v) {n : Nat} : ∀ v ∈ (Builtin.zeroCells cs n).toList, T v := by
  intro v hv
  simp only [Builtin.zeroCells, Array.toList_map, List.mem_map, Array.mem_toList_iff, Array.mem_range] at hv
  obtain ⟨i, hi, rfl⟩ := hv
  have h0 : 0 < cs.size := by
    rcases Nat.eq_zero_or_pos cs.size with h | h
    · rw [h] at hi; omega
    · exact h
  have hm := Nat.mod_lt i h0
  rw [getElem!_pos cs _ hm]
  exact hc _ (by simp)

/-- One value in a new block of its own. -/
theorem rd_one (w : World) (v : Value) (t : TypeId) : Rd (w.alloc (.cells #[v] t)) (fun _ => True) (some ⟨w.heap.size, 0, none⟩) (1 * 1) [v] :=
  ⟨rfl, fun _ => ⟨_, _, rfl, trivial, fun j u hu => by
    cases j with
    | zero => simp at hu; subst hu; rw [Nat.add_zero, (Blk.new w t #[v]).cell]; rfl
    | succ j => simp at hu⟩⟩

section
variable {P : Program} (w : World)
/-- The run of an append, in these words. 's': the cells of one element. -/
theorem run_app (t ty e : TypeId) (i : TypeInfo) (z : Value) (s bytes : Nat) (ht : P.underlying t = some (.slice e)) (hi : P.info? e = some i) (hz : i.zero = some z)
    (hsize : i.size = s) (hby : i.bytes = bytes) (hzs : z.cells.size = s) (hs0 : 0 < s) {T : Value → Prop} (hT : ∀ v ∈ z.cells.toList, T v)
    {O O' : Nat → Prop} (hO : O w.heap.size) {A : Option Addr} {n c : Nat} {vs : List Value} (hown : Own w O e T A (n * s) (c * s) vs)
    {B : Option Addr} {m d : Nat} {news : List Value} (hr : Rd w O' B (m * s) news) (h1 : ∀ u ∈ news, u.oneCell' = true)
    (h63 : n + m ≤ maxLen) (hbytes : (n + m) * bytes ≤ 140737488355328) :
    ∃ A' c' w', (Builtin.append_ #[t, t] ty #[.slice A n c, .slice B m d]).run P w = .ok (.slice A' (n + m) c') w' ∧ Own w' O e T A' ((n + m) * s) (c' * s) (vs ++ news) ∧
      Fr (At A) w w' ∧ (c ≤ maxLen → c' ≤ maxLen) ∧ (∀ b, At A' b → At A b ∨ w.heap.size ≤ b) := by
  subst hsize
  subst hby
  have hlen : (vs ++ news).length = (n + m) * i.size := by rw [List.length_append, hown.1, hr.1, Nat.add_mul]
  have h63i : n + m ≤ 9223372036854775807 := by simp only [maxLen] at h63; omega
  rcases Nat.eq_zero_or_pos m with hm | hm
  · subst hm
    have hn : news = [] := List.eq_nil_of_length_eq_zero (by simpa using hr.1)
    subst hn
    have hnc : n ≤ c := Nat.le_of_mul_le_mul_right hown.le hs0
    refine ⟨A, c, w, ?_, by simpa using hown, Fr.refl _ _, fun h => h, fun b hb => .inl hb⟩
    rcases B with _ | ad
    · rcases A with _ | a
      · simp [Builtin.append_, run_underlying ht, sizeOf, typeInfo, hi, Builtin.lenOf, Builtin.firstCells, hnc]
      · simp [Builtin.append_, run_underlying ht, sizeOf, typeInfo, hi, Builtin.lenOf, Builtin.firstCells, hnc, storeCells]
    · rcases A with _ | a
      · simp [Builtin.append_, run_underlying ht, sizeOf, typeInfo, hi, Builtin.lenOf, Builtin.firstCells, hnc, loadCells, loadCellsFrom]
      · simp [Builtin.append_, run_underlying ht, sizeOf, typeInfo, hi, Builtin.lenOf, Builtin.firstCells, hnc, loadCells, loadCellsFrom, storeCells]
  · obtain ⟨b2, o2, rfl, hOb, hcells⟩ := hr.2 (Nat.mul_pos hm hs0)
    have hnews : ∀ j u, news[j]? = some u → w.cell? ((⟨b2, o2, none⟩ : Addr).add j) = some u := fun j u hu => by rw [add_lit_none]; exact hcells j u hu
    have grown : ∀ (old : Nat), old < n + m → Own (w.drew.alloc (.cells (vs.toArray ++ news.toArray ++ Builtin.zeroCells z.cells (grownCap w (n + m) old e - (n + m))) e)) O e T (some ⟨w.heap.size, 0, none⟩) ((n + m) * i.size) (grownCap w (n + m) old e * i.size) (vs ++ news) := by
      intro old ho
      have hge := grownCap_ge w (n + m) old e
      refine ⟨hlen, .inr ⟨w.heap.size, (Builtin.zeroCells z.cells (grownCap w (n + m) old e - (n + m))).toList, rfl, hO, ?_, ?_, zero_mem hT⟩⟩
      · have e1 : ((vs ++ news) ++ (Builtin.zeroCells z.cells (grownCap w (n + m) old e - (n + m))).toList).toArray = vs.toArray ++ news.toArray ++ Builtin.zeroCells z.cells (grownCap w (n + m) old e - (n + m)) := by
          apply Array.ext'
          simp
        rw [e1]
        exact Blk.new w.drew e _
      · simp only [Array.length_toList, size_zeroCells, hzs, ← Nat.add_mul]
        congr 1
        omega
    have fr : ∀ o, Fr (At A) w (w.drew.alloc o) := fun o => (Fr.refl _ _).drew.alloc o
    have fresh : ∀ x, At (some ⟨w.heap.size, 0, none⟩) x → At A x ∨ w.heap.size ≤ x := fun x hx => .inr (by obtain ⟨o, e⟩ := hx; injection e with e; injection e with e; omega)
    obtain ⟨hl, hcase⟩ := hown
    rcases hcase with ⟨rfl, hn0, hc0⟩ | ⟨b, ts, rfl, hOb1, hb, hc, hts⟩
    · have hn : n = 0 := by rcases Nat.mul_eq_zero.1 hn0 with h | h <;> omega
      have hcz : c = 0 := by rcases Nat.mul_eq_zero.1 hc0 with h | h <;> omega
      subst hn hcz
      have hv : vs = [] := List.eq_nil_of_length_eq_zero (by simpa using hl)
      subst hv
      have hrun := run_append_nil (P := P) w t ty e i z ht hi hz ⟨b2, o2, none⟩ m d news (by simpa using hr.1) hnews hm (by omega) (by have hb := hbytes; simp only [Nat.zero_add] at hb; omega)
      have hg := grown 0 (by omega)
      simp only [Nat.zero_add, List.nil_append, Array.empty_append] at hg ⊢
      exact ⟨_, _, _, hrun, hg, fr _, fun _ => grownCap_le_maxLen w m 0 e (by simpa using h63), fresh⟩
    · by_cases hroom : n + m ≤ c
      · have hcur : (vs ++ ts).toArray.size = c * i.size := by simp only [List.size_toArray, List.length_append, hl]; exact hc
        have hfit : n * i.size + news.length ≤ (vs ++ ts).toArray.size := by rw [hcur, hr.1, ← Nat.add_mul]; exact Nat.mul_le_mul_right _ hroom
        have hrun := run_append_room (P := P) w t ty e i ht hi b n c (vs ++ ts).toArray hb ⟨b2, o2, none⟩ m d news hr.1 hnews h1 hroom hfit
        refine ⟨_, _, _, hrun, ⟨hlen, .inr ⟨b, ts.drop news.length, rfl, hOb1, ?_, ?_, fun v hv => hts v (List.mem_of_mem_drop hv)⟩⟩, ?_, fun h => h, fun x hx => .inl hx⟩
        · have e1 : ((vs ++ ts).toArray.toList.take (n * i.size) ++ news ++ (vs ++ ts).toArray.toList.drop (n * i.size + news.length)).toArray = (vs ++ news ++ ts.drop news.length).toArray := by
            congr 1
            simp only [← hl]
            rw [List.take_left, ← List.drop_drop, List.drop_left]
          rw [e1]
          exact setRow_heap w b _ _ e _ hb
        · rw [List.length_drop, hr.1, Nat.add_mul]
          have : n * i.size + m * i.size ≤ c * i.size := by rw [← Nat.add_mul]; exact Nat.mul_le_mul_right _ hroom
          omega
        · exact ⟨rfl, rfl, rfl, by simp, fun k _ hk => setRow_other w b k _ (fun h => hk ⟨0, by rw [h]⟩)⟩
      · have holds : ∀ j u, vs[j]? = some u → w.cell? ((⟨b, 0, none⟩ : Addr).add j) = some u := fun j u hu => by
          rw [add_lit_none, Nat.zero_add, hb.cell]
          have hj : j < vs.length := (List.getElem?_eq_some_iff.1 hu).1
          simp [List.getElem?_append_left hj, hu]
        have hrun := run_append_grow (P := P) w t ty e i z ht hi hz ⟨b, 0, none⟩ n c vs hl holds ⟨b2, o2, none⟩ m d news hr.1 hnews (by omega) (by omega) (growslice_fits (by omega) hbytes)
        exact ⟨_, _, _, hrun, grown c (by omega), fr _, fun _ => grownCap_le_maxLen w (n + m) c e h63, fresh⟩

theorem wp_app {o : Oper} {a : Act} {K : Act → World → Prop} {Q : Exit → Act → World → Prop} (sx x : Operand) (t : TypeId)
    (ho : o.op = .call { callee := .builtin .append, args := #[sx, x], argTypes := #[t, t] })
    (e : TypeId) (i : TypeInfo) (z : Value) (s bytes : Nat) (ht : P.underlying t = some (.slice e)) (hi : P.info? e = some i) (hz : i.zero = some z)
    (hsize : i.size = s) (hby : i.bytes = bytes) (hzs : z.cells.size = s) (hs0 : 0 < s) {T : Value → Prop} (hT : ∀ v ∈ z.cells.toList, T v)
    {O O' : Nat → Prop} (hO : O w.heap.size) {A : Option Addr} {n c : Nat} {vs : List Value} (ha : a.eval sx = .slice A n c) (hown : Own w O e T A (n * s) (c * s) vs)
    {B : Option Addr} {m d : Nat} {news : List Value} (hb : a.eval x = .slice B m d) (hr : Rd w O' B (m * s) news) (h1 : ∀ u ∈ news, u.oneCell' = true)
    (h63 : n + m ≤ maxLen) (hbytes : (n + m) * bytes ≤ 140737488355328)
    (h : ∀ A' c' w', Own w' O e T A' ((n + m) * s) (c' * s) (vs ++ news) → Fr (At A) w w' → (c ≤ maxLen → c' ≤ maxLen) → (∀ b, At A' b → At A b ∨ w.heap.size ≤ b) → K (a.put o.dst (.slice A' (n + m) c')) w') : o.wp P a w K Q := by
  obtain ⟨A', c', w', hrun, h2, h3, h4, h5⟩ := run_app (P := P) w t o.type e i z s bytes ht hi hz hsize hby hzs hs0 hT hO hown hr h1 h63 hbytes (d := d)
  unfold Oper.wp execOp
  simp only [ho, resolve, invoke, builtin, Sem.run_bind, Sem.run_pure, Result.andThen_ok, List.map_toArray, List.map_cons, List.map_nil, ha, hb, hrun]
  exact h A' c' w' h2 h3 h4 h5

theorem wpList_app {ops : Array Oper} {rest : List Oper} {o : Oper} {a : Act} {Q : Exit → Act → World → Prop} (hgd : o.guard = none) (sx x : Operand) (t : TypeId)
    (ho : o.op = .call { callee := .builtin .append, args := #[sx, x], argTypes := #[t, t] })
    (e : TypeId) (i : TypeInfo) (z : Value) (s bytes : Nat) (ht : P.underlying t = some (.slice e)) (hi : P.info? e = some i) (hz : i.zero = some z)
    (hsize : i.size = s) (hby : i.bytes = bytes) (hzs : z.cells.size = s) (hs0 : 0 < s) {T : Value → Prop} (hT : ∀ v ∈ z.cells.toList, T v)
    {O O' : Nat → Prop} (hO : O w.heap.size) {A : Option Addr} {n c : Nat} {vs : List Value} (ha : a.eval sx = .slice A n c) (hown : Own w O e T A (n * s) (c * s) vs)
    {B : Option Addr} {m d : Nat} {news : List Value} (hb : a.eval x = .slice B m d) (hr : Rd w O' B (m * s) news) (h1 : ∀ u ∈ news, u.oneCell' = true)
    (h63 : n + m ≤ maxLen) (hbytes : (n + m) * bytes ≤ 140737488355328)
    (h : ∀ A' c' w', Own w' O e T A' ((n + m) * s) (c' * s) (vs ++ news) → Fr (At A) w w' → (c ≤ maxLen → c' ≤ maxLen) → (∀ b, At A' b → At A b ∨ w.heap.size ≤ b) → wpList P ops Q rest (a.put o.dst (.slice A' (n + m) c')) w') : wpList P ops Q (o :: rest) a w :=
  wpList_plain hgd fun _ hK => wp_app w sx x t ho e i z s bytes ht hi hz hsize hby hzs hs0 hT hO ha hown hb hr h1 h63 hbytes fun A' c' w' h2 h3 h4 h5 => hK _ _ (h A' c' w' h2 h3 h4 h5)
end
end Go.Ost
