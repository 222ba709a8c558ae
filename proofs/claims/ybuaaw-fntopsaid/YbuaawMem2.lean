import Derived.Test.YbuaawMem
namespace Go.Proofs.Ybuaaw
open Go.RowKit

/-! ### make([]T, n) -/
theorem cells_made {α : Type} (T : ET α) (z0 : α) (hz : T.zero.cells.toList = T.enc z0) (n : Nat) : (madeCells T.zero.cells (n * T.size)).toList = cells T (List.replicate n z0) := by
  apply List.ext_getElem?
  intro j
  have hs := T.hsz
  by_cases hj : j < n * T.size
  · have hk : j / T.size < n := (Nat.div_lt_iff_lt_mul hs).2 hj
    have hr : j % T.size < T.size := Nat.mod_lt _ hs
    have e1 : j = (j / T.size) * T.size + j % T.size := by rw [Nat.mul_comm]; exact (Nat.div_add_mod j T.size).symm
    have e2 := cells_get T (List.replicate n z0) (j / T.size) (j % T.size) (by simpa using hk) hr
    rw [← e1] at e2
    rw [e2]
    have hlt : j % T.zero.cells.size < T.zero.cells.size := by rw [T.hzs]; exact hr
    simp only [madeCells, Array.toList_map, Array.toList_range, List.getElem?_map, List.getElem?_range hj, Option.map_some, List.getElem_replicate]
    rw [← hz, getElem!_pos T.zero.cells (j % T.zero.cells.size) hlt]
    rw [List.getElem?_eq_getElem (by rw [Array.length_toList, T.hzs]; exact hr)]
    simp only [Array.getElem_toList, Option.some.injEq]
    congr 1
    rw [T.hzs]
  · rw [List.getElem?_eq_none (by simp [size_madeCells]; omega), List.getElem?_eq_none (by rw [cells_length]; simp; omega)]

theorem makeE {α : Type} (T : ET α) {ops : Array Oper} {rest : List Oper} {o : Oper} {a : Act} {Q : Exit → Act → World → Prop} {w : World} (z0 : α) (hz : T.zero.cells.toList = T.enc z0) (l : Operand) (B : Nat) (n : Nat) (k : IntKind)
    (hg : o.guard = none) (hop : o.op = Op.makeSlice T.t l l) (hl : a.eval l = .int k (n : Int)) (hn : n ≤ 1099511627776) (hB : B ≤ w.heap.size)
    (hK : ∀ w', Own w' B T (.slice (some ⟨w.heap.size, 0, none⟩) n n) (List.replicate n z0) → Below w.heap.size w w' → w.heap.size < w'.heap.size → wpList Yaac.prog ops Q rest (a.put o.dst (.slice (some ⟨w.heap.size, 0, none⟩) n n)) w') :
    wpList Yaac.prog ops Q (o :: rest) a w := by
  obtain ⟨i, hi, hz0, hz1, hz2⟩ := info_parts T.hi
  have hb64 := T.hby
  have hb1 : T.bytes * n ≤ 64 * 1099511627776 := Nat.mul_le_mul hb64 hn
  refine wpList_make_full w hg l l T.t hop B T.e i T.zero T.size T.ht hi hz0 hz1 k k n n n hl hl rfl rfl (by rw [hz2]; omega) (by unfold maxLen; omega) hB ?_
  intro w' ho hgr
  have ho' : Own w' B T (.slice (some ⟨w.heap.size, 0, none⟩) n n) (List.replicate n z0) := by
    unfold Own
    rw [List.length_replicate, ← cells_made T z0 hz n]
    exact ho
  refine hK w' ho' (below_of_grown hgr (Nat.le_refl _) (by simp)) ?_
  exact (World.ownsRow.lt ho _ rfl).2

/-! ### One element is stored -/
theorem cells_set_one {α : Type} (T : ET α) (l : List α) (k : Nat) (x : α) (hk : k < l.length) (j : Nat) (u : Value) (hj : j < T.size) (hx : T.enc x = (T.enc l[k]).set j u) : (cells T l).set (k * T.size + j) u = cells T (l.set k x) := by
  apply List.ext_getElem?
  intro m
  by_cases hm : m < l.length * T.size
  · have hs := T.hsz
    have hq : m / T.size < l.length := (Nat.div_lt_iff_lt_mul hs).2 hm
    have hr : m % T.size < T.size := Nat.mod_lt _ hs
    have e1 : m = (m / T.size) * T.size + m % T.size := by rw [Nat.mul_comm]; exact (Nat.div_add_mod m T.size).symm
    have e2 := cells_get T (l.set k x) (m / T.size) (m % T.size) (by simpa using hq) hr
    rw [← e1] at e2
    rw [e2, List.getElem?_set]
    have e3 := cells_get T l (m / T.size) (m % T.size) hq hr
    rw [← e1] at e3
    by_cases hkm : k = m / T.size
    · subst hkm
      rw [List.getElem_set_self, hx, List.getElem?_set]
      by_cases hjm : j = m % T.size
      · subst hjm
        rw [← e1]
        simp only [if_true]
        rw [if_pos (by rw [cells_length]; exact hm), if_pos (by rw [T.len]; exact hr)]
      · rw [if_neg hjm, if_neg (by omega), e3]
    · rw [List.getElem_set_ne hkm]
      rw [if_neg, e3]
      intro e4
      apply hkm
      have : (k * T.size + j) / T.size = k := by
        rw [Nat.mul_comm, Nat.mul_add_div hs, Nat.div_eq_of_lt hj, Nat.add_zero]
      rw [← e4]; exact this.symm
  · rw [List.getElem?_eq_none (by rw [List.length_set, cells_length]; omega), List.getElem?_eq_none (by rw [cells_length, List.length_set]; omega)]

theorem Own.store1 {α : Type} {T : ET α} {w : World} {B g n cap : Nat} {l : List α} (h : Own w B T (.slice (some ⟨g, 0, none⟩) n cap) l) (k : Nat) (hk : k < l.length) (x : α) (j : Nat) (u : Value) (hj : j < T.size) (hx : T.enc x = (T.enc l[k]).set j u) :
    Own (w.setCell ⟨g, k * T.size + j, none⟩ u) B T (.slice (some ⟨g, 0, none⟩) n cap) (l.set k x) := by
  unfold Own at h ⊢
  have hn : n = l.length := by
    rcases h.2 with ⟨h1, _⟩ | ⟨g', cap', cur, h1, _⟩
    · simp at h1
    · simp at h1; exact h1.2.1
  subst hn
  have := (World.ownsRow.stored h (k * T.size + j) u).1
  rw [cells_set_one T l k x hk j u hj hx] at this
  rw [List.length_set]
  exact this

theorem Own.cellAt {α : Type} {T : ET α} {w : World} {B g n cap : Nat} {l : List α} (h : Own w B T (.slice (some ⟨g, 0, none⟩) n cap) l) (k : Nat) (hk : k < l.length) (j : Nat) (hj : j < T.size) : w.cell? ⟨g, k * T.size + j, none⟩ = (T.enc l[k])[j]? := by
  have hn : n = l.length := by
    unfold Own at h
    rcases h.2 with ⟨h1, _⟩ | ⟨g', cap', cur, h1, _⟩
    · simp at h1
    · simp at h1; exact h1.2.1
  subst hn
  rw [← cells_get T l k j hk hj]
  refine World.ownsRow.cellAt h _ ?_
  calc k * T.size + j < k * T.size + T.size := by omega
    _ = (k + 1) * T.size := by rw [Nat.add_mul, Nat.one_mul]
    _ ≤ l.length * T.size := Nat.mul_le_mul_right _ (by omega)

theorem Own.frozenAt {α : Type} {T : ET α} {w : World} {B g n cap : Nat} {l : List α} (h : Own w B T (.slice (some ⟨g, 0, none⟩) n cap) l) (j : Nat) : w.frozen? ⟨g, j, none⟩ = false := by
  have hn : n = l.length := by
    unfold Own at h
    rcases h.2 with ⟨h1, _⟩ | ⟨g', cap', cur, h1, _⟩
    · simp at h1
    · simp at h1; exact h1.2.1
  subst hn
  exact World.ownsRow.frozenAt h j

/-! ### A part of a row that the call owns -/
def OwnR {α : Type} (w : World) (B : Nat) (T : ET α) (v : Value) (l : List α) : Prop :=
  ∃ ao cap, v = .slice ao l.length cap ∧ l.length ≤ cap ∧ cap ≤ maxLen ∧ (l = [] ∨ ∃ g off cur, ao = some ⟨g, off, none⟩ ∧ B ≤ g ∧ w.heap[g]? = some (.cells cur T.e (0, 0)) ∧ (cur.toList.drop off).take (l.length * T.size) = cells T l)

section
variable {α : Type} {T : ET α} {w w' : World} {B : Nat} {v : Value} {l : List α}
theorem Own.ownR (h : Own w B T v l) : OwnR w B T v l := by
  unfold Own at h
  rcases h.2 with ⟨rfl, h0⟩ | ⟨g, cap, cur, rfl, hb, hg, hn, hc, hs, ht⟩
  · have e : l = [] := List.eq_nil_of_length_eq_zero h0
    subst e
    exact ⟨none, 0, rfl, Nat.le_refl _, Nat.zero_le _, .inl rfl⟩
  · exact ⟨_, cap, rfl, hn, hc, .inr ⟨g, 0, cur, rfl, hb, hg, by simpa using ht⟩⟩
theorem OwnR.shape (h : OwnR w B T v l) : ∃ ao cap, v = .slice ao l.length cap := by
  obtain ⟨ao, cap, rfl, _⟩ := h
  exact ⟨_, _, rfl⟩
theorem OwnR.rdd (h : OwnR w B T v l) : Rdd w w.heap.size T v l := by
  obtain ⟨ao, cap, rfl, hn, hc, h1⟩ := h
  refine ⟨cells_length T l, ao, cap, rfl, hn, hc, ?_⟩
  rcases h1 with rfl | ⟨g, off, cur, rfl, hb, hg, ht⟩
  · exact .inl rfl
  · refine .inr ⟨g, off, rfl, (Array.getElem?_eq_some_iff.1 hg).1, fun j u hu => ?_⟩
    rw [cell_of_row w g (off + j) cur T.e (0, 0) hg]
    rw [← ht, List.getElem?_take] at hu
    split at hu
    · rw [List.getElem?_drop] at hu
      simpa using hu
    · cases hu
theorem OwnR.below (h : OwnR w B T v l) (hb : Below w.heap.size w w') : OwnR w' B T v l := by
  obtain ⟨ao, cap, rfl, hn, hc, h1⟩ := h
  refine ⟨ao, cap, rfl, hn, hc, ?_⟩
  rcases h1 with rfl | ⟨g, off, cur, rfl, hb', hg, ht⟩
  · exact .inl rfl
  · exact .inr ⟨g, off, cur, rfl, hb', (hb.block g (Array.getElem?_eq_some_iff.1 hg).1).trans hg, ht⟩
theorem OwnR.base {B' : Nat} (h : OwnR w B T v l) (hB : B' ≤ B) : OwnR w B' T v l := by
  obtain ⟨ao, cap, rfl, hn, hc, h1⟩ := h
  refine ⟨ao, cap, rfl, hn, hc, ?_⟩
  rcases h1 with rfl | ⟨g, off, cur, rfl, hb', hg, ht⟩
  · exact .inl rfl
  · exact .inr ⟨g, off, cur, rfl, by omega, hg, ht⟩
theorem OwnR.take {ao : Option Addr} {n cap : Nat} (h : OwnR w B T (.slice ao n cap) l) (m : Nat) (hm : m ≤ l.length) : OwnR w B T (.slice ao m cap) (l.take m) := by
  obtain ⟨ao', cap', h0, hn, hc, h1⟩ := h
  simp only [Value.slice.injEq] at h0
  obtain ⟨rfl, rfl, rfl⟩ := h0
  have e1 : (l.take m).length = m := by rw [List.length_take]; omega
  refine ⟨ao, cap, by rw [e1], by omega, hc, ?_⟩
  rcases h1 with rfl | ⟨g, off, cur, rfl, hb', hg, ht⟩
  · exact .inl (by simp)
  · refine .inr ⟨g, off, cur, rfl, hb', hg, ?_⟩
    have e2 : cells T l = cells T (l.take m) ++ cells T (l.drop m) := by rw [← cells_append, List.take_append_drop]
    rw [e2] at ht
    rw [e1]
    have e3 : (cur.toList.drop off).take (m * T.size) = ((cur.toList.drop off).take (l.length * T.size)).take (m * T.size) := by
      rw [List.take_take, Nat.min_eq_left (Nat.mul_le_mul_right _ hm)]
    rw [e3, ht, List.take_append_of_le_length (by rw [cells_length, e1]; exact Nat.le_refl _), List.take_of_length_le (by rw [cells_length, e1]; exact Nat.le_refl _)]
theorem OwnR.drop1 {ao : Option Addr} {n cap : Nat} (h : OwnR w B T (.slice ao n cap) l) (hl : 0 < l.length) :
    OwnR w B T (.slice (if cap = 1 then ao else ao.map fun a => a.add T.size) (n - 1) (cap - 1)) (l.drop 1) := by
  obtain ⟨ao', cap', h0, hn, hc, h1⟩ := h
  simp only [Value.slice.injEq] at h0
  obtain ⟨rfl, rfl, rfl⟩ := h0
  have e1 : (l.drop 1).length = l.length - 1 := by rw [List.length_drop]
  refine ⟨_, _, by rw [e1], by omega, by omega, ?_⟩
  by_cases hn1 : l.length = 1
  · exact .inl (List.drop_of_length_le (by omega))
  · rcases h1 with rfl | ⟨g, off, cur, rfl, hb', hg, ht⟩
    · simp at hl
    · refine .inr ⟨g, off + T.size, cur, ?_, hb', hg, ?_⟩
      · rw [if_neg (by omega)]
        simp only [Option.map_some, Option.some.injEq]
        unfold Addr.add
        rw [if_neg (by have := T.hsz; omega)]
      · have e2 : cells T l = cells T (l.take 1) ++ cells T (l.drop 1) := by rw [← cells_append, List.take_append_drop]
        have e3 : (cells T (l.take 1)).length = T.size := by rw [cells_length, List.length_take, Nat.min_eq_left (by omega), Nat.one_mul]
        have e4 : cells T (l.drop 1) = (cells T l).drop T.size := by rw [e2, List.drop_append_of_le_length (by rw [e3]; exact Nat.le_refl _), List.drop_of_length_le (l := cells T (l.take 1)) (by rw [e3]; exact Nat.le_refl _), List.nil_append]
        rw [e4, ← ht, List.drop_take, List.drop_drop, e1, Nat.sub_mul, Nat.one_mul]
end

theorem Own.kept0 {α : Type} {T : ET α} {w w' : World} {B : Nat} {v : Value} {l : List α} (h : Own w B T v l) (hg : w.grownBy w' none) : Own w' B T v l := h.kept hg (by cases v.ownBlock <;> simp)

/-- A new block's cell behind an append to a row that was there before it. -/
theorem cell_after {α : Type} {T : ET α} {w w1 : World} {B : Nat} {v : Value} {l : List α} {o : Obj} (h : Own w B T v l) (hgr : (w.alloc o).grownBy w1 v.ownBlock) {j : Nat} {u : Value} (hc : (w.alloc o).cell? ⟨w.heap.size, j, none⟩ = some u) : w1.cell? ⟨w.heap.size, j, none⟩ = some u := by
  refine hgr.cell hc ?_
  intro e
  have := h.lt e.symm
  simp at this

theorem cell_set1 {w : World} {g o1 : Nat} {u1 : Value} {a : Addr} (h : a.block ≠ g) : (w.setCell ⟨g, o1, none⟩ u1).cell? a = w.cell? a :=
  World.cell?_of_block (Below.heap_setCell w ⟨g, o1, none⟩ u1 a.block h)
theorem cell_set3 {w : World} {g o1 o2 o3 : Nat} {u1 u2 u3 : Value} {a : Addr} (h : a.block ≠ g) : (((w.setCell ⟨g, o1, none⟩ u1).setCell ⟨g, o2, none⟩ u2).setCell ⟨g, o3, none⟩ u3).cell? a = w.cell? a := by
  rw [cell_set1 h, cell_set1 h, cell_set1 h]
theorem cell_set4 {w : World} {g o1 o2 o3 o4 : Nat} {u1 u2 u3 u4 : Value} {a : Addr} (h : a.block ≠ g) : ((((w.setCell ⟨g, o1, none⟩ u1).setCell ⟨g, o2, none⟩ u2).setCell ⟨g, o3, none⟩ u3).setCell ⟨g, o4, none⟩ u4).cell? a = w.cell? a := by
  rw [cell_set1 h, cell_set1 h, cell_set1 h, cell_set1 h]

theorem below_of_drew {B : Nat} {w w' : World} (h : Below B w.drew w') : Below B w w' := ⟨h.os, h.tape, h.output, h.size, h.block⟩

theorem set_set_same {α : Type} (l : List α) (k : Nat) (x y : α) : (l.set k x).set k y = l.set k y := by simp

theorem Own.storeInl {w : World} {B g n cap : Nat} {l : List Inl} (h : Own w B tInl (.slice (some ⟨g, 0, none⟩) n cap) l) (k : Nat) (hk : k < l.length) (x : Inl) :
    Own (((w.setCell ⟨g, k * 3, none⟩ (.int .i64 x.kind)).setCell ⟨g, k * 3 + 1, none⟩ (.int .i64 x.style)).setCell ⟨g, k * 3 + 2, none⟩ (.string (mk x.text))) B tInl (.slice (some ⟨g, 0, none⟩) n cap) (l.set k x) := by
  have h1 := h.store1 k hk ⟨x.kind, l[k].style, l[k].text⟩ 0 (.int .i64 x.kind) (by simp [tInl]) (by simp [tInl])
  have h2 := h1.store1 k (by simpa using hk) ⟨x.kind, x.style, l[k].text⟩ 1 (.int .i64 x.style) (by simp [tInl]) (by simp [tInl])
  have h3 := h2.store1 k (by simpa using hk) x 2 (.string (mk x.text)) (by simp [tInl]) (by simp [tInl])
  rw [set_set_same, set_set_same] at h3
  exact h3

theorem Own.storeBlk {w : World} {B g n cap : Nat} {l : List Blk} (h : Own w B tBlk (.slice (some ⟨g, 0, none⟩) n cap) l) (k : Nat) (hk : k < l.length) (x : Blk) :
    Own (((w.setCell ⟨g, k * 3, none⟩ (.int .i64 x.kind)).setCell ⟨g, k * 3 + 1, none⟩ (.int .i64 x.level)).setCell ⟨g, k * 3 + 2, none⟩ (.string (mk x.text))) B tBlk (.slice (some ⟨g, 0, none⟩) n cap) (l.set k x) := by
  have h1 := h.store1 k hk ⟨x.kind, l[k].level, l[k].text⟩ 0 (.int .i64 x.kind) (by simp [tBlk]) (by simp [tBlk])
  have h2 := h1.store1 k (by simpa using hk) ⟨x.kind, x.level, l[k].text⟩ 1 (.int .i64 x.level) (by simp [tBlk]) (by simp [tBlk])
  have h3 := h2.store1 k (by simpa using hk) x 2 (.string (mk x.text)) (by simp [tBlk]) (by simp [tBlk])
  rw [set_set_same, set_set_same] at h3
  exact h3

theorem Own.storeFrg {w : World} {B g n cap : Nat} {l : List Frg} (h : Own w B tFrg (.slice (some ⟨g, 0, none⟩) n cap) l) (k : Nat) (hk : k < l.length) (x : Frg) :
    Own ((((w.setCell ⟨g, k * 4, none⟩ (.int .i64 x.brk)).setCell ⟨g, k * 4 + 1, none⟩ (.int .i64 x.kind)).setCell ⟨g, k * 4 + 2, none⟩ (.int .i64 x.style)).setCell ⟨g, k * 4 + 3, none⟩ (.string (mk x.text))) B tFrg (.slice (some ⟨g, 0, none⟩) n cap) (l.set k x) := by
  have h1 := h.store1 k hk ⟨x.brk, l[k].kind, l[k].style, l[k].text⟩ 0 (.int .i64 x.brk) (by simp [tFrg]) (by simp [tFrg])
  have h2 := h1.store1 k (by simpa using hk) ⟨x.brk, x.kind, l[k].style, l[k].text⟩ 1 (.int .i64 x.kind) (by simp [tFrg]) (by simp [tFrg])
  have h3 := h2.store1 k (by simpa using hk) ⟨x.brk, x.kind, x.style, l[k].text⟩ 2 (.int .i64 x.style) (by simp [tFrg]) (by simp [tFrg])
  have h4 := h3.store1 k (by simpa using hk) x 3 (.string (mk x.text)) (by simp [tFrg]) (by simp [tFrg])
  rw [set_set_same, set_set_same, set_set_same] at h4
  exact h4
end Go.Proofs.Ybuaaw
