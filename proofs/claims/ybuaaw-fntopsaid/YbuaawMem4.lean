import Derived.Test.YbuaawMem3
import Derived.Deep.RegionHeld3
namespace Go.Proofs.Ybuaaw
open Go.RowKit

theorem grown_of_drew {w w' : World} {r : Option Nat} (h : w.drew.grownBy w' r) : w.grownBy w' r := ⟨h.os, h.tape, h.output, h.size, h.block⟩

/-- append of one element, at a step of a region that draws its order -/
theorem step_app1 {α : Type} (T : ET α) {ops : Array Oper} {o : Oper} {a : Act} {K : Act → World → Prop} {Q : Exit → Act → World → Prop} {E : Prop} {w : World} {cs : Array Value} (s x : Operand)
    (B : Nat) (v : Value) (l : List α) (hown : Own w B T v l) (y : α) (N : Nat) (hN : w.heap.size = N)
    (hcs : cs = (T.enc y).toArray) (hgd : o.guard = none) (ho : o.op = .call { callee := .builtin .append, args := #[s, x], argTypes := #[T.t, T.t] }) (hs : a.eval s = v)
    (hx : a.eval x = .slice (some ⟨N, 0, none⟩) 1 1)
    (hn : l.length < 1099511627776) (hB : B ≤ w.heap.size)
    (h : ∀ g cap w', Own w' B T (.slice (some ⟨g, 0, none⟩) (l.length + 1) cap) (l ++ [y]) → w.grownBy w' v.ownBlock → (v.ownBlock = some g ∨ w.heap.size < g) → Below B w w' →
      K (a.put o.dst (.slice (some ⟨g, 0, none⟩) (l.length + 1) cap)) w') :
    if Region.wanted o (yielded ops a.tmps) = true then Oper.wp Yaac.prog o a (w.alloc (.cells cs T.e)).drew K Q else E := by
  subst hcs
  subst hN
  obtain ⟨i, hi, hz0, hz1, hz2⟩ := info_parts T.hi
  have hb64 := T.hby
  have hb1 : (l.length + 1) * T.bytes ≤ 1099511627776 * 64 := Nat.mul_le_mul (by omega) hb64
  refine step_append_lies (w.alloc (.cells (T.enc y).toArray T.e)).drew hgd s x T.t ho B T.e i T.zero T.size T.bytes T.ht hi hz0 hz1 hz2 T.hzs T.hsz v l.length (cells T l) hs (World.ownsRow.alloc hown _) ⟨w.heap.size, 0, none⟩ 1 1 (T.enc y) hx (by rw [T.len]; omega) ?_ (T.one y) (by omega) ?_ (by omega) ?_ (w.heap.size + 1) (by simp) ?_
  · intro j u hu
    exact World.news_of_block (w := (w.alloc (.cells (T.enc y).toArray T.e)).drew) (heap_alloc_new w _) j u (by simpa using hu)
  · unfold maxLen; omega
  · simp; omega
  · intro g cap w' ho' hgr hat hlt
    have hgr' := grown_trans (World.grownBy_alloc w (.cells (T.enc y).toArray T.e) v.ownBlock) (grown_of_drew hgr)
    refine h g cap w' ?_ hgr' ?_ (below_of_grown hgr' hB fun k hk => (World.ownsRow.lt hown k hk).1)
    · unfold Own
      rw [cells_append, cells_one, List.length_append]
      exact ho'
    · rcases hat with h2 | h2
      · exact .inl h2
      · exact .inr (by omega)
end Go.Proofs.Ybuaaw
