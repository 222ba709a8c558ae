import Derived.Test.YbuaawMem2
namespace Go.Proofs.Ybuaaw
open Go.RowKit

/-! ### A block of another element type -/
theorem Own.ne_block {α : Type} {T : ET α} {w : World} {B N e' : Nat} {v : Value} {l : List α} {cs : Array Value} {fr : Nat × Nat} (h : Own w B T v l) (hN : w.heap[N]? = some (.cells cs e' fr)) (he : T.e ≠ e') : some N ≠ v.ownBlock := by
  unfold Own at h
  rcases h.2 with ⟨rfl, _⟩ | ⟨g, cap, cur, rfl, _, hg, _⟩
  · simp [Value.ownBlock]
  · simp only [Value.ownBlock, ne_eq, Option.some.injEq]
    intro e1
    subst e1
    rw [hN] at hg
    simp at hg
    exact he hg.2.1.symm
theorem blk_kept {α : Type} {T : ET α} {w w' : World} {B N e' : Nat} {v : Value} {l : List α} {cs : Array Value} {fr : Nat × Nat} (h : Own w B T v l) (hg : w.grownBy w' v.ownBlock) (hN : w.heap[N]? = some (.cells cs e' fr)) (he : T.e ≠ e') : w'.heap[N]? = some (.cells cs e' fr) :=
  (hg.block N (Array.getElem?_eq_some_iff.1 hN).1 (h.ne_block hN he)).trans hN
theorem blk_below {w w' : World} {N e' : Nat} {cs : Array Value} {fr : Nat × Nat} (hb : Below w.heap.size w w') (hN : w.heap[N]? = some (.cells cs e' fr)) : w'.heap[N]? = some (.cells cs e' fr) :=
  (hb.block N (Array.getElem?_eq_some_iff.1 hN).1).trans hN
theorem blk_cell {w : World} {N e' j : Nat} {cs : Array Value} {fr : Nat × Nat} {u : Value} (hN : w.heap[N]? = some (.cells cs e' fr)) (hu : cs[j]? = some u) : w.cell? ⟨N, j, none⟩ = some u := by
  rw [cell_of_row w N j cs e' fr hN]; exact hu
end Go.Proofs.Ybuaaw
