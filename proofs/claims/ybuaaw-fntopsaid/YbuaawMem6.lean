import Derived.Test.YbuaawMem5
namespace Go.Proofs.Ybuaaw
open Go.RowKit

theorem OwnR.set {α : Type} {T : ET α} {w : World} {B g off n cap : Nat} {l : List α} (h : OwnR w B T (.slice (some ⟨g, off, none⟩) n cap) l) (k : Nat) (hk : k < l.length) (x : α) (j : Nat) (u : Value) (hj : j < T.size) (hx : T.enc x = (T.enc l[k]).set j u) :
    OwnR (w.setCell ⟨g, off + (k * T.size + j), none⟩ u) B T (.slice (some ⟨g, off, none⟩) n cap) (l.set k x) := by
  obtain ⟨ao, cap', h0, hn, hc, h1⟩ := h
  simp only [Value.slice.injEq] at h0
  obtain ⟨rfl, rfl, rfl⟩ := h0
  refine ⟨_, _, by rw [List.length_set], by rw [List.length_set]; exact hn, hc, ?_⟩
  rcases h1 with rfl | ⟨g', off', cur, he, hb, hg, ht⟩
  · simp at hk
  · simp only [Option.some.injEq, Addr.mk.injEq] at he
    obtain ⟨rfl, rfl, -⟩ := he
    refine .inr ⟨g, off, _, rfl, hb, heap_setCell_same w g _ cur T.e u hg, ?_⟩
    rw [List.length_set, Array.toList_setIfInBounds, ← cells_set_one T l k x hk j u hj hx, ← ht]
    rw [List.drop_set, if_neg (by omega), List.take_set, Nat.add_sub_cancel_left]
end Go.Proofs.Ybuaaw
