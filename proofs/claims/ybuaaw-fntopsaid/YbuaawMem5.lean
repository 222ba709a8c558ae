import Derived.Test.YbuaawMem4
namespace Go.Proofs.Ybuaaw
open Go.RowKit

theorem grown_set (w : World) (g o : Nat) (u : Value) : w.grownBy (w.setCell ⟨g, o, none⟩ u) (some g) :=
  ⟨rfl, rfl, rfl, by simp, fun k _ hk => Below.heap_setCell w ⟨g, o, none⟩ u k (fun e => hk (by simp [e]))⟩
theorem Own.setOther {α : Type} {T : ET α} {w : World} {B : Nat} {v : Value} {l : List α} (h : Own w B T v l) {g : Nat} (o : Nat) (u : Value) (hg : v.ownBlock ≠ some g) : Own (w.setCell ⟨g, o, none⟩ u) B T v l :=
  h.kept (grown_set w g o u) (.inr hg)
theorem Own.subB {w : World} {B g n cap : Nat} {l : List UInt8} (h : Own w B tByte (.slice (some ⟨g, 0, none⟩) n cap) l) (p q : Nat) (hp : p ≤ q) (hq : q ≤ l.length) : Rdd w w.heap.size tByte (.slice (some ⟨g, p, none⟩) (q - p) (cap - p)) ((l.drop p).take (q - p)) := by
  obtain ⟨h1, ao, cap', h2, h3, h4, h5⟩ := h.rdd
  simp only [Value.slice.injEq] at h2
  obtain ⟨rfl, rfl, rfl⟩ := h2
  have e1 : ((l.drop p).take (q - p)).length = q - p := by simp; omega
  refine ⟨by rw [cells_length], _, _, by rw [e1], by rw [e1]; omega, by omega, ?_⟩
  rcases h5 with h5 | ⟨b, off, h6, h7, h8⟩
  · left
    have e2 := cells_length tByte l
    rw [h5] at e2
    have : l = [] := List.eq_nil_of_length_eq_zero (by simpa [tByte] using e2.symm)
    subst this
    simp [cells]
  · right
    simp only [Option.some.injEq, Addr.mk.injEq] at h6
    obtain ⟨rfl, rfl, -⟩ := h6
    refine ⟨g, p, rfl, h7, fun j u hu => ?_⟩
    have := h8 (p + j) u ?_
    · rwa [Nat.zero_add] at this
    · rw [cells_byte] at hu ⊢
      rw [List.getElem?_map] at hu ⊢
      rw [← hu]
      congr 1
      rw [List.getElem?_take]
      split
      · rw [List.getElem?_drop]
      · rename_i hj
        rw [List.getElem?_take, if_neg hj] at hu
        cases hu
end Go.Proofs.Ybuaaw
