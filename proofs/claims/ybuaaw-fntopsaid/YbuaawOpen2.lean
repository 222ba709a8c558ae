import Derived.Test.YbuaawOpen
import Derived.WideShapes
namespace Go.Proofs.Ybuaaw
open Go.RowKit Go.Deep

/-- One block among the arguments, opened. -/
theorem open_block {H : Type} {enc : TypeId × Value → H} {W : World} {base : Nat} {v : Value} {d : DataW H} {p : List MemPlace} (hok : Value.okWide Yaac.prog W .any base 39 v) (h : DataW.Trod enc Yaac.prog W 0 (fun _ => true) true 39 v d p) :
    ∃ x : Blk, v = .agg #[.int .i64 x.kind, .int .i64 x.level, .string (mk x.text)] ∧ x.text.length ∈ d.weights Yaac.prog 39 := by
  obtain ⟨cs, rfl, hsz⟩ := WideShapes.okWide_struct Yaac.underlying39 hok
  obtain ⟨fuel, hf⟩ := h
  simp only [Value.cells] at hf
  obtain ⟨x, hx, hw⟩ := elem_blk _ _ _ _ hf
  refine ⟨x, ?_, hw⟩
  congr 1
  apply Array.toList_inj.1
  rw [hx]
  rfl
end Go.Proofs.Ybuaaw
