import Derived.Test.YbuaawW21
import Derived.Test.YbuaawW22
import Derived.Test.YbuaawW36
import Derived.Test.YbuaawW37
namespace Go.Proofs.Ybuaaw
open Go.RowKit

theorem render_any (l : List UInt8) (n : Int) (w : World) (hs : l.length ≤ 1048576) (hn : n ≤ 9223372036854775807) :
    Calls Yaac.prog 16 #[.string (mk l), .int .i64 n] w fun e w' => e = .returned (.string (mk (rall (wid n) (pblocks l)))) ∧ Below w.heap.size w w' := by
  have hb := pblocks_bln l
  go_enter Yaac.func16, Yaac.ntmps16
  go_wp2_with fail
  refine (parseBlocks_any l _ hs).mono ?_
  rintro e w1 ⟨v1, rfl, ho1, hb1⟩
  have z1 := hb1.size
  go_wp2_with fail
  refine (renderAll_any (pblocks l) _ n w1.heap.size _ (Nat.le_refl _) ho1.rdd (by omega) hn).mono ?_
  rintro e w2 ⟨rfl, hb2⟩
  go_wp2
  go_ret
  exact ⟨rfl, hb1.trans (hb2.mono z1)⟩
theorem renderS_any (l : List UInt8) (n : Int) (w : World) (hs : l.length ≤ 1048576) (hn : n ≤ 9223372036854775807) :
    Calls Yaac.prog 15 #[.string (mk l), .int .i64 n] w fun e w' => e = .returned (.string (mk (rall (wid n) (pblocks l)))) ∧ Below w.heap.size w w' := by
  have hb := pblocks_bln l
  go_enter Yaac.func15, Yaac.ntmps15
  go_wp2_with fail
  refine (parseBlocksS_any l _ hs).mono ?_
  rintro e w1 ⟨v1, rfl, ho1, hb1⟩
  have z1 := hb1.size
  go_wp2_with fail
  refine (renderAllS_any (pblocks l) _ n w1.heap.size _ (Nat.le_refl _) ho1.rdd (by omega) hn).mono ?_
  rintro e w2 ⟨rfl, hb2⟩
  go_wp2
  go_ret
  exact ⟨rfl, hb1.trans (hb2.mono z1)⟩
end Go.Proofs.Ybuaaw
