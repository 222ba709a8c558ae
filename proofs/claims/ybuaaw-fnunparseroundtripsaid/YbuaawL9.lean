import Derived.Test.YbuaawW3
import Derived.Test.YbuaawW5
import Derived.Test.YbuaawW6
import Derived.Test.YbuaawW7
import Derived.Test.YbuaawW12
import Derived.Test.YbuaawW13
import Derived.Test.YbuaawW18
import Derived.Test.YbuaawW19
namespace Go.Proofs.Ybuaaw
open Go.RowKit
attribute [local go_sem] mk_size mk_toList mk_getElem mk_extract take_len_drop mk_append_lit

set_option maxRecDepth 100000 in
set_option maxHeartbeats 4000000 in
theorem fnUnparseRoundTrip_walkL (l : List UInt8) (hl : l.length ≤ 1048576) (w : World) :
    Calls Yaac.prog 9 #[.string (mk l)] w fun e w' => e = .returned (.bool true) ∧ Below w.heap.size w w' := by
  have hne : ¬ (1048576 : Int) < (l.length : Int) := by omega
  have hps := pinl_size l
  have hnl := norm_len (pinl l)
  have hnt := norm_tlen (pinl l)
  have hrt := round_trip l
  have hul := unpGo_len (norm (pinl l)) 0
  have hps2 := pinl_size (unp (norm (pinl l)))
  have hul2 : (unp (norm (pinl l))).length ≤ 2 * tlen (norm (pinl l)) + 2 * (norm (pinl l)).length + 1 := hul
  have htx : ∀ p ∈ norm (pinl l), p.text.length ≤ 4294967296 := fun p hp => by have := tlen_le _ p hp; omega
  clear hul
  go_enter Yaac.func9, Yaac.ntmps9
  go_wp2_with fail
  refine (parseInline_any l _ (by omega)).mono ?_
  rintro e w1 ⟨v1, rfl, ho1, hb1⟩
  have z1 := hb1.size
  go_wp2_with fail
  refine (normalize_any (pinl l) _ w1.heap.size _ (Nat.le_refl _) ho1.rdd (by omega) (by omega)).mono ?_
  rintro e w2 ⟨v2, rfl, ho2, hb2⟩
  have z2 := hb2.size
  go_wp2_with fail
  refine (parseInlineS_any l _ (by omega)).mono ?_
  rintro e w3 ⟨v3, rfl, ho3, hb3⟩
  have z3 := hb3.size
  go_wp2_with fail
  refine (normalizeS_any (pinl l) _ w3.heap.size _ (Nat.le_refl _) ho3.rdd (by omega) (by omega)).mono ?_
  rintro e w4 ⟨v4, rfl, ho4, hb4⟩
  have z4 := hb4.size
  have hr2 := (ho2.rdd.below hb3).below (hb4.mono z3)
  go_wp2_with fail
  refine (sameInlines_true (norm (pinl l)) _ _ w4.heap.size _ (Nat.le_refl _) (hr2.mono (by omega)) ho4.rdd).mono ?_
  rintro e w5 ⟨rfl, hb5⟩
  have z5 := hb5.size
  have hr5 := hr2.below (hb5.mono (by omega))
  go_wp2_with fail
  refine (cpInlines_any (norm (pinl l)) _ w2.heap.size _ (by omega) hr5 (by omega) htx).mono ?_
  rintro e w6 ⟨v6, rfl, ho6, hb6⟩
  have z6 := hb6.size
  have hr6 := hr5.below (hb6.mono (by omega))
  go_wp2_with fail
  refine (unparse_any (norm (pinl l)) _ w6.heap.size _ (Nat.le_refl _) ho6.rdd (by omega) (by omega)).mono ?_
  rintro e w7 ⟨rfl, hb7⟩
  have z7 := hb7.size
  have hr7 := hr6.below (hb7.mono (by omega))
  go_wp2_with fail
  refine (unparseS_any (norm (pinl l)) _ w2.heap.size _ (by omega) hr7 (by omega) (by omega)).mono ?_
  rintro e w8 ⟨rfl, hb8⟩
  have z8 := hb8.size
  have hr8 := hr7.below (hb8.mono (by omega))
  go_wp2_with fail
  refine (parseInline_any (unp (norm (pinl l))) _ (by omega)).mono ?_
  rintro e w9 ⟨v9, rfl, ho9, hb9⟩
  have z9 := hb9.size
  have hr9 := hr8.below (hb9.mono (by omega))
  go_wp2_with fail
  refine (normalize_any (pinl (unp (norm (pinl l)))) _ w9.heap.size _ (Nat.le_refl _) ho9.rdd (by omega) (by omega)).mono ?_
  rw [hrt]
  rintro e wa ⟨va, rfl, hoa, hba⟩
  have za := hba.size
  have hra := hr9.below (hba.mono (by omega))
  go_wp2_with fail
  refine (sameInlines_true (norm (pinl l)) _ _ wa.heap.size _ (Nat.le_refl _) hoa.rdd (hra.mono (by omega))).mono ?_
  rintro e wb ⟨rfl, hbb⟩
  go_wp2
  go_ret
  exact ⟨rfl, ((((((((((hb1.trans (hb2.mono (by omega))).trans (hb3.mono (by omega))).trans (hb4.mono (by omega))).trans (hb5.mono (by omega))).trans (hb6.mono (by omega))).trans (hb7.mono (by omega))).trans (hb8.mono (by omega))).trans (hb9.mono (by omega))).trans (hba.mono (by omega))).trans (hbb.mono (by omega)))⟩

theorem fnUnparseRoundTrip_walk (a0 : ByteArray) (w0 : a0.size ≤ maxLen) (w : World) :
    Calls Yaac.prog 9 #[.string a0] w fun e w' => e = .returned (.bool true) ∧ Below w.heap.size w w' := by
  rw [← mk_of a0]
  have e1 : a0.size = a0.toList.length := by rw [← mk_size, mk_of]
  rw [e1] at w0
  generalize a0.toList = l at w0 ⊢
  by_cases hl : l.length ≤ 1048576
  · exact fnUnparseRoundTrip_walkL l hl w
  · unfold maxLen at w0
    have hne : (1048576 : Int) < (l.length : Int) := by omega
    go_enter Yaac.func9, Yaac.ntmps9
    go_wp2
    go_ret
    exact ⟨rfl, Below.refl _ _⟩
end Go.Proofs.Ybuaaw
