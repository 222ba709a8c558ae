/-
  The proof of Rows.FnTopSaid: the walk lies in YbuaawL3; the frame is the guide's template at this function's number and types.
-/
import Derived.Test.YbuaawRows
import Derived.WalkKit
import Derived.ProofKit
import Derived.OpenShut
import Derived.ShutString
import Derived.ChangeOld
import Derived.Below
import Derived.SizedLaws
import Derived.Lib.SmallJoins
import Derived.Test.YbuaawOpen2
import Derived.Test.YbuaawL3
namespace Go.Proofs.Ybuaaw.fnTop
open Go.ChangeShapes Go.WideShapes Go.ChangeAt Go.RowKit Go.Joins
open Go.ChangeMaps (open_string shut_string)
set_option linter.unusedVariables false

theorem own : ownKnob Yaac.prog.godebug = none := by kernel_rfl
theorem laidOut : laidOutB Yaac.prog = true := by kernel_rfl

set_option maxRecDepth 100000 in
theorem lifted (os : Os) (started : os.Started) (H : Type) (enc : TypeId × Value → H) :
    ReturnsInHanded {} Yaac.checked os 3 .any (Rows.fnTopSpec.pre6 enc Yaac.prog Yaac.f3 Rows.fnTopRow.domain false) (Rows.fnTopSpec.post enc Yaac.prog Yaac.f3 false true false false) := by
  refine returnsInHanded_of_change_sized (C := Yaac.checked) own started (by kernel_rfl) Yaac.func3
    (ChangeSpec.witness6 (enc := enc) (C := Yaac.checked) false ⟨#[], #[.string ByteArray.empty, .int .i64 0], []⟩ 8 (by kernel_rfl) (by kernel_rfl) (by kernel_rfl) (by kernel_rfl)) ?_
  intro W base args ds gs before hval0 hW hcnd hsz0 _
  have hval : ∀ (j : Nat) t v, Yaac.f3.params[j]? = some t → args[j]? = some v → Value.okWide Yaac.prog W .any base t v := hval0
  have hsz : (DataW.weightsEach Yaac.prog (Yaac.f3.params.toList ++ Rows.fnTopSpec.plain.varTypes Yaac.prog) (ds ++ gs)).all (· ≤ reachBytes) = true := hsz0
  have hW' := hW
  obtain ⟨p, q, hA0, hV, rfl, hfz, hnd⟩ := hW
  have hA : DataW.TrodAll enc Yaac.prog W 0 (fun _ => true) true Yaac.f3.params.toList args.toList ds p := hA0
  rw [Yaac.params3] at hA hval hsz
  obtain ⟨v0, vs0, d0, ds0, p0, q0, hargs, rfl, rfl, h0, r0⟩ := trodAll_cons hA
  obtain ⟨v1, vs1, d1, ds1, p1, q1, rfl, rfl, rfl, h1, r1⟩ := trodAll_cons r0
  obtain ⟨rfl, rfl, rfl⟩ := trodAll_nil r1
  obtain rfl : args = #[v0, v1] := by cases args; simp_all
  obtain ⟨rfl, rfl⟩ := trodVars_none hV
  obtain ⟨a0, rfl, rfl, rfl, w0⟩ := open_string Yaac.underlying9 (hval 0 9 v0 rfl rfl) h0
  obtain ⟨a1, rfl, rfl, rfl, w1⟩ := open_int Yaac.underlying3 (hval 1 3 v1 rfl rfl) h1
  clear hA0 hval0
  refine (fnTop_walk a0 a1 W w0 w1).mono fun e W' ⟨he, bel⟩ => ?_
  subst he
  exact ⟨_, rfl, _, _, _, [], _, [], hW', trodAll_mk1 (shut_bool Yaac.underlying4 _), (trodAll_cons_mk (shut_string Yaac.underlying9 w0) (trodAll_cons_mk (shut_int Yaac.underlying3 w1) trodAll_mk0)), rfl, bel.frame _, fun h => by cases h⟩

theorem over : Rows.fnTopRow.holds Yaac.pinned (OpenSpec.ofChange Rows.fnTopSpec) :=
  OpenClaim.holds_of_wide 3 Yaac.f3 rfl rfl rfl rfl rfl rfl rfl ⟨rfl, rfl, rfl, rfl, rfl⟩ rfl rfl rfl rfl rfl (by kernel_rfl) Yaac.func3 (by kernel_rfl)
    (of_decide_eq_true (by kernel_rfl)) (by unfold Func.isWrapper; first | (rw [if_pos (by decide +kernel)]; kernel_rfl) | (rw [if_neg (by decide +kernel)]; exact ⟨rfl, rfl⟩))
    (fun os started H enc _ => lifted os started H enc)

theorem proved : Rows.FnTopSaid := over
end Go.Proofs.Ybuaaw.fnTop
