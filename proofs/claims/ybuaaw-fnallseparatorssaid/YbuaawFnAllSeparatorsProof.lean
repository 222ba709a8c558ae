/-
  The proof of Rows.FnAllSeparatorsSaid: the walk lies in YbuaawL14; the frame is the guide's template at this function's number and types.
-/
import Derived.Test.YbuaawRows
import Derived.WalkKit
import Derived.ProofKit
import Derived.OpenShut
import Derived.ShutString
import Derived.ChangeOld
import Derived.Below
import Derived.SizedLaws
import Derived.Lib.SmallJoins
import Derived.Test.YbuaawOpen2
import Derived.Test.YbuaawL14
namespace Go.Proofs.Ybuaaw.fnAllSeparators
open Go.ChangeShapes Go.WideShapes Go.ChangeAt Go.RowKit Go.Joins
open Go.ChangeMaps (open_string shut_string)
set_option linter.unusedVariables false

theorem own : ownKnob Yaac.prog.godebug = none := by kernel_rfl
theorem laidOut : laidOutB Yaac.prog = true := by kernel_rfl

set_option maxRecDepth 100000 in
theorem lifted (os : Os) (started : os.Started) (H : Type) (enc : TypeId × Value → H) :
    ReturnsInHanded {} Yaac.checked os 14 .any (Rows.fnAllSeparatorsSpec.pre6 enc Yaac.prog Yaac.f14 Rows.fnAllSeparatorsRow.domain false) (Rows.fnAllSeparatorsSpec.post enc Yaac.prog Yaac.f14 false true false false) := by
  refine returnsInHanded_of_change_sized (C := Yaac.checked) own started (by kernel_rfl) Yaac.func14
    (ChangeSpec.witness6 (enc := enc) (C := Yaac.checked) false ⟨#[], #[.slice none 0 0, .string ByteArray.empty, .int .i64 0], []⟩ 8 (by kernel_rfl) (by kernel_rfl) (by kernel_rfl) (by kernel_rfl)) ?_
  intro W base args ds gs before hval0 hW hcnd hsz0 _
  have hval : ∀ (j : Nat) t v, Yaac.f14.params[j]? = some t → args[j]? = some v → Value.okWide Yaac.prog W .any base t v := hval0
  have hsz : (DataW.weightsEach Yaac.prog (Yaac.f14.params.toList ++ Rows.fnAllSeparatorsSpec.plain.varTypes Yaac.prog) (ds ++ gs)).all (· ≤ reachBytes) = true := hsz0
  have hW' := hW
  obtain ⟨p, q, hA0, hV, rfl, hfz, hnd⟩ := hW
  have hA : DataW.TrodAll enc Yaac.prog W 0 (fun _ => true) true Yaac.f14.params.toList args.toList ds p := hA0
  rw [Yaac.params14] at hA hval hsz
  obtain ⟨v0, vs0, d0, ds0, p0, q0, hargs, rfl, rfl, h0, r0⟩ := trodAll_cons hA
  obtain ⟨v1, vs1, d1, ds1, p1, q1, rfl, rfl, rfl, h1, r1⟩ := trodAll_cons r0
  obtain ⟨v2, vs2, d2, ds2, p2, q2, rfl, rfl, rfl, h2, r2⟩ := trodAll_cons r1
  obtain ⟨rfl, rfl, rfl⟩ := trodAll_nil r2
  obtain rfl : args = #[v0, v1, v2] := by cases args; simp_all
  obtain ⟨rfl, rfl⟩ := trodVars_none hV
  obtain ⟨a0, len0, cap0, rfl⟩ := okWide_slice Yaac.underlying35 (hval 0 35 v0 rfl rfl)
  have k0 := h0
  have lt0 : ∀ x ∈ p0, x.block < W.heap.size := by obtain ⟨m, hm⟩ := k0; exact DataW.trod_lt m _ _ _ hm
  obtain ⟨ps0, hrd0, hwt0⟩ := open_elems tBlk (fun x => x.text.length) Yaac.cells39 elem_blk h0
  have htx0 : ∀ x ∈ ps0, x.text.length ≤ 140737488355328 := fun x hx => by
    have h1 := List.all_eq_true.1 hsz _ (DataW.weights_mem_each (j := 0) (t := 35) (d := d0) rfl rfl _ (hwt0 x hx))
    have h2 : x.text.length ≤ reachBytes := of_decide_eq_true h1
    have h3 := reachBytes_lt
    omega
  obtain ⟨a1, rfl, rfl, rfl, w1⟩ := open_string Yaac.underlying9 (hval 1 9 v1 rfl rfl) h1
  obtain ⟨a2, rfl, rfl, rfl, w2⟩ := open_int Yaac.underlying3 (hval 2 3 v2 rfl rfl) h2
  clear hA0 hval0
  refine (fnAllSeparators_walk ps0 _ a1 a2 W hrd0 htx0 w1 w2).mono fun e W' ⟨he, bel⟩ => ?_
  subst he
  exact ⟨_, rfl, _, _, _, [], _, [], hW', trodAll_mk1 (shut_bool Yaac.underlying4 _), (trodAll_cons_mk (Below.trod laidOut (by kernel_rfl) (of_decide_eq_true (by kernel_rfl)) k0 bel lt0) (trodAll_cons_mk (shut_string Yaac.underlying9 w1) (trodAll_cons_mk (shut_int Yaac.underlying3 w2) trodAll_mk0))), rfl, bel.frame _, fun h => by cases h⟩

theorem over : Rows.fnAllSeparatorsRow.holds Yaac.pinned (OpenSpec.ofChange Rows.fnAllSeparatorsSpec) :=
  OpenClaim.holds_of_wide 14 Yaac.f14 rfl rfl rfl rfl rfl rfl rfl ⟨rfl, rfl, rfl, rfl, rfl⟩ rfl rfl rfl rfl rfl (by kernel_rfl) Yaac.func14 (by kernel_rfl)
    (of_decide_eq_true (by kernel_rfl)) (by unfold Func.isWrapper; first | (rw [if_pos (by decide +kernel)]; kernel_rfl) | (rw [if_neg (by decide +kernel)]; exact ⟨rfl, rfl⟩))
    (fun os started H enc _ => lifted os started H enc)

theorem proved : Rows.FnAllSeparatorsSaid := over
end Go.Proofs.Ybuaaw.fnAllSeparators
