import Derived.Test.YbuaawW39
namespace Go.Proofs.Ybuaaw
open Go.RowKit
attribute [local go_sem] mk_size mk_toList mk_getElem mk_extract take_len_drop mk_append_lit

theorem i64_m {n : Int} (h : (Lit.int .i64 n).wf = true) : n ≤ 9223372036854775807 := by
  have hmax : IntKind.i64.max = 9223372036854775807 := rfl
  simp only [Lit.wf, Bool.and_eq_true, decide_eq_true_eq] at h
  omega
theorem fnTop_walkL (d : List UInt8) (n : Int) (w : World) (hd : d.length ≤ 9223372036854775807) (hn : n ≤ 9223372036854775807) :
    Calls Yaac.prog 3 #[.string (mk d), .int .i64 n] w fun e w' => e = .returned (.bool true) ∧ Below w.heap.size w w' := by
  by_cases hb : 1048576 < d.length
  · have hdn : (1048576 : Int) < (d.length : Int) := by omega
    go_enter Yaac.func3, Yaac.ntmps3
    go_wp2
    go_ret
    exact ⟨rfl, Below.refl _ _⟩
  · have hdn : ¬ (1048576 : Int) < (d.length : Int) := by omega
    go_enter Yaac.func3, Yaac.ntmps3
    go_wp2_with fail
    refine (renderS_any d n _ (by omega) hn).mono ?_
    rintro e w1 ⟨rfl, hb1⟩
    have z1 := hb1.size
    go_wp2_with fail
    refine (render_any d n _ (by omega) hn).mono ?_
    rintro e w2 ⟨rfl, hb2⟩
    have z2 := hb2.size
    go_wp2_with fail
    refine (examplesHold_true _).mono ?_
    rintro e w3 ⟨rfl, hb3⟩
    go_wp2
    go_ret
    exact ⟨rfl, (hb1.trans (hb2.mono z1)).trans (hb3.mono (by omega))⟩
theorem fnTop_walk (a0 : ByteArray) (n : Int) (w : World) (ha : a0.size ≤ maxLen) (hwf : (Lit.int .i64 n).wf = true) :
    Calls Yaac.prog 3 #[.string a0, .int .i64 n] w fun e w' => e = .returned (.bool true) ∧ Below w.heap.size w w' := by
  have hn := i64_m hwf
  rw [← mk_of a0]
  have e1 : a0.size = a0.toList.length := by rw [← mk_size, mk_of]
  rw [e1] at ha
  unfold maxLen at ha
  exact fnTop_walkL a0.toList n w (by omega) hn
end Go.Proofs.Ybuaaw
