import Derived.Test.YbuaawMem3
import Derived.Test.YbuaawPlain10
namespace Go.Proofs.Ybuaaw
open Go.RowKit
attribute [local go_sem] mk_size mk_toList mk_getElem mk_extract take_len_drop mk_append_lit

theorem wid_yes (n : Int) (h : 1 ≤ n) : (wid n : Int) = n := by unfold wid; rw [if_pos h]; omega
theorem wid_no (n : Int) (h : ¬ 1 ≤ n) : (wid n : Int) = 1 := by unfold wid; rw [if_neg h]; rfl
theorem wid_pos (n : Int) : 0 < wid n := by unfold wid; split <;> omega

theorem ret_i64 {a b : Int} (h : a = b) : Ending.returned (.int .i64 a) = .returned (.int .i64 b) := by rw [h]

theorem wOf_any (n : Int) (w : World) : Calls Yaac.prog 69 #[.int .i64 n] w fun e w' => e = .returned (.int .i64 (wid n)) ∧ w' = w := by
  by_cases h : 1 ≤ n
  · have e1 : Hid ((wid n : Int) = n) := wid_yes n h
    go_enter Yaac.func69, Yaac.ntmps69
    go_wp2
    go_ret
    exact ⟨ret_i64 e1.out.symm, rfl⟩
  · have e1 : Hid ((wid n : Int) = 1) := wid_no n h
    go_enter Yaac.func69, Yaac.ntmps69
    go_wp2
    go_ret
    exact ⟨ret_i64 e1.out.symm, rfl⟩
theorem widS_any (n : Int) (w : World) : Calls Yaac.prog 43 #[.int .i64 n] w fun e w' => e = .returned (.int .i64 (wid n)) ∧ w' = w := by
  by_cases h : 1 ≤ n
  · have e1 : Hid ((wid n : Int) = n) := wid_yes n h
    go_enter Yaac.func43, Yaac.ntmps43
    go_wp2
    go_ret
    exact ⟨ret_i64 e1.out.symm, rfl⟩
  · have e1 : Hid ((wid n : Int) = 1) := wid_no n h
    go_enter Yaac.func43, Yaac.ntmps43
    go_wp2
    go_ret
    exact ⟨ret_i64 e1.out.symm, rfl⟩
end Go.Proofs.Ybuaaw
