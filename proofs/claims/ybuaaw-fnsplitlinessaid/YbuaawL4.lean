import Derived.Test.YbuaawW1
import Derived.Test.YbuaawW2
import Derived.Test.YbuaawW3
import Derived.Test.YbuaawW4
namespace Go.Proofs.Ybuaaw
open Go.RowKit
attribute [local go_sem] mk_size mk_toList mk_getElem mk_extract take_len_drop mk_append_lit

theorem noLF (l : List UInt8) (k : Nat) (hk : k < (split l).length) : hasB 10 (split l)[k] = false :=
  hasB_no 10 _ (fun d hd => split_no l _ (List.getElem_mem hk) d hd)

set_option maxHeartbeats 1600000 in
theorem fnSplitLines_walkL (l : List UInt8) (hl : l.length ≤ 1048576) (w : World) :
    Calls Yaac.prog 4 #[.string (mk l)] w fun e w' => e = .returned (.bool true) ∧ Below w.heap.size w w' := by
  have hsl := split_len l
  have hcnt := cntLF_le l
  have hne : ¬ (1048576 : Int) < (l.length : Int) := by omega
  go_enter Yaac.func4, Yaac.ntmps4
  go_wp2_with (go_at_call 18; refine (splitLines_any l _ (by omega)).mono ?_; rintro e w1 ⟨v, rfl, ho, hb⟩; obtain ⟨ao, cap, rfl⟩ := ho.shape)
  have hz1 := hb.size
  go_loop [4] (fun i => ∃ k : Nat, k ≤ (split l).length ∧ i = .int .i64 k) (fun i => (split l).length - (intOf i).toNat)
  case atStart => exact ⟨0, Nat.zero_le _, rfl⟩
  case round =>
    obtain ⟨k, hk, rfl⟩ := hrel
    by_cases hlt : k < (split l).length
    · obtain ⟨b1, o1, rfl, hb1, hc1⟩ := ho.rdd.str k hlt
      have d1 := hc1 k hlt
      clear hc1
      have i1 : (k : Int) < ((split l).length : Int) := by omega
      have hno := noLF l k hlt
      have hlen := split_mem l k hlt
      go_wp2_with (go_at_call 19; refine (hasByte_any (split l)[k] 10 _ (by unfold maxLen; omega)).mono ?_; rintro e w' ⟨rfl, rfl⟩)
      go_round
      case rel => exact ⟨k + 1, by omega, by go_num⟩
      case measure => simp [intOf]; omega
    · by_cases hn : l.length = 0
      · have e0 : l = [] := List.eq_nil_of_length_eq_zero hn
        subst e0
        have hback : (join [10] (split []) == ([] : List UInt8)) = true := by simp [split, splitGo, join, joinGo]
        have hc2 : (((split []).length : Int) != (cntLF [] : Int)) = false := by simp [split, splitGo, cntLF]
        go_wp2_with (first
          | (go_at_call 20; refine (join_any [10] (split []) _ w1.heap.size _ (by omega) ho.rdd (by simp [split, splitGo, join, joinGo])).mono ?_; rintro e w2 ⟨rfl, hb2⟩)
          | (go_at_call 21; refine (countLF_any [] _ (by simp)).mono ?_; rintro e w' ⟨rfl, rfl⟩)
          | (go_at_call 23; refine (splitLinesS_any [] _ (by simp)).mono ?_; rintro e w3 ⟨v3, rfl, hr3, hb3⟩))
        have hz2 := hb2.size
        have hz3 := hb3.size
        refine (sameStrs_true (split []) _ _ w3.heap.size _ (by omega) ((ho.below (hb2.trans (hb3.mono hz2))).rdd) (by rw [← split_eq]; exact hr3)).mono ?_
        rintro e w4 ⟨rfl, hb4⟩
        go_wp2
        go_ret
        exact ⟨rfl, ((hb.trans (hb2.mono hz1)).trans (hb3.mono (by omega))).trans (hb4.mono (by omega))⟩
      · have e1 := split_back l (by omega)
        have e2 := split_count l (by omega)
        rw [← cntLF_eq] at e2
        by_cases hc : l[l.length - 1].toNat = 10
        · rw [if_pos hc] at e1 e2
          have h1 : ((l[l.length - 1].toNat : Int) == 10) = true := beq_iff_eq.2 (by omega)
          have h2 : ((l[l.length - 1].toNat : Int) != 10) = false := by simp; omega
          have hback : (join [10] (split l) ++ [10] == l) = true := by rw [e1]; simp
          have hjl : (join [10] (split l)).length ≤ 1099511627776 := by have := congrArg List.length e1; simp at this; omega
          have hc2 : (((split l).length : Int) != (cntLF l : Int)) = false := by simp; omega
          clear e1 e2 hc
          go_wp2_with (first
            | (go_at_call 20; refine (join_any [10] (split l) _ w1.heap.size _ (by omega) ho.rdd hjl).mono ?_; rintro e w2 ⟨rfl, hb2⟩)
            | (go_at_call 21; refine (countLF_any l _ (by unfold maxLen; omega)).mono ?_; rintro e w' ⟨rfl, rfl⟩)
            | (go_at_call 23; refine (splitLinesS_any l _ (by omega)).mono ?_; rintro e w3 ⟨v3, rfl, hr3, hb3⟩))
          have hz2 := hb2.size
          have hz3 := hb3.size
          refine (sameStrs_true (split l) _ _ w3.heap.size _ (by omega) ((ho.below (hb2.trans (hb3.mono hz2))).rdd) (by rw [← split_eq]; exact hr3)).mono ?_
          rintro e w4 ⟨rfl, hb4⟩
          go_wp2
          go_ret
          exact ⟨rfl, ((hb.trans (hb2.mono hz1)).trans (hb3.mono (by omega))).trans (hb4.mono (by omega))⟩
        · rw [if_neg hc] at e1 e2
          have h1 : ((l[l.length - 1].toNat : Int) == 10) = false := beq_eq_false_iff_ne.2 (by omega)
          have h2 : ((l[l.length - 1].toNat : Int) != 10) = true := by simp; omega
          have hback : (join [10] (split l) == l) = true := by rw [e1]; simp
          have hjl : (join [10] (split l)).length ≤ 1099511627776 := by have := congrArg List.length e1; omega
          have hc2 : (((split l).length : Int) != (cntLF l : Int) + 1) = false := by simp; omega
          clear e1 e2
          go_wp2_with (first
            | (go_at_call 20; refine (join_any [10] (split l) _ w1.heap.size _ (by omega) ho.rdd hjl).mono ?_; rintro e w2 ⟨rfl, hb2⟩)
            | (go_at_call 21; refine (countLF_any l _ (by unfold maxLen; omega)).mono ?_; rintro e w' ⟨rfl, rfl⟩)
            | (go_at_call 23; refine (splitLinesS_any l _ (by omega)).mono ?_; rintro e w3 ⟨v3, rfl, hr3, hb3⟩))
          have hz2 := hb2.size
          have hz3 := hb3.size
          refine (sameStrs_true (split l) _ _ w3.heap.size _ (by omega) ((ho.below (hb2.trans (hb3.mono hz2))).rdd) (by rw [← split_eq]; exact hr3)).mono ?_
          rintro e w4 ⟨rfl, hb4⟩
          go_wp2
          go_ret
          exact ⟨rfl, ((hb.trans (hb2.mono hz1)).trans (hb3.mono (by omega))).trans (hb4.mono (by omega))⟩

theorem fnSplitLines_walk (a0 : ByteArray) (w0 : a0.size ≤ maxLen) (w : World) :
    Calls Yaac.prog 4 #[.string a0] w fun e w' => e = .returned (.bool true) ∧ Below w.heap.size w w' := by
  rw [← mk_of a0]
  have e1 : a0.size = a0.toList.length := by rw [← mk_size, mk_of]
  rw [e1] at w0
  generalize a0.toList = l at w0 ⊢
  by_cases hl : l.length ≤ 1048576
  · exact fnSplitLines_walkL l hl w
  · unfold maxLen at w0
    have hne : (1048576 : Int) < (l.length : Int) := by omega
    go_enter Yaac.func4, Yaac.ntmps4
    go_wp2
    go_ret
    exact ⟨rfl, Below.refl _ _⟩
end Go.Proofs.Ybuaaw
