import Derived.Test.YbuaawBase
import Derived.Test.YbuaawPlain1
namespace Go.Proofs.Ybuaaw
open Go.RowKit
attribute [local go_sem] mk_size mk_toList mk_getElem mk_extract

set_option maxHeartbeats 400000 in
theorem isSpace_any (c : UInt8) (w : World) :
    Calls Yaac.prog 60 #[.int .u8 c.toNat] w fun e w' => e = .returned (.bool (isSp c)) ∧ w' = w := by
  go_enter Yaac.func60, Yaac.ntmps60
  go_wp2
  all_goals
    go_ret
    refine ⟨ret_bool ?_, rfl⟩
    unfold isSp
    rw [Bool.eq_iff_iff]
    simp
    omega

set_option maxHeartbeats 400000 in
theorem isSpaceByte_any (c : UInt8) (w : World) :
    Calls Yaac.prog 63 #[.int .u8 c.toNat] w fun e w' => e = .returned (.bool (isSp c)) ∧ w' = w := by
  go_enter Yaac.func63, Yaac.ntmps63
  go_wp2
  all_goals
    go_ret
    refine ⟨ret_bool ?_, rfl⟩
    unfold isSp
    rw [Bool.eq_iff_iff]
    simp
    omega

set_option maxHeartbeats 400000 in
theorem hasByte_any (l : List UInt8) (c : UInt8) (w : World) (hs : l.length ≤ maxLen) :
    Calls Yaac.prog 19 #[.string (mk l), .int .u8 c.toNat] w fun e w' => e = .returned (.bool (hasB c l)) ∧ w' = w := by
  unfold maxLen at hs
  go_enter Yaac.func19, Yaac.ntmps19
  go_wp2
  go_loop [5] (fun i => ∃ k : Nat, k ≤ l.length ∧ i = .int .i64 k ∧ Hid (hasB c (l.drop k) = hasB c l)) (fun i => l.length - (intOf i).toNat)
  case atStart => exact ⟨0, Nat.zero_le _, rfl, rfl⟩
  case round =>
    obtain ⟨k, hk, rfl, hr⟩ := hrel
    by_cases hlt : k < l.length
    · by_cases hc : l[k].toNat = c.toNat
      · have h1 : ((l[k].toNat : Int) == (c.toNat : Int)) = true := beq_iff_eq.2 (by omega)
        have HC : Hid (l[k].toNat = c.toNat) := hc
        clear hc
        go_wp2
        go_ret
        exact ⟨ret_bool (by rw [← hr.out, hasB_at c l k hlt, if_pos HC.out]), rfl⟩
      · have h1 : ((l[k].toNat : Int) == (c.toNat : Int)) = false := beq_eq_false_iff_ne.2 (by omega)
        go_wp2
        go_round
        case rel => exact ⟨k + 1, by omega, by go_num, by rw [← hr.out, hasB_at c l k hlt, if_neg hc]; exact rfl⟩
        case measure => simp [intOf]; omega
    · go_wp2
      go_ret
      refine ⟨ret_bool ?_, rfl⟩
      rw [← hr.out, hasB_end c l k (by omega)]

set_option maxHeartbeats 400000 in
theorem countLF_any (l : List UInt8) (w : World) (hs : l.length ≤ maxLen) :
    Calls Yaac.prog 21 #[.string (mk l)] w fun e w' => e = .returned (.int .i64 (cntLF l)) ∧ w' = w := by
  unfold maxLen at hs
  go_enter Yaac.func21, Yaac.ntmps21
  go_wp2
  go_loop [3, 4] (fun n i => ∃ k m : Nat, k ≤ l.length ∧ m ≤ k ∧ i = .int .i64 k ∧ n = .int .i64 m ∧ Hid (m + cntLF (l.drop k) = cntLF l)) (fun _ i => l.length - (intOf i).toNat)
  case atStart => exact ⟨0, 0, Nat.zero_le _, Nat.zero_le _, rfl, rfl, by simp [Hid]⟩
  case round =>
    obtain ⟨k, m, hk, hm, rfl, rfl, hr⟩ := hrel
    by_cases hlt : k < l.length
    · have HS : Hid (cntLF (l.drop k) = if l[k].toNat = 10 then cntLF (l.drop (k + 1)) + 1 else cntLF (l.drop (k + 1))) := cntLF_at l k hlt
      by_cases hc : l[k].toNat = 10
      · have h1 : ((l[k].toNat : Int) == 10) = true := beq_iff_eq.2 (by omega)
        have HC : Hid (l[k].toNat = 10) := hc
        clear hc
        go_wp2
        go_round
        case rel =>
          refine ⟨k + 1, m + 1, by omega, by omega, by go_num, by go_num, ?_⟩
          have := hr.out; have h2 := HS.out; rw [if_pos HC.out] at h2; unfold Hid; omega
        case measure => simp [intOf]; omega
      · have h1 : ((l[k].toNat : Int) == 10) = false := beq_eq_false_iff_ne.2 (by omega)
        go_wp2
        go_round
        case rel =>
          refine ⟨k + 1, m, by omega, by omega, by go_num, by go_num, ?_⟩
          have := hr.out; have h2 := HS.out; rw [if_neg hc] at h2; unfold Hid; omega
        case measure => simp [intOf]; omega
    · go_wp2
      go_ret
      refine ⟨ret_int ?_, rfl⟩
      have := hr.out
      rw [List.drop_of_length_le (by omega)] at this
      simp [cntLF] at this
      omega
end Go.Proofs.Ybuaaw
