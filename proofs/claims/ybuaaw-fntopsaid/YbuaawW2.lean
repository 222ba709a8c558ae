import Derived.Test.YbuaawMem
import Derived.Test.YbuaawPlain1
namespace Go.Proofs.Ybuaaw
open Go.RowKit
attribute [local go_sem] mk_size mk_toList mk_getElem mk_extract take_len_drop

set_option maxHeartbeats 800000 in
theorem splitLines_any (l : List UInt8) (w : World) (hs : l.length ≤ 4294967296) :
    Calls Yaac.prog 18 #[.string (mk l)] w fun e w' => ∃ v, e = .returned v ∧ Own w' w.heap.size tStr v (split l) ∧ Below w.heap.size w w' := by
  by_cases hn : l.length = 0
  · have e0 : l = [] := List.eq_nil_of_length_eq_zero hn
    subst e0
    go_enter Yaac.func18, Yaac.ntmps18
    go_wp2
    go_ret
    exact ⟨_, rfl, Own.nil _ _ _, Below.refl _ _⟩
  · have hn' : ((l.length : Int) == 0) = false := beq_eq_false_iff_ne.2 (by omega)
    go_enter Yaac.func18, Yaac.ntmps18
    go_wp2
    go_loopw [3, 4, 5] (fun v st i wr => ∃ (k s : Nat) (acc : List (List UInt8)), k ≤ l.length ∧ s ≤ k ∧ acc.length ≤ k ∧ i = .int .i64 k ∧ st = .int .i64 s ∧
        Own wr w.heap.size tStr v acc ∧ Below w.heap.size w wr ∧ Hid (splitGo (l.drop k) ((l.drop s).take (k - s)) acc = split l)) (fun _ _ i _ => l.length - (intOf i).toNat)
    case atStart => exact ⟨0, 0, [], Nat.zero_le _, Nat.le_refl _, Nat.zero_le _, rfl, rfl, Own.nil _ _ _, Below.refl _ _, rfl⟩
    case round =>
      obtain ⟨k, s, acc, hk, hsk, hacc, rfl, rfl, hown, hbel, hr⟩ := hrel
      obtain ⟨ao, cap, rfl⟩ := hown.shape
      have hz := hbel.size
      by_cases hlt : k < l.length
      · by_cases hc : l[k].toNat = 10
        · have h1 : ((l[k].toNat : Int) == 10) = true := beq_iff_eq.2 (by omega)
          have HC : Hid (l[k].toNat = 10) := hc
          clear hc
          go_wp2_with (at_builtin; refine app1 tStr (.tmp 20) (.tmp 25) w.heap.size _ acc hown _ _ rfl rfl rfl rfl rfl rfl (by omega) (by omega) ?_)
          intro g cap' w1 ho hgr hat hb1
          go_wp2
          go_roundw
          case rel => exact ⟨k + 1, k + 1, acc ++ [(l.drop s).take (k - s)], by omega, by omega, by simp; omega, by go_num, by go_num, ho, hbel.trans hb1, by rw [← hr.out, splitGo_at l s k acc hlt hsk, if_pos HC.out]; exact rfl⟩
          case measure => simp [intOf]; omega
        · have h1 : ((l[k].toNat : Int) == 10) = false := beq_eq_false_iff_ne.2 (by omega)
          go_wp2
          go_roundw
          case rel => exact ⟨k + 1, s, acc, by omega, by omega, by omega, by go_num, by go_num, hown, hbel, by rw [← hr.out, splitGo_at l s k acc hlt hsk, if_neg hc]; exact rfl⟩
          case measure => simp [intOf]; omega
      · by_cases hst : s < l.length
        · go_wp2_with (at_builtin; refine app1 tStr (.tmp 33) (.tmp 37) w.heap.size _ acc hown _ _ rfl rfl rfl rfl rfl rfl (by omega) (by omega) ?_)
          intro g cap' w1 ho hgr hat hb1
          go_wp2
          go_ret
          exact ⟨_, rfl, by rw [← hr.out, splitGo_end l s k acc (by omega) (by omega), if_pos hst]; exact ho, hbel.trans hb1⟩
        · go_wp2
          go_ret
          exact ⟨_, rfl, by rw [← hr.out, splitGo_end l s k acc (by omega) (by omega), if_neg hst]; exact hown, hbel⟩
end Go.Proofs.Ybuaaw
