import Derived.Test.YbuaawW3
import Derived.Test.YbuaawW14
namespace Go.Proofs.Ybuaaw
open Go.RowKit
attribute [local go_sem] mk_size mk_toList mk_getElem mk_extract take_len_drop mk_append_lit

set_option maxRecDepth 100000 in
set_option maxHeartbeats 4000000 in
theorem fnInline_walkL (l : List UInt8) (hl : l.length ≤ 1048576) (w : World) :
    Calls Yaac.prog 7 #[.string (mk l)] w fun e w' => e = .returned (.bool true) ∧ Below w.heap.size w w' := by
  have hne : ¬ (1048576 : Int) < (l.length : Int) := by omega
  have hps := pinl_size l
  go_enter Yaac.func7, Yaac.ntmps7
  go_wp2_with fail
  refine (parseInline_any l _ (by omega)).mono ?_
  rintro e w1 ⟨v1, rfl, ho1, hb1⟩
  obtain ⟨ao, cap, rfl⟩ := ho1.shape
  have z1 := hb1.size
  go_wp2_with fail
  refine (parseInlineS_any l _ (by omega)).mono ?_
  rintro e w2 ⟨v2, rfl, ho2, hb2⟩
  have z2 := hb2.size
  go_wp2_with fail
  refine (sameInlines_true (pinl l) _ _ w2.heap.size _ (Nat.le_refl _) (ho1.below hb2).rdd ho2.rdd).mono ?_
  rintro e w3 ⟨rfl, hb3⟩
  have z3 := hb3.size
  have ho3 := (ho1.below hb2).below hb3
  have hbw : Below w.heap.size w w3 := (hb1.trans (hb2.mono z1)).trans (hb3.mono (by omega))
  go_wp2
  go_loopw [4] (fun iv wr => ∃ k : Nat, k ≤ (pinl l).length ∧ iv = .int .i64 k ∧ Below w3.heap.size w3 wr) (fun iv _ => (pinl l).length - (intOf iv).toNat)
  case atStart => exact ⟨0, Nat.zero_le _, rfl, Below.refl _ _⟩
  case round =>
    obtain ⟨k, hk, rfl, hbk⟩ := hrel
    have zk := hbk.size
    by_cases hlt : k < (pinl l).length
    · obtain ⟨b1, o1, rfl, _, hc1⟩ := (ho3.rdd.below hbk).inl k hlt
      have hd := hc1 k hlt
      clear hc1
      have i1 : (k : Int) < ((pinl l).length : Int) := by omega
      have hok := pinl_ok l _ (List.getElem_mem hlt)
      generalize (pinl l)[k] = p at *
      obtain ⟨kd, sty, txt⟩ := p
      simp only [PiOk] at hok hd
      obtain ⟨d1, d2, d3⟩ := hd
      rcases hok with ⟨rfl, ht⟩ | ⟨rfl, rfl, rfl⟩ | rfl
      · have htb : (txt == []) = false := by simpa using ht
        have htb2 : txt.isEmpty = false := by simpa using ht
        go_wp2
        go_roundw
        case rel => exact ⟨k + 1, by omega, by go_num, hbk.trans ((Below.refl _ _).alloc zk _)⟩
        case measure => simp [intOf]; omega
      · go_wp2
        go_roundw
        case rel => exact ⟨k + 1, by omega, by go_num, hbk.trans ((Below.refl _ _).alloc zk _)⟩
        case measure => simp [intOf]; omega
      · go_wp2
        go_roundw
        case rel => exact ⟨k + 1, by omega, by go_num, hbk.trans ((Below.refl _ _).alloc zk _)⟩
        case measure => simp [intOf]; omega
    · have hbw2 : Below w.heap.size w wr := hbw.trans (hbk.mono (by omega))
      have hok := (ho3.below hbk)
      go_wp2_with fail
      refine (hasByte_any l 92 _ (by unfold maxLen; omega)).mono ?_
      rintro e w' ⟨rfl, rfl⟩
      cases h92 : hasB 92 l with
      | true =>
        go_wp2
        go_ret
        exact ⟨rfl, hbw2⟩
      | false =>
        go_wp2_with fail
        refine (hasByte_any l 42 _ (by unfold maxLen; omega)).mono ?_
        rintro e w' ⟨rfl, rfl⟩
        cases h42 : hasB 42 l with
        | true =>
          go_wp2
          go_ret
          exact ⟨rfl, hbw2⟩
        | false =>
          go_wp2_with fail
          refine (hasByte_any l 96 _ (by unfold maxLen; omega)).mono ?_
          rintro e w' ⟨rfl, rfl⟩
          cases h96 : hasB 96 l with
          | true =>
            go_wp2
            go_ret
            exact ⟨rfl, hbw2⟩
          | false =>
            go_wp2_with fail
            refine (plainRuns_any l _ (by omega) (fun c hc => ⟨hasB_false 92 l h92 c hc, hasB_false 42 l h42 c hc, hasB_false 96 l h96 c hc⟩)).mono ?_
            rintro e w4 ⟨v4, rfl, ho4, hb4⟩
            have z4 := hb4.size
            go_wp2_with fail
            refine (sameInlines_true (pinl l) _ _ w4.heap.size _ (Nat.le_refl _) (hok.below hb4).rdd ho4.rdd).mono ?_
            rintro e w5 ⟨rfl, hb5⟩
            go_wp2
            go_ret
            exact ⟨rfl, (hbw2.trans (hb4.mono (by omega))).trans (hb5.mono (by omega))⟩

theorem fnInline_walk (a0 : ByteArray) (w0 : a0.size ≤ maxLen) (w : World) :
    Calls Yaac.prog 7 #[.string a0] w fun e w' => e = .returned (.bool true) ∧ Below w.heap.size w w' := by
  rw [← mk_of a0]
  have e1 : a0.size = a0.toList.length := by rw [← mk_size, mk_of]
  rw [e1] at w0
  generalize a0.toList = l at w0 ⊢
  by_cases hl : l.length ≤ 1048576
  · exact fnInline_walkL l hl w
  · unfold maxLen at w0
    have hne : (1048576 : Int) < (l.length : Int) := by omega
    go_enter Yaac.func7, Yaac.ntmps7
    go_wp2
    go_ret
    exact ⟨rfl, Below.refl _ _⟩
end Go.Proofs.Ybuaaw
