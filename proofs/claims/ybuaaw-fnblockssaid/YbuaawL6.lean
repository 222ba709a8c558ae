import Derived.Test.YbuaawW3
import Derived.Test.YbuaawW4
import Derived.Test.YbuaawW16
import Derived.Test.YbuaawW21
import Derived.Test.YbuaawW22
import Derived.Test.YbuaawPlain9
namespace Go.Proofs.Ybuaaw
open Go.RowKit
attribute [local go_sem] mk_size mk_toList mk_getElem mk_extract take_len_drop mk_append_lit

theorem field33a (a b c : Value) (w : World) : (Instr.field 33 (.agg #[a, b, c]) 0).run Yaac.prog w = .ok a w := rfl
attribute [local go_sem] field33a

set_option maxRecDepth 100000 in
set_option maxHeartbeats 4000000 in
theorem fnBlocks_walkL (l : List UInt8) (hl : l.length ≤ 1048576) (w : World) :
    Calls Yaac.prog 6 #[.string (mk l)] w fun e w' => e = .returned (.bool true) ∧ Below w.heap.size w w' := by
  have hne : ¬ (1048576 : Int) < (l.length : Int) := by omega
  have hok := pblocks_ok l
  have HBL : Hid ((∀ x (hx : x < (split l).length), (classify (split l)[x]).kind = 0) → pblocks l = []) := fun h => pb_blank _ _ h
  go_enter Yaac.func6, Yaac.ntmps6
  go_wp2_with fail
  refine (parseBlocks_any l _ hl).mono ?_
  rintro e w1 ⟨v1, rfl, ho1, hb1⟩
  obtain ⟨ao, cap, rfl⟩ := ho1.shape
  have z1 := hb1.size
  go_wp2_with fail
  refine (parseBlocksS_any l _ hl).mono ?_
  rintro e w2 ⟨v2, rfl, ho2, hb2⟩
  have z2 := hb2.size
  go_wp2_with fail
  refine (sameBlocks_true (pblocks l) _ _ w2.heap.size _ (Nat.le_refl _) (ho1.below hb2).rdd ho2.rdd).mono ?_
  rintro e w3 ⟨rfl, hb3⟩
  have z3 := hb3.size
  have ho3 := (ho1.below hb2).below hb3
  have hbw : Below w.heap.size w w3 := (hb1.trans (hb2.mono z1)).trans (hb3.mono (by omega))
  have hln := ho3.rdd.len_le
  unfold maxLen at hln
  generalize pblocks l = bs at *
  go_wp2
  go_loop [4] (fun iv => ∃ k : Nat, k ≤ bs.length ∧ iv = .int .i64 k) (fun iv => bs.length - (intOf iv).toNat)
  case atStart => exact ⟨0, Nat.zero_le _, rfl⟩
  case round =>
    obtain ⟨k, hk, rfl⟩ := hrel
    by_cases hlt : k < bs.length
    · obtain ⟨b1, o1, rfl, _, hc1⟩ := ho3.rdd.blk k hlt
      obtain ⟨d1, d2, d3⟩ := hc1 k hlt
      clear hc1
      have i1 : (k : Int) < (bs.length : Int) := by omega
      have hp := hok _ (List.getElem_mem hlt)
      generalize bs[k] = p at *
      obtain ⟨kd, lv, tx⟩ := p
      simp only at d1 d2 d3 hp
      by_cases hk1 : kd = 1
      · have hkb : (kd == 1) = true := beq_iff_eq.2 hk1
        have ht := hp hk1
        have htb : (tx == []) = false := by simpa using ht
        have htb2 : tx.isEmpty = false := by simpa using ht
        clear hk1 hp ht
        go_wp2
        go_round
        case rel => exact ⟨k + 1, by omega, by go_num⟩
        case measure => simp [intOf]; omega
      · have hkb : (kd == 1) = false := beq_eq_false_iff_ne.2 hk1
        go_wp2
        go_round
        case rel => exact ⟨k + 1, by omega, by go_num⟩
        case measure => simp [intOf]; omega
    · go_wp2_with fail
      refine (splitLinesS_any l _ (by omega)).mono ?_
      rintro e w4 ⟨v4, rfl, hr4, hb4⟩
      rw [split_eq] at hr4
      have z4 := hb4.size
      obtain ⟨lo, lcap, rfl, _, _⟩ := hr4.shape
      have hsl := split_len l
      have hmem : ∀ x (hx : x < (split l).length), (split l)[x].length ≤ 4294967296 := fun x hx => by have := split_mem l x hx; omega
      generalize split l = ls at *
      go_wp2
      go_loopw [6, 7] (fun bv iv wr => ∃ (k : Nat) (b : Bool), k ≤ ls.length ∧ iv = .int .i64 k ∧ bv = .bool b ∧ Below w4.heap.size w4 wr ∧ Hid (b = true → ∀ x (hx : x < ls.length), x < k → (classify ls[x]).kind = 0)) (fun _ iv _ => ls.length - (intOf iv).toNat)
      case atStart => exact ⟨0, true, Nat.zero_le _, rfl, rfl, Below.refl _ _, fun _ x _ h => by omega⟩
      case round =>
        obtain ⟨j, b, hj, rfl, rfl, hbj, hr⟩ := hrel
        have zj := hbj.size
        by_cases hjl : j < ls.length
        · obtain ⟨b5, o5, rfl, hb5, hc5⟩ := (hr4.below hbj).str j hjl
          have d5 := hc5 j hjl
          clear hc5
          have ij : (j : Int) < (ls.length : Int) := by omega
          have hlen := hmem j hjl
          obtain ⟨c, hc⟩ : ∃ c, c = classify ls[j] := ⟨_, rfl⟩
          obtain ⟨kd, lv, ct⟩ := c
          have hkd : (classify ls[j]).kind = kd := by rw [← hc]
          have HC1 : ∀ W, Calls Yaac.prog 25 #[.string (mk ls[j])] W fun e w' => e = .returned (.agg #[.int .i64 kd, .int .i64 lv, .string (mk ct)]) ∧ Below W.heap.size W w' := fun W => by
            have := classifyS_any ls[j] W hlen
            rw [← hc] at this
            exact this
          clear hc
          by_cases hk0 : kd = 0
          · have HN : Hid (b = true → ∀ x (hx : x < ls.length), x < j + 1 → (classify ls[x]).kind = 0) := fun hb x hx h2 => by
              by_cases e : x = j
              · subst e; rw [hkd, hk0]
              · exact hr.out hb x hx (by omega)
            have hkb : (kd != 0) = false := by simp [hk0]
            clear hkd hk0 hr
            go_wp2_with fail
            refine (HC1 _).mono ?_
            rintro e w6 ⟨rfl, hb6⟩
            go_wp2
            go_roundw
            case rel => exact ⟨j + 1, b, by omega, by go_num, rfl, hbj.trans (hb6.mono zj), HN⟩
            case measure => simp [intOf]; omega
          · have hkb : (kd != 0) = true := by simp [hk0]
            clear hkd hr
            go_wp2_with fail
            refine (HC1 _).mono ?_
            rintro e w6 ⟨rfl, hb6⟩
            go_wp2
            go_roundw
            case rel => exact ⟨j + 1, false, by omega, by go_num, rfl, hbj.trans (hb6.mono zj), fun h => absurd h (by decide)⟩
            case measure => simp [intOf]; omega
        · have hend : Below w.heap.size w wr := (hbw.trans (hb4.mono (by omega))).trans (hbj.mono (by omega))
          cases b with
          | true =>
            have hnil := HBL.out (fun x hx => hr.out rfl x hx (by omega))
            have hz0 : ((bs.length : Int) != 0) = false := by rw [hnil]; rfl
            clear hnil hr
            go_wp2
            go_ret
            exact ⟨rfl, hend⟩
          | false =>
            go_wp2
            go_ret
            exact ⟨rfl, hend⟩

theorem fnBlocks_walk (a0 : ByteArray) (w0 : a0.size ≤ maxLen) (w : World) :
    Calls Yaac.prog 6 #[.string a0] w fun e w' => e = .returned (.bool true) ∧ Below w.heap.size w w' := by
  rw [← mk_of a0]
  have e1 : a0.size = a0.toList.length := by rw [← mk_size, mk_of]
  rw [e1] at w0
  generalize a0.toList = l at w0 ⊢
  by_cases hl : l.length ≤ 1048576
  · exact fnBlocks_walkL l hl w
  · unfold maxLen at w0
    have hne : (1048576 : Int) < (l.length : Int) := by omega
    go_enter Yaac.func6, Yaac.ntmps6
    go_wp2
    go_ret
    exact ⟨rfl, Below.refl _ _⟩
end Go.Proofs.Ybuaaw
