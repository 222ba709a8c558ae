import Derived.Test.YbuaawW35
import Derived.Test.YbuaawPlain15
import Derived.Deep.DeepCutAuto
namespace Go.Proofs.Ybuaaw
open Go.RowKit
attribute [local go_sem] mk_size mk_toList mk_getElem mk_extract take_len_drop mk_append_lit lit_append_mk

set_option maxRecDepth 100000 in
set_option maxHeartbeats 8000000 in
theorem renderAll_any (bs : List Blk) (v : Value) (n : Int) (B : Nat) (w : World) (hB : B ≤ w.heap.size) (h1 : Rdd w B tBlk v bs) (hbl : bln bs ≤ 67108864) (hn : n ≤ 9223372036854775807) :
    Calls Yaac.prog 53 #[v, .int .i64 n] w fun e w' => e = .returned (.string (mk (rall (wid n) bs))) ∧ Below w.heap.size w w' := by
  obtain ⟨a1, c1, rfl, _, _⟩ := h1.shape
  have hW0 := wid_pos n
  have hlen := rall_len (wid n) hW0 bs
  have hcnt := bln_cnt bs
  have HRT : Hid (∀ b : Blk, b ∈ bs → tot (rblock (wid n) b) ≤ 67108864 * 100) := fun b hb => Nat.le_trans (rblock_tot _ hW0 b) (by have := bln_mem bs b hb; omega)
  go_enter Yaac.func53, Yaac.ntmps53
  go_wp2
  go_loopw [5, 6, 14] (fun ov sv kv wr => ∃ (k : Nat) (acc : List UInt8) (seen : Bool), k ≤ bs.length ∧ kv = .int .i64 k ∧ sv = .bool seen ∧ Own wr w.heap.size tByte ov acc ∧ Below w.heap.size w wr ∧ Hid (raGo (wid n) (bs.drop k) seen acc = rall (wid n) bs)) (fun _ _ kv _ => bs.length - (intOf kv).toNat)
  case atStart => exact ⟨0, [], false, Nat.zero_le _, rfl, rfl, Own.nil _ _ _, Below.refl _ _, rfl⟩
  case round =>
    obtain ⟨k, acc, seen, hk, rfl, rfl, hown, hbel, hr⟩ := hrel
    obtain ⟨wx, rfl⟩ : ∃ wx : World, wx = wr := ⟨_, rfl⟩
    obtain ⟨ao, acap, rfl⟩ := hown.shape
    have hz := hbel.size
    have hal : acc.length ≤ (rall (wid n) bs).length := by rw [← hr.out]; exact raGo_ge _ _ _ _
    by_cases hlt : k < bs.length
    · obtain ⟨b1, o1, rfl, hb1, hc1⟩ := (h1.below (hbel.mono hB)).blk k hlt
      have hd := hc1 k hlt
      clear hc1
      have i1 : (k : Int) < (bs.length : Int) := by omega
      have hr' := hr.out
      rw [raGo_at (wid n) bs k seen acc hlt] at hr'
      have hbm := bln_mem bs bs[k] (List.getElem_mem hlt)
      have HC : Hid (∀ W : World, Calls Yaac.prog 51 #[.agg #[.int .i64 bs[k].kind, .int .i64 bs[k].level, .string (mk bs[k].text)], .int .i64 n] W fun e w' => ∃ v', e = .returned v' ∧ Own w' W.heap.size tStr v' (rblock (wid n) bs[k]) ∧ Below W.heap.size W w') := fun W => renderBlock_any bs[k] n W (by omega) hn
      have hrt := HRT.out bs[k] (List.getElem_mem hlt)
      clear hr
      generalize rblock (wid n) bs[k] = ls at *
      generalize bs[k] = b at *
      obtain ⟨kd, lv, txt⟩ := b
      obtain ⟨d1, d2, d3⟩ := hd
      simp only at d1 d2 d3 hbm HC
      have hlc := tot_cnt ls
      go_wp2_with fail
      refine (HC.out _).mono ?_
      rintro e w2 ⟨v2, rfl, ho2, hb2⟩
      have z2 := hb2.size
      simp at z2
      obtain ⟨lo, lcap, rfl⟩ := ho2.shape
      have hown2 := (hown.alloc _).below hb2
      have hbw2 : Below w.heap.size w w2 := (hbel.alloc hz _).trans (hb2.mono (by simp; omega))
      have ho2' := ho2.base (show wx.heap.size ≤ (wx.alloc (.cells #[.int .i64 kd, .int .i64 lv, .string (mk txt)] 39)).heap.size by simp)
      clear ho2 hb2
      by_cases hl0 : ls = []
      · have hlb : ((ls.length : Int) == 0) = true := by rw [hl0]; rfl
        rw [if_pos hl0] at hr'
        have HE : Hid (raGo (wid n) (bs.drop (k + 1)) seen acc = rall (wid n) bs) := hr'
        clear hr' hl0
        go_wp2
        go_roundw
        case rel => exact ⟨k + 1, acc, seen, by omega, by go_num, rfl, hown2, hbw2, HE⟩
        case measure => simp [intOf]; omega
      · have hlb : ((ls.length : Int) == 0) = false := beq_eq_false_iff_ne.2 (fun h => hl0 (List.eq_nil_of_length_eq_zero (by omega)))
        rw [if_neg hl0] at hr'
        have hal2 : (if seen = true then acc ++ [10] else acc).length ≤ (rall (wid n) bs).length := by rw [← hr']; exact Nat.le_trans (gGo_ge _ _) (raGo_ge _ _ _ _)
        have HE : Hid (raGo (wid n) (bs.drop (k + 1)) true (gGo ls (if seen = true then acc ++ [10] else acc)) = rall (wid n) bs) := hr'
        clear hr' hl0
        go_upto_if 24 with fail
        go_cut [5] (fun ov wc => ∃ acc', Hid (acc' = if seen = true then acc ++ [10] else acc) ∧ Own wc w.heap.size tByte ov acc' ∧ Own wc wx.heap.size tStr (.slice lo ls.length lcap) ls ∧ Below w.heap.size w wc)
        case first =>
          cases seen with
          | true =>
            go_wp2_with (at_builtin; refine app1 tByte (.tmp 25) (.tmp 26) w.heap.size _ acc hown2 10 _ rfl rfl rfl rfl rfl rfl (by omega) (by omega) ?_)
            intro g3 cap3 w3 ho3 hgr3 hat3 hb3
            go_wp2
            go_meet
            case rel => exact ⟨acc ++ [10], rfl, by first | exact ho3 | simpa using ho3, ho2'.apart hown2 hgr3 (by simp [tByte, tStr]), hbw2.trans hb3⟩
          | false =>
            go_wp2
            go_meet
            case rel => exact ⟨acc, rfl, hown2, ho2', hbw2⟩
        case rest =>
        obtain ⟨acc2, HA, hown3, ho3, hb3⟩ := hcut
        rw [← HA.out] at hal2 HE
        clear HA hown2 ho2' hbw2
        go_wp2
        go_loopw [5, 30] (fun ov jv wr => ∃ (j : Nat) (ac : List UInt8), j ≤ ls.length ∧ jv = .int .i64 j ∧ Own wr w.heap.size tByte ov ac ∧ Own wr wx.heap.size tStr (.slice lo ls.length lcap) ls ∧ Below w.heap.size w wr ∧ Hid (raGo (wid n) (bs.drop (k + 1)) true (gGo (ls.drop j) ac) = rall (wid n) bs)) (fun _ jv _ => ls.length - (intOf jv).toNat)
        case atStart => exact ⟨0, acc2, Nat.zero_le _, rfl, hown3, ho3, hb3, HE⟩
        case round =>
          clear hown3 ho3 hb3
          obtain ⟨j, ac, hj, rfl, hown3, ho3, hb3, hr3⟩ := hrel
          obtain ⟨wy, rfl⟩ : ∃ wy : World, wy = wr := ⟨_, rfl⟩
          obtain ⟨ao3, acap3, rfl⟩ := hown3.shape
          have z3 := hb3.size
          by_cases hjl : j < ls.length
          · obtain ⟨b5, o5, rfl, hb5', hc5⟩ := ho3.rdd.str j hjl
            have d5 := hc5 j hjl
            clear hc5
            have ij : (j : Int) < (ls.length : Int) := by omega
            have hr4 := hr3.out
            rw [gGo_at ls j ac hjl] at hr4
            have hac : (ac ++ ls[j] ++ [10]).length ≤ (rall (wid n) bs).length := by rw [← hr4]; exact Nat.le_trans (gGo_ge _ _) (raGo_ge _ _ _ _)
            clear hr3
            generalize ls[j] = x at *
            have HE3 : Hid (raGo (wid n) (bs.drop (k + 1)) true (gGo (ls.drop (j + 1)) (ac ++ x ++ [10])) = rall (wid n) bs) := hr4
            simp only [List.length_append, List.length_cons, List.length_nil] at hac
            clear hr4
            go_wp2_with (at_builtin; refine appS (.tmp 34) (.tmp 35) w.heap.size _ ac hown3 x rfl rfl rfl rfl (by omega) (by omega) ?_)
            intro ao6 cap6 w6 ho6 hgr6 hb6
            have z6 := hb6.size
            have hol6 := ho3.apart hown3 hgr6 (by simp [tByte, tStr])
            have ho6' : Own w6 w.heap.size tByte (.slice ao6 (ac.length + x.length) cap6) (ac ++ x) := ho6
            go_wp2_with (at_builtin; refine app1 tByte (.tmp 37) (.tmp 38) w.heap.size _ (ac ++ x) ho6' 10 _ rfl rfl rfl rfl rfl rfl (by simp; omega) (by omega) ?_)
            intro g7 cap7 w7 ho7 hgr7 hat7 hb7
            have hol7 := hol6.apart ho6' hgr7 (by simp [tByte, tStr])
            go_wp2
            go_roundw
            case rel => exact ⟨j + 1, ac ++ x ++ [10], by omega, by go_num, by first | exact ho7 | simpa using ho7, hol7, (hb3.trans hb6).trans hb7, HE3⟩
            case measure => simp [intOf]; omega
          · have ij : ¬ (j : Int) < (ls.length : Int) := by omega
            have HE3 : Hid (raGo (wid n) (bs.drop (k + 1)) true ac = rall (wid n) bs) := by have := hr3.out; rw [List.drop_of_length_le (by omega : ls.length ≤ j), gGo] at this; exact this
            clear hr3
            go_wp2
            go_roundw
            case rel => exact ⟨k + 1, ac, true, by omega, by go_num, rfl, hown3, hb3, HE3⟩
            case measure => simp [intOf]; omega
    · have i1 : ¬ (k : Int) < (bs.length : Int) := by omega
      have HE : Hid (acc = rall (wid n) bs) := by have := hr.out; rw [List.drop_of_length_le (by omega), raGo] at this; exact this
      have hcv := conv_own hown
      go_wp2
      go_ret
      exact ⟨by rw [← HE.out]; rfl, hbel⟩
end Go.Proofs.Ybuaaw
