import Derived.Test.YbuaawW28
import Derived.Test.YbuaawW23
import Derived.Test.YbuaawW24
import Derived.Test.YbuaawW11
import Derived.Deep.DeepCutAuto
namespace Go.Proofs.Ybuaaw
open Go.RowKit
attribute [local go_sem] mk_size mk_toList mk_getElem mk_extract take_len_drop mk_append_lit lit_append_mk

set_option maxRecDepth 100000 in
set_option maxHeartbeats 8000000 in
theorem rb51_item (lv : Int) (txt : List UInt8) (n : Int) (w : World) (hs : txt.length ≤ 67108864) (hn : n ≤ 9223372036854775807) :
    Calls Yaac.prog 51 #[.agg #[.int .i64 3, .int .i64 lv, .string (mk txt)], .int .i64 n] w fun e w' => ∃ v', e = .returned v' ∧ Own w' w.heap.size tStr v' (rblock (wid n) ⟨3, lv, txt⟩) ∧ Below w.heap.size w w' := by
  have hW0 := wid_pos n
  have hWm : wid n ≤ 9223372036854775807 := by unfold wid; split <;> omega
  have HRB : Hid (rblock (wid n) ⟨3, lv, txt⟩ = itemL (rlines (layout (iw (wid n)) (pq txt)))) := by rw [rblock, if_neg (by simp), if_neg (by simp), if_neg (by simp), if_pos rfl]; rfl
  have hpq := pq_size txt
  go_enter Yaac.func51, Yaac.ntmps51
  go_upto_if 26 with (go_at_call 69; refine (wOf_any n _).mono ?_; rintro e w' ⟨rfl, hw⟩; replace hw := hw.symm; subst hw)
  generalize hWn : wid n = W at *
  have HW : Hid (wid n = W) := hWn
  clear hWn
  go_cut [6] (fun iv wc => iv = .int .i64 (iw W : Nat) ∧ wc = w.alloc (.cells #[.int .i64 3, .int .i64 lv, .string (mk txt)] 39))
  case first =>
    by_cases h3 : 3 ≤ W
    · have h3b : (3 : Int) ≤ (W : Int) := by omega
      have HI : Hid ((iw W : Int) = (W : Int) - 2) := by unfold Hid iw; rw [if_pos h3]; omega
      go_wp2
      go_meet
      case rel => exact ⟨by rw [HI.out], rfl⟩
    · have h3b : ¬ (3 : Int) ≤ (W : Int) := by omega
      have HI : Hid ((iw W : Int) = 1) := by unfold Hid iw; rw [if_neg h3]; rfl
      go_wp2
      go_meet
      case rel => exact ⟨by rw [HI.out], rfl⟩
  case rest =>
  obtain ⟨rfl, hwc⟩ := hcut
  have hblk0 := heap_alloc_new w (.cells #[.int .i64 3, .int .i64 lv, .string (mk txt)] 39)
  have hb0 : Below w.heap.size w (w.alloc (.cells #[.int .i64 3, .int .i64 lv, .string (mk txt)] 39)) := (Below.refl _ _).alloc (Nat.le_refl _) _
  have hz0 : (w.alloc (.cells #[.int .i64 3, .int .i64 lv, .string (mk txt)] 39)).heap.size = w.heap.size + 1 := by simp
  rw [← hwc] at hblk0 hb0 hz0
  obtain ⟨wa, rfl⟩ : ∃ wa : World, wa = wc := ⟨_, rfl⟩
  have HZ0 : Hid (wa.heap.size = w.heap.size + 1) := hz0
  have za : w.heap.size ≤ wa.heap.size := by omega
  clear hwc hz0
  have x0 := blk_cell (j := 0) hblk0 rfl
  have x1 := blk_cell (j := 1) hblk0 rfl
  have x2 := blk_cell (j := 2) hblk0 rfl
  have hI0 := iw_pos W
  have hIm : iw W ≤ 9223372036854775807 := by unfold iw; split <;> omega
  have hsz := lay_size (iw W) hI0 (pq txt)
  have hrs := rl_size (iw W) hI0 (pq txt)
  go_wp2_with fail
  refine (pOf_any txt _ (by omega)).mono ?_
  rintro e w1 ⟨v1, rfl, ho1, hb1⟩
  have z1 := hb1.size
  go_wp2_with fail
  refine (layout_any (pq txt) (((iw W) : Nat) : Int) _ w1.heap.size _ (Nat.le_refl _) ho1.rdd (by omega) (by omega) (by omega)).mono ?_
  rw [wid_nat (iw W) hI0]
  rintro e w2 ⟨v2, rfl, ho2, hb2⟩
  have z2 := hb2.size
  go_wp2_with fail
  refine (renderLines_any _ _ w2.heap.size _ (Nat.le_refl _) ho2.rdd (by omega) (by omega)).mono ?_
  rintro e w3 ⟨v3, rfl, ho3, hb3⟩
  have z3 := hb3.size
  have hba3 : Below wa.heap.size wa w3 := (hb1.trans (hb2.mono z1)).trans (hb3.mono (by omega))
  have za3 := hba3.size
  obtain ⟨lo, lcap, rfl⟩ := ho3.shape
  obtain ⟨hrl, hrb⟩ := hrs
  have HRB2 : Hid _ := hrb
  have ho3' := ho3.base (show wa.heap.size ≤ w2.heap.size by omega)
  clear ho1 ho2 hb1 hb2 hb3 hrb ho3
  generalize rlines (layout (iw W) (pq txt)) = ls at *
  by_cases hl0 : ls = []
  · have hlb : ((ls.length : Int) == 0) = true := by rw [hl0]; rfl
    have HRC : Hid (rblock W ⟨3, lv, txt⟩ = [[42]]) := by unfold Hid; rw [HRB.out, itemL, if_pos hl0]
    clear hl0
    go_wp2
    go_ret
    exact ⟨_, rfl, by rw [HW.out, HRC.out]; exact own_lit1 w3 _ [42] (by omega), (hb0.trans (hba3.mono za)).alloc (by omega) _⟩
  · have hlb : ((ls.length : Int) == 0) = false := beq_eq_false_iff_ne.2 (fun h => hl0 (List.eq_nil_of_length_eq_zero (by omega)))
    have HRC : Hid (rblock W ⟨3, lv, txt⟩ = itGo ls 0 []) := by unfold Hid; rw [HRB.out, itemL, if_neg hl0]
    clear hl0
    go_wp2
    go_loopw [7, 141] (fun rv kv wr => ∃ (k : Nat) (acc : List (List UInt8)), k ≤ ls.length ∧ kv = .int .i64 k ∧ acc.length ≤ k ∧ Own wr w3.heap.size tStr rv acc ∧ Below w3.heap.size w3 wr ∧ Hid (itGo (ls.drop k) k acc = itGo ls 0 [])) (fun _ kv _ => ls.length - (intOf kv).toNat)
    case atStart => exact ⟨0, [], Nat.zero_le _, rfl, Nat.le_refl _, Own.nil _ _ _, Below.refl _ _, rfl⟩
    case round =>
      obtain ⟨k, acc, hk, rfl, hal, hoa, hbk, hr⟩ := hrel
      obtain ⟨wy, rfl⟩ : ∃ wy : World, wy = wr := ⟨_, rfl⟩
      obtain ⟨ro, rcap, rfl⟩ := hoa.shape
      have zk := hbk.size
      by_cases hkl : k < ls.length
      · obtain ⟨b5, o5, rfl, hb5', hc5⟩ := (ho3'.below hbk).rdd.str k hkl
        have d5 := hc5 k hkl
        clear hc5
        have ik : (k : Int) < (ls.length : Int) := by omega
        have hr' := hr.out
        rw [itGo_at ls k acc hkl] at hr'
        clear hr
        have hxl : ls[k].length ≤ 4294967296 := by have := HRB2.out ls[k] (List.getElem_mem hkl); omega
        generalize ls[k] = x at *
        by_cases hk0 : k = 0
        · have hkb : ((k : Int) == 0) = true := beq_iff_eq.2 (by omega)
          rw [if_pos hk0] at hr'
          have HE : Hid (itGo (ls.drop (k + 1)) (k + 1) (acc ++ [[42, 32] ++ x]) = itGo ls 0 []) := hr'
          clear hr' hk0
          go_wp2_with (at_builtin; refine app1 tStr (.tmp 148) (.tmp 151) w3.heap.size _ acc hoa ([42, 32] ++ x) _ rfl rfl rfl rfl rfl rfl (by omega) (by omega) ?_)
          intro g6 cap6 w6 ho6 hgr6 hat6 hb6
          go_wp2
          go_roundw
          case rel => exact ⟨k + 1, acc ++ [[42, 32] ++ x], by omega, by go_num, by simp; omega, by first | exact ho6 | simpa using ho6, hbk.trans hb6, HE⟩
          case measure => simp [intOf]; omega
        · have hkb : ((k : Int) == 0) = false := beq_eq_false_iff_ne.2 (by omega)
          rw [if_neg hk0] at hr'
          have HE : Hid (itGo (ls.drop (k + 1)) (k + 1) (acc ++ [[32, 32] ++ x]) = itGo ls 0 []) := hr'
          clear hr' hk0
          go_wp2_with (at_builtin; refine app1 tStr (.tmp 153) (.tmp 156) w3.heap.size _ acc hoa ([32, 32] ++ x) _ rfl rfl rfl rfl rfl rfl (by omega) (by omega) ?_)
          intro g6 cap6 w6 ho6 hgr6 hat6 hb6
          go_wp2
          go_roundw
          case rel => exact ⟨k + 1, acc ++ [[32, 32] ++ x], by omega, by go_num, by simp; omega, by first | exact ho6 | simpa using ho6, hbk.trans hb6, HE⟩
          case measure => simp [intOf]; omega
      · have ik : ¬ (k : Int) < (ls.length : Int) := by omega
        have HE : Hid (acc = itGo ls 0 []) := by have := hr.out; rw [List.drop_of_length_le (by omega), itGo] at this; exact this
        go_wp2
        go_ret
        exact ⟨_, rfl, by rw [HW.out, HRC.out, ← HE.out]; exact hoa.base (by omega), (hb0.trans (hba3.mono za)).trans (hbk.mono (by omega))⟩

set_option maxRecDepth 100000 in
set_option maxHeartbeats 8000000 in
theorem rb51_quote (lv : Int) (txt : List UInt8) (n : Int) (w : World) (hs : txt.length ≤ 67108864) (hn : n ≤ 9223372036854775807) :
    Calls Yaac.prog 51 #[.agg #[.int .i64 4, .int .i64 lv, .string (mk txt)], .int .i64 n] w fun e w' => ∃ v', e = .returned v' ∧ Own w' w.heap.size tStr v' (rblock (wid n) ⟨4, lv, txt⟩) ∧ Below w.heap.size w w' := by
  have hW0 := wid_pos n
  have hWm : wid n ≤ 9223372036854775807 := by unfold wid; split <;> omega
  have HRB : Hid (rblock (wid n) ⟨4, lv, txt⟩ = quoteL (rlines (layout (iw (wid n)) (pq txt)))) := by rw [rblock, if_neg (by simp), if_neg (by simp), if_neg (by simp), if_neg (by simp), if_pos rfl]; rfl
  have hpq := pq_size txt
  go_enter Yaac.func51, Yaac.ntmps51
  go_upto_if 26 with (go_at_call 69; refine (wOf_any n _).mono ?_; rintro e w' ⟨rfl, hw⟩; replace hw := hw.symm; subst hw)
  generalize hWn : wid n = W at *
  have HW : Hid (wid n = W) := hWn
  clear hWn
  go_cut [6] (fun iv wc => iv = .int .i64 (iw W : Nat) ∧ wc = w.alloc (.cells #[.int .i64 4, .int .i64 lv, .string (mk txt)] 39))
  case first =>
    by_cases h3 : 3 ≤ W
    · have h3b : (3 : Int) ≤ (W : Int) := by omega
      have HI : Hid ((iw W : Int) = (W : Int) - 2) := by unfold Hid iw; rw [if_pos h3]; omega
      go_wp2
      go_meet
      case rel => exact ⟨by rw [HI.out], rfl⟩
    · have h3b : ¬ (3 : Int) ≤ (W : Int) := by omega
      have HI : Hid ((iw W : Int) = 1) := by unfold Hid iw; rw [if_neg h3]; rfl
      go_wp2
      go_meet
      case rel => exact ⟨by rw [HI.out], rfl⟩
  case rest =>
  obtain ⟨rfl, hwc⟩ := hcut
  have hblk0 := heap_alloc_new w (.cells #[.int .i64 4, .int .i64 lv, .string (mk txt)] 39)
  have hb0 : Below w.heap.size w (w.alloc (.cells #[.int .i64 4, .int .i64 lv, .string (mk txt)] 39)) := (Below.refl _ _).alloc (Nat.le_refl _) _
  have hz0 : (w.alloc (.cells #[.int .i64 4, .int .i64 lv, .string (mk txt)] 39)).heap.size = w.heap.size + 1 := by simp
  rw [← hwc] at hblk0 hb0 hz0
  obtain ⟨wa, rfl⟩ : ∃ wa : World, wa = wc := ⟨_, rfl⟩
  have HZ0 : Hid (wa.heap.size = w.heap.size + 1) := hz0
  have za : w.heap.size ≤ wa.heap.size := by omega
  clear hwc hz0
  have x0 := blk_cell (j := 0) hblk0 rfl
  have x1 := blk_cell (j := 1) hblk0 rfl
  have x2 := blk_cell (j := 2) hblk0 rfl
  have hI0 := iw_pos W
  have hIm : iw W ≤ 9223372036854775807 := by unfold iw; split <;> omega
  have hsz := lay_size (iw W) hI0 (pq txt)
  have hrs := rl_size (iw W) hI0 (pq txt)
  go_wp2_with fail
  refine (pOf_any txt _ (by omega)).mono ?_
  rintro e w1 ⟨v1, rfl, ho1, hb1⟩
  have z1 := hb1.size
  go_wp2_with fail
  refine (layout_any (pq txt) (((iw W) : Nat) : Int) _ w1.heap.size _ (Nat.le_refl _) ho1.rdd (by omega) (by omega) (by omega)).mono ?_
  rw [wid_nat (iw W) hI0]
  rintro e w2 ⟨v2, rfl, ho2, hb2⟩
  have z2 := hb2.size
  go_wp2_with fail
  refine (renderLines_any _ _ w2.heap.size _ (Nat.le_refl _) ho2.rdd (by omega) (by omega)).mono ?_
  rintro e w3 ⟨v3, rfl, ho3, hb3⟩
  have z3 := hb3.size
  have hba3 : Below wa.heap.size wa w3 := (hb1.trans (hb2.mono z1)).trans (hb3.mono (by omega))
  have za3 := hba3.size
  obtain ⟨lo, lcap, rfl⟩ := ho3.shape
  obtain ⟨hrl, hrb⟩ := hrs
  have HRB2 : Hid _ := hrb
  have ho3' := ho3.base (show wa.heap.size ≤ w2.heap.size by omega)
  clear ho1 ho2 hb1 hb2 hb3 hrb ho3
  generalize rlines (layout (iw W) (pq txt)) = ls at *
  by_cases hl0 : ls = []
  · have hlb : ((ls.length : Int) == 0) = true := by rw [hl0]; rfl
    have HRC : Hid (rblock W ⟨4, lv, txt⟩ = [[124]]) := by unfold Hid; rw [HRB.out, quoteL, if_pos hl0]
    clear hl0
    go_wp2
    go_ret
    exact ⟨_, rfl, by rw [HW.out, HRC.out]; exact own_lit1 w3 _ [124] (by omega), (hb0.trans (hba3.mono za)).alloc (by omega) _⟩
  · have hlb : ((ls.length : Int) == 0) = false := beq_eq_false_iff_ne.2 (fun h => hl0 (List.eq_nil_of_length_eq_zero (by omega)))
    have HRC : Hid (rblock W ⟨4, lv, txt⟩ = qGo [124, 32] ls []) := by unfold Hid; rw [HRB.out, quoteL, if_neg hl0]
    clear hl0
    go_wp2
    go_loopw [7, 173] (fun rv kv wr => ∃ (k : Nat) (acc : List (List UInt8)), k ≤ ls.length ∧ kv = .int .i64 k ∧ acc.length ≤ k ∧ Own wr w3.heap.size tStr rv acc ∧ Below w3.heap.size w3 wr ∧ Hid (qGo [124, 32] (ls.drop k) acc = qGo [124, 32] ls [])) (fun _ kv _ => ls.length - (intOf kv).toNat)
    case atStart => exact ⟨0, [], Nat.zero_le _, rfl, Nat.le_refl _, Own.nil _ _ _, Below.refl _ _, rfl⟩
    case round =>
      obtain ⟨k, acc, hk, rfl, hal, hoa, hbk, hr⟩ := hrel
      obtain ⟨wy, rfl⟩ : ∃ wy : World, wy = wr := ⟨_, rfl⟩
      obtain ⟨ro, rcap, rfl⟩ := hoa.shape
      have zk := hbk.size
      by_cases hkl : k < ls.length
      · obtain ⟨b5, o5, rfl, hb5', hc5⟩ := (ho3'.below hbk).rdd.str k hkl
        have d5 := hc5 k hkl
        clear hc5
        have ik : (k : Int) < (ls.length : Int) := by omega
        have hr' := hr.out
        rw [qGo_at _ ls k acc hkl] at hr'
        clear hr
        have hxl : ls[k].length ≤ 4294967296 := by have := HRB2.out ls[k] (List.getElem_mem hkl); omega
        generalize ls[k] = x at *
        have HE : Hid (qGo [124, 32] (ls.drop (k + 1)) (acc ++ [[124, 32] ++ x]) = qGo [124, 32] ls []) := hr'
        clear hr'
        go_wp2_with (at_builtin; refine app1 tStr (.tmp 177) (.tmp 180) w3.heap.size _ acc hoa ([124, 32] ++ x) _ rfl rfl rfl rfl rfl rfl (by omega) (by omega) ?_)
        intro g6 cap6 w6 ho6 hgr6 hat6 hb6
        go_wp2
        go_roundw
        case rel => exact ⟨k + 1, acc ++ [[124, 32] ++ x], by omega, by go_num, by simp; omega, by first | exact ho6 | simpa using ho6, hbk.trans hb6, HE⟩
        case measure => simp [intOf]; omega
      · have ik : ¬ (k : Int) < (ls.length : Int) := by omega
        have HE : Hid (acc = qGo [124, 32] ls []) := by have := hr.out; rw [List.drop_of_length_le (by omega), qGo] at this; exact this
        go_wp2
        go_ret
        exact ⟨_, rfl, by rw [HW.out, HRC.out, ← HE.out]; exact hoa.base (by omega), (hb0.trans (hba3.mono za)).trans (hbk.mono (by omega))⟩
end Go.Proofs.Ybuaaw
