import Derived.Test.YbuaawW28
import Derived.Test.YbuaawW23
import Derived.Test.YbuaawW24
import Derived.Test.YbuaawW11
import Derived.Deep.DeepCutAuto
namespace Go.Proofs.Ybuaaw
open Go.RowKit
attribute [local go_sem] mk_size mk_toList mk_getElem mk_extract take_len_drop mk_append_lit lit_append_mk

set_option maxRecDepth 100000 in
set_option maxHeartbeats 8000000 in
theorem rb51_para (kd lv : Int) (hk : kd ≠ 5 ∧ kd ≠ 6 ∧ kd ≠ 2 ∧ kd ≠ 3 ∧ kd ≠ 4) (txt : List UInt8) (n : Int) (w : World) (hs : txt.length ≤ 67108864) (hn : n ≤ 9223372036854775807) :
    Calls Yaac.prog 51 #[.agg #[.int .i64 kd, .int .i64 lv, .string (mk txt)], .int .i64 n] w fun e w' => ∃ v', e = .returned v' ∧ Own w' w.heap.size tStr v' (rblock (wid n) ⟨kd, lv, txt⟩) ∧ Below w.heap.size w w' := by
  have hW0 := wid_pos n
  have hWm : wid n ≤ 9223372036854775807 := by unfold wid; split <;> omega
  have HRB : Hid (rblock (wid n) ⟨kd, lv, txt⟩ = rlines (layout (wid n) (pq txt))) := by rw [rblock, if_neg hk.1, if_neg hk.2.1, if_neg hk.2.2.1, if_neg hk.2.2.2.1, if_neg hk.2.2.2.2]; rfl
  have k5 : (kd == 5) = false := beq_eq_false_iff_ne.2 hk.1
  have k6 : (kd == 6) = false := beq_eq_false_iff_ne.2 hk.2.1
  have k2 : (kd == 2) = false := beq_eq_false_iff_ne.2 hk.2.2.1
  have k3 : (kd == 3) = false := beq_eq_false_iff_ne.2 hk.2.2.2.1
  have k4 : (kd == 4) = false := beq_eq_false_iff_ne.2 hk.2.2.2.2
  have hpq := pq_size txt
  go_enter Yaac.func51, Yaac.ntmps51
  go_upto_if 26 with (go_at_call 69; refine (wOf_any n _).mono ?_; rintro e w' ⟨rfl, hw⟩; replace hw := hw.symm; subst hw)
  generalize hWn : wid n = W at *
  have HW : Hid (wid n = W) := hWn
  clear hWn
  go_cut [6] (fun iv wc => iv = .int .i64 (iw W : Nat) ∧ wc = w.alloc (.cells #[.int .i64 kd, .int .i64 lv, .string (mk txt)] 39))
  case first =>
    by_cases h3 : 3 ≤ W
    · have h3b : (3 : Int) ≤ (W : Int) := by omega
      have HI : Hid ((iw W : Int) = (W : Int) - 2) := by unfold Hid iw; rw [if_pos h3]; omega
      go_wp2
      go_meet
      case rel => exact ⟨by rw [HI.out], rfl⟩
    · have h3b : ¬ (3 : Int) ≤ (W : Int) := by omega
      have HI : Hid ((iw W : Int) = 1) := by unfold Hid iw; rw [if_neg h3]; rfl
      go_wp2
      go_meet
      case rel => exact ⟨by rw [HI.out], rfl⟩
  case rest =>
  obtain ⟨rfl, hwc⟩ := hcut
  have hblk0 := heap_alloc_new w (.cells #[.int .i64 kd, .int .i64 lv, .string (mk txt)] 39)
  have hb0 : Below w.heap.size w (w.alloc (.cells #[.int .i64 kd, .int .i64 lv, .string (mk txt)] 39)) := (Below.refl _ _).alloc (Nat.le_refl _) _
  have hz0 : (w.alloc (.cells #[.int .i64 kd, .int .i64 lv, .string (mk txt)] 39)).heap.size = w.heap.size + 1 := by simp
  rw [← hwc] at hblk0 hb0 hz0
  obtain ⟨wa, rfl⟩ : ∃ wa : World, wa = wc := ⟨_, rfl⟩
  have HZ0 : Hid (wa.heap.size = w.heap.size + 1) := hz0
  have za : w.heap.size ≤ wa.heap.size := by omega
  clear hwc hz0
  have x0 := blk_cell (j := 0) hblk0 rfl
  have x1 := blk_cell (j := 1) hblk0 rfl
  have x2 := blk_cell (j := 2) hblk0 rfl
  have hsz := lay_size W hW0 (pq txt)
  have hrs := rl_size W hW0 (pq txt)
  go_wp2_with fail
  refine (pOf_any txt _ (by omega)).mono ?_
  rintro e w1 ⟨v1, rfl, ho1, hb1⟩
  have z1 := hb1.size
  go_wp2_with fail
  refine (layout_any (pq txt) ((W : Nat) : Int) _ w1.heap.size _ (Nat.le_refl _) ho1.rdd (by omega) (by omega) (by omega)).mono ?_
  rw [wid_nat W hW0]
  rintro e w2 ⟨v2, rfl, ho2, hb2⟩
  have z2 := hb2.size
  go_wp2_with fail
  refine (renderLines_any _ _ w2.heap.size _ (Nat.le_refl _) ho2.rdd (by omega) (by omega)).mono ?_
  rintro e w3 ⟨v3, rfl, ho3, hb3⟩
  have z3 := hb3.size
  have hba3 : Below wa.heap.size wa w3 := (hb1.trans (hb2.mono z1)).trans (hb3.mono (by omega))
  have za3 := hba3.size
  obtain ⟨lo, lcap, rfl⟩ := ho3.shape
  obtain ⟨hrl, hrb⟩ := hrs
  have HRB2 : Hid _ := hrb
  have ho3' := ho3.base (show wa.heap.size ≤ w2.heap.size by omega)
  clear ho1 ho2 hb1 hb2 hb3 hrb ho3
  go_wp2
  go_ret
  exact ⟨_, rfl, by rw [HW.out, HRB.out]; exact ho3'.base za, hb0.trans (hba3.mono za)⟩

set_option maxRecDepth 100000 in
set_option maxHeartbeats 8000000 in
theorem rb51_rule (lv : Int) (txt : List UInt8) (n : Int) (w : World) (_hs : txt.length ≤ 67108864) (hn : n ≤ 9223372036854775807) :
    Calls Yaac.prog 51 #[.agg #[.int .i64 6, .int .i64 lv, .string (mk txt)], .int .i64 n] w fun e w' => ∃ v', e = .returned v' ∧ Own w' w.heap.size tStr v' (rblock (wid n) ⟨6, lv, txt⟩) ∧ Below w.heap.size w w' := by
  have hW0 := wid_pos n
  have hWm : wid n ≤ 9223372036854775807 := by unfold wid; split <;> omega
  have HRB : Hid (rblock (wid n) ⟨6, lv, txt⟩ = [List.replicate (min (wid n) 80) 45]) := by rw [rblock, if_neg (by simp), if_pos rfl]; rfl
  have hpq := pq_size txt
  go_enter Yaac.func51, Yaac.ntmps51
  go_upto_if 26 with (go_at_call 69; refine (wOf_any n _).mono ?_; rintro e w' ⟨rfl, hw⟩; replace hw := hw.symm; subst hw)
  generalize hWn : wid n = W at *
  have HW : Hid (wid n = W) := hWn
  clear hWn
  go_cut [6] (fun iv wc => iv = .int .i64 (iw W : Nat) ∧ wc = w.alloc (.cells #[.int .i64 6, .int .i64 lv, .string (mk txt)] 39))
  case first =>
    by_cases h3 : 3 ≤ W
    · have h3b : (3 : Int) ≤ (W : Int) := by omega
      have HI : Hid ((iw W : Int) = (W : Int) - 2) := by unfold Hid iw; rw [if_pos h3]; omega
      go_wp2
      go_meet
      case rel => exact ⟨by rw [HI.out], rfl⟩
    · have h3b : ¬ (3 : Int) ≤ (W : Int) := by omega
      have HI : Hid ((iw W : Int) = 1) := by unfold Hid iw; rw [if_neg h3]; rfl
      go_wp2
      go_meet
      case rel => exact ⟨by rw [HI.out], rfl⟩
  case rest =>
  obtain ⟨rfl, hwc⟩ := hcut
  have hblk0 := heap_alloc_new w (.cells #[.int .i64 6, .int .i64 lv, .string (mk txt)] 39)
  have hb0 : Below w.heap.size w (w.alloc (.cells #[.int .i64 6, .int .i64 lv, .string (mk txt)] 39)) := (Below.refl _ _).alloc (Nat.le_refl _) _
  have hz0 : (w.alloc (.cells #[.int .i64 6, .int .i64 lv, .string (mk txt)] 39)).heap.size = w.heap.size + 1 := by simp
  rw [← hwc] at hblk0 hb0 hz0
  obtain ⟨wa, rfl⟩ : ∃ wa : World, wa = wc := ⟨_, rfl⟩
  have HZ0 : Hid (wa.heap.size = w.heap.size + 1) := hz0
  have za : w.heap.size ≤ wa.heap.size := by omega
  clear hwc hz0
  have x0 := blk_cell (j := 0) hblk0 rfl
  have x1 := blk_cell (j := 1) hblk0 rfl
  have x2 := blk_cell (j := 2) hblk0 rfl
  go_upto_if 74 with fail
  go_cut [10] (fun mv wc => mv = .int .i64 (min W 80 : Nat) ∧ wc = wa)
  case first =>
    by_cases h8 : 80 < W
    · have h8b : (80 : Int) < (W : Int) := by omega
      have HM : Hid ((min W 80 : Nat) = 80) := by unfold Hid; omega
      go_wp2
      go_meet
      case rel => exact ⟨by rw [HM.out]; rfl, rfl⟩
    · have h8b : ¬ (80 : Int) < (W : Int) := by omega
      have HM : Hid ((min W 80 : Nat) = W) := by unfold Hid; omega
      go_wp2
      go_meet
      case rel => exact ⟨by rw [HM.out], rfl⟩
  case rest =>
  obtain ⟨rfl, hwc⟩ := hcut
  replace hwc := hwc.symm
  subst hwc
  have hm80 : min W 80 ≤ 80 := by omega
  generalize min W 80 = m at *
  go_wp2_with fail
  refine (repeatByte_any 45 m _ (by omega)).mono ?_
  rintro e w1 ⟨rfl, hb1⟩
  have z1 := hb1.size
  go_wp2_with (at_builtin; refine app1 tStr (.tmp 75) (.tmp 78) w.heap.size _ [] (Own.nil w1 w.heap.size tStr) (List.replicate m 45) _ rfl rfl rfl rfl rfl rfl (by simp) (by omega) ?_)
  intro g6 cap6 w6 ho6 hgr6 hat6 hb6
  go_wp2
  go_ret
  exact ⟨_, rfl, by rw [HW.out, HRB.out]; first | exact ho6 | simpa using ho6, (hb0.trans (hb1.mono za)).trans hb6⟩

set_option maxRecDepth 100000 in
set_option maxHeartbeats 8000000 in
theorem rb51_code (lv : Int) (txt : List UInt8) (n : Int) (w : World) (hs : txt.length ≤ 67108864) (hn : n ≤ 9223372036854775807) :
    Calls Yaac.prog 51 #[.agg #[.int .i64 5, .int .i64 lv, .string (mk txt)], .int .i64 n] w fun e w' => ∃ v', e = .returned v' ∧ Own w' w.heap.size tStr v' (rblock (wid n) ⟨5, lv, txt⟩) ∧ Below w.heap.size w w' := by
  have hW0 := wid_pos n
  have hWm : wid n ≤ 9223372036854775807 := by unfold wid; split <;> omega
  have HRB : Hid (rblock (wid n) ⟨5, lv, txt⟩ = qGo [32, 32, 32, 32] (cut txt) []) := by rw [rblock, if_pos rfl]; rfl
  have hpq := pq_size txt
  go_enter Yaac.func51, Yaac.ntmps51
  go_upto_if 26 with (go_at_call 69; refine (wOf_any n _).mono ?_; rintro e w' ⟨rfl, hw⟩; replace hw := hw.symm; subst hw)
  generalize hWn : wid n = W at *
  have HW : Hid (wid n = W) := hWn
  clear hWn
  go_cut [6] (fun iv wc => iv = .int .i64 (iw W : Nat) ∧ wc = w.alloc (.cells #[.int .i64 5, .int .i64 lv, .string (mk txt)] 39))
  case first =>
    by_cases h3 : 3 ≤ W
    · have h3b : (3 : Int) ≤ (W : Int) := by omega
      have HI : Hid ((iw W : Int) = (W : Int) - 2) := by unfold Hid iw; rw [if_pos h3]; omega
      go_wp2
      go_meet
      case rel => exact ⟨by rw [HI.out], rfl⟩
    · have h3b : ¬ (3 : Int) ≤ (W : Int) := by omega
      have HI : Hid ((iw W : Int) = 1) := by unfold Hid iw; rw [if_neg h3]; rfl
      go_wp2
      go_meet
      case rel => exact ⟨by rw [HI.out], rfl⟩
  case rest =>
  obtain ⟨rfl, hwc⟩ := hcut
  have hblk0 := heap_alloc_new w (.cells #[.int .i64 5, .int .i64 lv, .string (mk txt)] 39)
  have hb0 : Below w.heap.size w (w.alloc (.cells #[.int .i64 5, .int .i64 lv, .string (mk txt)] 39)) := (Below.refl _ _).alloc (Nat.le_refl _) _
  have hz0 : (w.alloc (.cells #[.int .i64 5, .int .i64 lv, .string (mk txt)] 39)).heap.size = w.heap.size + 1 := by simp
  rw [← hwc] at hblk0 hb0 hz0
  obtain ⟨wa, rfl⟩ : ∃ wa : World, wa = wc := ⟨_, rfl⟩
  have HZ0 : Hid (wa.heap.size = w.heap.size + 1) := hz0
  have za : w.heap.size ≤ wa.heap.size := by omega
  clear hwc hz0
  have x0 := blk_cell (j := 0) hblk0 rfl
  have x1 := blk_cell (j := 1) hblk0 rfl
  have x2 := blk_cell (j := 2) hblk0 rfl
  go_wp2
  go_loopw [7, 8, 9] (fun rv sv iv wr => ∃ (i st : Nat) (acc out : List (List UInt8)), st ≤ i ∧ i ≤ txt.length ∧ sv = .int .i64 st ∧ iv = .int .i64 i ∧ out.length ≤ i ∧ Hid (out = qGo [32, 32, 32, 32] acc []) ∧ Own wr wa.heap.size tStr rv out ∧ Below wa.heap.size wa wr ∧ Hid (cutGo (txt.drop i) ((txt.drop st).take (i - st)) acc = cut txt)) (fun _ _ iv _ => txt.length - (intOf iv).toNat)
  case atStart => exact ⟨0, 0, [], [], Nat.le_refl _, Nat.zero_le _, rfl, rfl, Nat.le_refl _, rfl, Own.nil _ _ _, Below.refl _ _, rfl⟩
  case round =>
    clear x0 x1 x2
    obtain ⟨i, st, acc, out, hst, hi, rfl, rfl, hol, HO, hoa, hbk, hr⟩ := hrel
    obtain ⟨wy, rfl⟩ : ∃ wy : World, wy = wr := ⟨_, rfl⟩
    obtain ⟨ro, rcap, rfl⟩ := hoa.shape
    have zk := hbk.size
    have hblk := blk_below hbk hblk0
    have x2 := blk_cell (j := 2) hblk rfl
    have s1 : (st : Int) ≤ (i : Int) := by omega
    have s2 : (i : Int) ≤ (txt.length : Int) := by omega
    by_cases hlt : i < txt.length
    · have i1 : (i : Int) < (txt.length : Int) := by omega
      have hr' := hr.out
      rw [cutGo_at txt st i acc hlt hst] at hr'
      clear hr
      by_cases h10 : txt[i].toNat = 10
      · have tb : ((txt[i].toNat : Int) == 10) = true := beq_iff_eq.2 (by omega)
        rw [if_pos h10] at hr'
        have HE : Hid (cutGo (txt.drop (i + 1)) ((txt.drop (i + 1)).take (i + 1 - (i + 1))) (acc ++ [(txt.drop st).take (i - st)]) = cut txt) := hr'
        have HO2 : Hid (out ++ [[32, 32, 32, 32] ++ (txt.drop st).take (i - st)] = qGo [32, 32, 32, 32] (acc ++ [(txt.drop st).take (i - st)]) []) := by
          unfold Hid; rw [HO.out, qGo_acc, qGo_acc]; simp
        clear hr' h10
        go_wp2_with (at_builtin; refine app1 tStr (.tmp 51) (.tmp 58) wa.heap.size _ out hoa ([32, 32, 32, 32] ++ (txt.drop st).take (i - st)) _ rfl rfl rfl rfl rfl rfl (by omega) (by omega) ?_)
        intro g6 cap6 w6 ho6 hgr6 hat6 hb6
        go_wp2
        go_roundw
        case rel => exact ⟨i + 1, i + 1, acc ++ [(txt.drop st).take (i - st)], out ++ [[32, 32, 32, 32] ++ (txt.drop st).take (i - st)], by omega, by omega, by go_num, by go_num, by simp; omega, HO2, by first | exact ho6 | simpa using ho6, hbk.trans hb6, HE⟩
        case measure => simp [intOf]; omega
      · have tb : ((txt[i].toNat : Int) == 10) = false := beq_eq_false_iff_ne.2 (by omega)
        rw [if_neg h10] at hr'
        have HE : Hid (cutGo (txt.drop (i + 1)) ((txt.drop st).take (i + 1 - st)) acc = cut txt) := hr'
        clear hr'
        go_wp2
        go_roundw
        case rel => exact ⟨i + 1, st, acc, out, by omega, by omega, by go_num, by go_num, by omega, HO, hoa, hbk, HE⟩
        case measure => simp [intOf]; omega
    · have i1 : ¬ (i : Int) < (txt.length : Int) := by omega
      have hr' := hr.out
      rw [cutGo_end txt st i acc (by omega)] at hr'
      have HO2 : Hid (out ++ [[32, 32, 32, 32] ++ txt.drop st] = qGo [32, 32, 32, 32] (cut txt) []) := by
        unfold Hid; rw [HO.out, ← hr', qGo_acc, qGo_acc]; simp
      clear hr hr'
      have s3 : (st : Int) ≤ (txt.length : Int) := by omega
      go_wp2_with (at_builtin; refine app1 tStr (.tmp 62) (.tmp 68) wa.heap.size _ out hoa ([32, 32, 32, 32] ++ txt.drop st) _ rfl rfl rfl rfl rfl rfl (by omega) (by omega) ?_)
      intro g6 cap6 w6 ho6 hgr6 hat6 hb6
      go_wp2
      go_ret
      exact ⟨_, rfl, by rw [HW.out, HRB.out, ← HO2.out]; first | exact ho6.base za | simpa using ho6.base za, (hb0.trans (hbk.mono za)).trans (hb6.mono za)⟩
end Go.Proofs.Ybuaaw
