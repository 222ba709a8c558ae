import Derived.Test.YbuaawW28
import Derived.Test.YbuaawW23
import Derived.Test.YbuaawW26
import Derived.Test.YbuaawW10
import Derived.Test.YbuaawW4
import Derived.Deep.DeepCutAuto
namespace Go.Proofs.Ybuaaw
open Go.RowKit
attribute [local go_sem] mk_size mk_toList mk_getElem mk_extract take_len_drop mk_append_lit lit_append_mk

set_option maxRecDepth 100000 in
set_option maxHeartbeats 8000000 in
theorem rb52_para (kd lv : Int) (hk : kd ≠ 5 ∧ kd ≠ 6 ∧ kd ≠ 2 ∧ kd ≠ 3 ∧ kd ≠ 4) (txt : List UInt8) (n : Int) (w : World) (hs : txt.length ≤ 67108864) (hn : n ≤ 9223372036854775807) :
    Calls Yaac.prog 52 #[.agg #[.int .i64 kd, .int .i64 lv, .string (mk txt)], .int .i64 n] w fun e w' => ∃ v', e = .returned v' ∧ Own w' w.heap.size tStr v' (rblock (wid n) ⟨kd, lv, txt⟩) ∧ Below w.heap.size w w' := by
  have hW0 := wid_pos n
  have hWm : wid n ≤ 9223372036854775807 := by unfold wid; split <;> omega
  have HRB : Hid (rblock (wid n) ⟨kd, lv, txt⟩ = rlines (layout (wid n) (pq txt))) := by rw [rblock, if_neg hk.1, if_neg hk.2.1, if_neg hk.2.2.1, if_neg hk.2.2.2.1, if_neg hk.2.2.2.2]; rfl
  have k5 : (kd == 5) = false := beq_eq_false_iff_ne.2 hk.1
  have k6 : (kd == 6) = false := beq_eq_false_iff_ne.2 hk.2.1
  have k2 : (kd == 2) = false := beq_eq_false_iff_ne.2 hk.2.2.1
  have k3 : (kd == 3) = false := beq_eq_false_iff_ne.2 hk.2.2.2.1
  have k4 : (kd == 4) = false := beq_eq_false_iff_ne.2 hk.2.2.2.2
  have hpq := pq_size txt
  go_enter Yaac.func52, Yaac.ntmps52
  go_upto_if 26 with (go_at_call 43; refine (widS_any n _).mono ?_; rintro e w' ⟨rfl, hw⟩; replace hw := hw.symm; subst hw)
  generalize hWn : wid n = W at *
  have HW : Hid (wid n = W) := hWn
  clear hWn
  go_cut [6] (fun iv wc => iv = .int .i64 (iw W : Nat) ∧ wc = w.alloc (.cells #[.int .i64 kd, .int .i64 lv, .string (mk txt)] 39))
  case first =>
    by_cases h3 : 3 ≤ W
    · have h3b : (3 : Int) ≤ (W : Int) := by omega
      have HI : Hid ((iw W : Int) = (W : Int) - 2) := by unfold Hid iw; rw [if_pos h3]; omega
      go_wp2
      go_meet
      case rel => exact ⟨by rw [HI.out], rfl⟩
    · have h3b : ¬ (3 : Int) ≤ (W : Int) := by omega
      have HI : Hid ((iw W : Int) = 1) := by unfold Hid iw; rw [if_neg h3]; rfl
      go_wp2
      go_meet
      case rel => exact ⟨by rw [HI.out], rfl⟩
  case rest =>
  obtain ⟨rfl, hwc⟩ := hcut
  have hblk0 := heap_alloc_new w (.cells #[.int .i64 kd, .int .i64 lv, .string (mk txt)] 39)
  have hb0 : Below w.heap.size w (w.alloc (.cells #[.int .i64 kd, .int .i64 lv, .string (mk txt)] 39)) := (Below.refl _ _).alloc (Nat.le_refl _) _
  have hz0 : (w.alloc (.cells #[.int .i64 kd, .int .i64 lv, .string (mk txt)] 39)).heap.size = w.heap.size + 1 := by simp
  rw [← hwc] at hblk0 hb0 hz0
  obtain ⟨wa, rfl⟩ : ∃ wa : World, wa = wc := ⟨_, rfl⟩
  have HZ0 : Hid (wa.heap.size = w.heap.size + 1) := hz0
  have za : w.heap.size ≤ wa.heap.size := by omega
  clear hwc hz0
  have x0 := blk_cell (j := 0) hblk0 rfl
  have x1 := blk_cell (j := 1) hblk0 rfl
  have x2 := blk_cell (j := 2) hblk0 rfl
  have hsz := lay_size W hW0 (pq txt)
  have hrs := rl_size W hW0 (pq txt)
  go_wp2_with fail
  refine (pS_any txt _ (by omega)).mono ?_
  rintro e w1 ⟨v1, rfl, ho1, hb1⟩
  have z1 := hb1.size
  go_wp2_with fail
  refine (layoutS_any (pq txt) ((W : Nat) : Int) _ w1.heap.size _ (Nat.le_refl _) ho1.rdd (by omega) (by omega) (by omega)).mono ?_
  rw [wid_nat W hW0]
  rintro e w2 ⟨v2, rfl, ho2, hb2⟩
  have z2 := hb2.size
  go_wp2_with fail
  refine (renderLinesS_any _ _ w2.heap.size _ (Nat.le_refl _) ho2.rdd (by omega) (by omega)).mono ?_
  rintro e w3 ⟨v3, rfl, ho3, hb3⟩
  have z3 := hb3.size
  have hba3 : Below wa.heap.size wa w3 := (hb1.trans (hb2.mono z1)).trans (hb3.mono (by omega))
  have za3 := hba3.size
  obtain ⟨lo, lcap, rfl⟩ := ho3.shape
  obtain ⟨hrl, hrb⟩ := hrs
  have HRB2 : Hid _ := hrb
  have ho3' := ho3.base (show wa.heap.size ≤ w2.heap.size by omega)
  clear ho1 ho2 hb1 hb2 hb3 hrb ho3
  go_wp2
  go_ret
  exact ⟨_, rfl, by rw [HW.out, HRB.out]; exact ho3'.base za, hb0.trans (hba3.mono za)⟩

set_option maxRecDepth 100000 in
set_option maxHeartbeats 8000000 in
theorem rb52_rule (lv : Int) (txt : List UInt8) (n : Int) (w : World) (_hs : txt.length ≤ 67108864) (hn : n ≤ 9223372036854775807) :
    Calls Yaac.prog 52 #[.agg #[.int .i64 6, .int .i64 lv, .string (mk txt)], .int .i64 n] w fun e w' => ∃ v', e = .returned v' ∧ Own w' w.heap.size tStr v' (rblock (wid n) ⟨6, lv, txt⟩) ∧ Below w.heap.size w w' := by
  have hW0 := wid_pos n
  have hWm : wid n ≤ 9223372036854775807 := by unfold wid; split <;> omega
  have HRB : Hid (rblock (wid n) ⟨6, lv, txt⟩ = [List.replicate (min (wid n) 80) 45]) := by rw [rblock, if_neg (by simp), if_pos rfl]; rfl
  have hpq := pq_size txt
  go_enter Yaac.func52, Yaac.ntmps52
  go_upto_if 26 with (go_at_call 43; refine (widS_any n _).mono ?_; rintro e w' ⟨rfl, hw⟩; replace hw := hw.symm; subst hw)
  generalize hWn : wid n = W at *
  have HW : Hid (wid n = W) := hWn
  clear hWn
  go_cut [6] (fun iv wc => iv = .int .i64 (iw W : Nat) ∧ wc = w.alloc (.cells #[.int .i64 6, .int .i64 lv, .string (mk txt)] 39))
  case first =>
    by_cases h3 : 3 ≤ W
    · have h3b : (3 : Int) ≤ (W : Int) := by omega
      have HI : Hid ((iw W : Int) = (W : Int) - 2) := by unfold Hid iw; rw [if_pos h3]; omega
      go_wp2
      go_meet
      case rel => exact ⟨by rw [HI.out], rfl⟩
    · have h3b : ¬ (3 : Int) ≤ (W : Int) := by omega
      have HI : Hid ((iw W : Int) = 1) := by unfold Hid iw; rw [if_neg h3]; rfl
      go_wp2
      go_meet
      case rel => exact ⟨by rw [HI.out], rfl⟩
  case rest =>
  obtain ⟨rfl, hwc⟩ := hcut
  have hblk0 := heap_alloc_new w (.cells #[.int .i64 6, .int .i64 lv, .string (mk txt)] 39)
  have hb0 : Below w.heap.size w (w.alloc (.cells #[.int .i64 6, .int .i64 lv, .string (mk txt)] 39)) := (Below.refl _ _).alloc (Nat.le_refl _) _
  have hz0 : (w.alloc (.cells #[.int .i64 6, .int .i64 lv, .string (mk txt)] 39)).heap.size = w.heap.size + 1 := by simp
  rw [← hwc] at hblk0 hb0 hz0
  obtain ⟨wa, rfl⟩ : ∃ wa : World, wa = wc := ⟨_, rfl⟩
  have HZ0 : Hid (wa.heap.size = w.heap.size + 1) := hz0
  have za : w.heap.size ≤ wa.heap.size := by omega
  clear hwc hz0
  have x0 := blk_cell (j := 0) hblk0 rfl
  have x1 := blk_cell (j := 1) hblk0 rfl
  have x2 := blk_cell (j := 2) hblk0 rfl
  go_upto_if 55 with fail
  go_cut [10] (fun mv wc => mv = .int .i64 (min W 80 : Nat) ∧ wc = wa)
  case first =>
    by_cases h8 : 80 < W
    · have h8b : (80 : Int) < (W : Int) := by omega
      have HM : Hid ((min W 80 : Nat) = 80) := by unfold Hid; omega
      go_wp2
      go_meet
      case rel => exact ⟨by rw [HM.out]; rfl, rfl⟩
    · have h8b : ¬ (80 : Int) < (W : Int) := by omega
      have HM : Hid ((min W 80 : Nat) = W) := by unfold Hid; omega
      go_wp2
      go_meet
      case rel => exact ⟨by rw [HM.out], rfl⟩
  case rest =>
  obtain ⟨rfl, hwc⟩ := hcut
  replace hwc := hwc.symm
  subst hwc
  have hm80 : min W 80 ≤ 80 := by omega
  generalize min W 80 = m at *
  go_wp2_with fail
  refine (repeatS_any 45 m _ (by omega)).mono ?_
  rintro e w1 ⟨rfl, hb1⟩
  have z1 := hb1.size
  go_wp2
  go_ret
  exact ⟨_, rfl, by rw [HW.out, HRB.out]; exact own_lit1 w1 _ (List.replicate m 45) (by omega), (hb0.trans (hb1.mono za)).alloc (by omega) _⟩

set_option maxRecDepth 100000 in
set_option maxHeartbeats 8000000 in
theorem rb52_code (lv : Int) (txt : List UInt8) (n : Int) (w : World) (hs : txt.length ≤ 67108864) (hn : n ≤ 9223372036854775807) :
    Calls Yaac.prog 52 #[.agg #[.int .i64 5, .int .i64 lv, .string (mk txt)], .int .i64 n] w fun e w' => ∃ v', e = .returned v' ∧ Own w' w.heap.size tStr v' (rblock (wid n) ⟨5, lv, txt⟩) ∧ Below w.heap.size w w' := by
  have hW0 := wid_pos n
  have hWm : wid n ≤ 9223372036854775807 := by unfold wid; split <;> omega
  have HRB : Hid (rblock (wid n) ⟨5, lv, txt⟩ = qGo [32, 32, 32, 32] (cut txt) []) := by rw [rblock, if_pos rfl]; rfl
  have hpq := pq_size txt
  go_enter Yaac.func52, Yaac.ntmps52
  go_upto_if 26 with (go_at_call 43; refine (widS_any n _).mono ?_; rintro e w' ⟨rfl, hw⟩; replace hw := hw.symm; subst hw)
  generalize hWn : wid n = W at *
  have HW : Hid (wid n = W) := hWn
  clear hWn
  go_cut [6] (fun iv wc => iv = .int .i64 (iw W : Nat) ∧ wc = w.alloc (.cells #[.int .i64 5, .int .i64 lv, .string (mk txt)] 39))
  case first =>
    by_cases h3 : 3 ≤ W
    · have h3b : (3 : Int) ≤ (W : Int) := by omega
      have HI : Hid ((iw W : Int) = (W : Int) - 2) := by unfold Hid iw; rw [if_pos h3]; omega
      go_wp2
      go_meet
      case rel => exact ⟨by rw [HI.out], rfl⟩
    · have h3b : ¬ (3 : Int) ≤ (W : Int) := by omega
      have HI : Hid ((iw W : Int) = 1) := by unfold Hid iw; rw [if_neg h3]; rfl
      go_wp2
      go_meet
      case rel => exact ⟨by rw [HI.out], rfl⟩
  case rest =>
  obtain ⟨rfl, hwc⟩ := hcut
  have hblk0 := heap_alloc_new w (.cells #[.int .i64 5, .int .i64 lv, .string (mk txt)] 39)
  have hb0 : Below w.heap.size w (w.alloc (.cells #[.int .i64 5, .int .i64 lv, .string (mk txt)] 39)) := (Below.refl _ _).alloc (Nat.le_refl _) _
  have hz0 : (w.alloc (.cells #[.int .i64 5, .int .i64 lv, .string (mk txt)] 39)).heap.size = w.heap.size + 1 := by simp
  rw [← hwc] at hblk0 hb0 hz0
  obtain ⟨wa, rfl⟩ : ∃ wa : World, wa = wc := ⟨_, rfl⟩
  have HZ0 : Hid (wa.heap.size = w.heap.size + 1) := hz0
  have za : w.heap.size ≤ wa.heap.size := by omega
  clear hwc hz0
  have x0 := blk_cell (j := 0) hblk0 rfl
  have x1 := blk_cell (j := 1) hblk0 rfl
  have x2 := blk_cell (j := 2) hblk0 rfl
  have hcl := (cut_len txt).1
  have HRB2 : Hid (∀ x ∈ cut txt, x.length ≤ txt.length) := cut_mem txt
  go_wp2_with fail
  refine (cutAll_any txt _ (by omega)).mono ?_
  rintro e w1 ⟨v1, rfl, ho1, hb1⟩
  have z1 := hb1.size
  obtain ⟨lo, lcap, rfl⟩ := ho1.shape
  generalize cut txt = ls at *
  go_wp2
  go_loopw [8, 9] (fun rv kv wr => ∃ (k : Nat) (acc : List (List UInt8)), k ≤ ls.length ∧ kv = .int .i64 k ∧ acc.length ≤ k ∧ Own wr w1.heap.size tStr rv acc ∧ Below w1.heap.size w1 wr ∧ Hid (qGo [32, 32, 32, 32] (ls.drop k) acc = qGo [32, 32, 32, 32] ls [])) (fun _ kv _ => ls.length - (intOf kv).toNat)
  case atStart => exact ⟨0, [], Nat.zero_le _, rfl, Nat.le_refl _, Own.nil _ _ _, Below.refl _ _, rfl⟩
  case round =>
    obtain ⟨k, acc, hk, rfl, hal, hoa, hbk, hr⟩ := hrel
    obtain ⟨wy, rfl⟩ : ∃ wy : World, wy = wr := ⟨_, rfl⟩
    obtain ⟨ro, rcap, rfl⟩ := hoa.shape
    have zk := hbk.size
    by_cases hkl : k < ls.length
    · obtain ⟨b5, o5, rfl, hb5', hc5⟩ := (ho1.below hbk).rdd.str k hkl
      have d5 := hc5 k hkl
      clear hc5
      have ik : (k : Int) < (ls.length : Int) := by omega
      have hr' := hr.out
      rw [qGo_at _ ls k acc hkl] at hr'
      clear hr
      have hxl : ls[k].length ≤ 4294967296 := by have := HRB2.out ls[k] (List.getElem_mem hkl); omega
      generalize ls[k] = x at *
      have HE : Hid (qGo [32, 32, 32, 32] (ls.drop (k + 1)) (acc ++ [[32, 32, 32, 32] ++ x]) = qGo [32, 32, 32, 32] ls []) := hr'
      clear hr'
      go_wp2_with (at_builtin; refine app1 tStr (.tmp 42) (.tmp 48) w1.heap.size _ acc hoa ([32, 32, 32, 32] ++ x) _ rfl rfl rfl rfl rfl rfl (by omega) (by omega) ?_)
      intro g6 cap6 w6 ho6 hgr6 hat6 hb6
      go_wp2
      go_roundw
      case rel => exact ⟨k + 1, acc ++ [[32, 32, 32, 32] ++ x], by omega, by go_num, by simp; omega, by first | exact ho6 | simpa using ho6, hbk.trans hb6, HE⟩
      case measure => simp [intOf]; omega
    · have ik : ¬ (k : Int) < (ls.length : Int) := by omega
      have HE : Hid (acc = qGo [32, 32, 32, 32] ls []) := by have := hr.out; rw [List.drop_of_length_le (by omega), qGo] at this; exact this
      go_wp2
      go_ret
      exact ⟨_, rfl, by rw [HW.out, HRB.out, ← HE.out]; exact hoa.base (by omega), (hb0.trans (hb1.mono za)).trans (hbk.mono (by omega))⟩
end Go.Proofs.Ybuaaw
