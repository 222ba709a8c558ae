import Derived.Test.YbuaawW28
import Derived.Test.YbuaawW23
import Derived.Test.YbuaawW26
import Derived.Test.YbuaawW10
import Derived.Test.YbuaawW4
import Derived.Deep.DeepCutAuto
namespace Go.Proofs.Ybuaaw
open Go.RowKit
attribute [local go_sem] mk_size mk_toList mk_getElem mk_extract take_len_drop mk_append_lit lit_append_mk

set_option maxRecDepth 100000 in
set_option maxHeartbeats 8000000 in
theorem rb52_head (lv : Int) (txt : List UInt8) (n : Int) (w : World) (hs : txt.length ≤ 67108864) (hn : n ≤ 9223372036854775807) :
    Calls Yaac.prog 52 #[.agg #[.int .i64 2, .int .i64 lv, .string (mk txt)], .int .i64 n] w fun e w' => ∃ v', e = .returned v' ∧ Own w' w.heap.size tStr v' (rblock (wid n) ⟨2, lv, txt⟩) ∧ Below w.heap.size w w' := by
  have hW0 := wid_pos n
  have hWm : wid n ≤ 9223372036854775807 := by unfold wid; split <;> omega
  have HRB : Hid (rblock (wid n) ⟨2, lv, txt⟩ = rlines (layout (wid n) (hdg (pq txt))) ++ [List.replicate (mxGo (rlines (layout (wid n) (hdg (pq txt)))) 0) (cL lv)]) := by rw [rblock, if_neg (by simp), if_neg (by simp), if_pos rfl]; rfl
  have hpq := pq_size txt
  go_enter Yaac.func52, Yaac.ntmps52
  go_upto_if 26 with (go_at_call 43; refine (widS_any n _).mono ?_; rintro e w' ⟨rfl, hw⟩; replace hw := hw.symm; subst hw)
  generalize hWn : wid n = W at *
  have HW : Hid (wid n = W) := hWn
  clear hWn
  go_cut [6] (fun iv wc => iv = .int .i64 (iw W : Nat) ∧ wc = w.alloc (.cells #[.int .i64 2, .int .i64 lv, .string (mk txt)] 39))
  case first =>
    by_cases h3 : 3 ≤ W
    · have h3b : (3 : Int) ≤ (W : Int) := by omega
      have HI : Hid ((iw W : Int) = (W : Int) - 2) := by unfold Hid iw; rw [if_pos h3]; omega
      go_wp2
      go_meet
      case rel => exact ⟨by rw [HI.out], rfl⟩
    · have h3b : ¬ (3 : Int) ≤ (W : Int) := by omega
      have HI : Hid ((iw W : Int) = 1) := by unfold Hid iw; rw [if_neg h3]; rfl
      go_wp2
      go_meet
      case rel => exact ⟨by rw [HI.out], rfl⟩
  case rest =>
  obtain ⟨rfl, hwc⟩ := hcut
  have hblk0 := heap_alloc_new w (.cells #[.int .i64 2, .int .i64 lv, .string (mk txt)] 39)
  have hb0 : Below w.heap.size w (w.alloc (.cells #[.int .i64 2, .int .i64 lv, .string (mk txt)] 39)) := (Below.refl _ _).alloc (Nat.le_refl _) _
  have hz0 : (w.alloc (.cells #[.int .i64 2, .int .i64 lv, .string (mk txt)] 39)).heap.size = w.heap.size + 1 := by simp
  rw [← hwc] at hblk0 hb0 hz0
  obtain ⟨wa, rfl⟩ : ∃ wa : World, wa = wc := ⟨_, rfl⟩
  have HZ0 : Hid (wa.heap.size = w.heap.size + 1) := hz0
  have za : w.heap.size ≤ wa.heap.size := by omega
  clear hwc hz0
  have x0 := blk_cell (j := 0) hblk0 rfl
  have x1 := blk_cell (j := 1) hblk0 rfl
  have x2 := blk_cell (j := 2) hblk0 rfl
  have hsz := lay_size W hW0 (hdg (pq txt))
  have hrs := rl_size W hW0 (hdg (pq txt))
  have hdl := hdg_len (pq txt)
  have hdt := hdg_tlen (pq txt)
  rw [hdt] at hsz hrs
  have HDL : Hid ((hdg (pq txt)).length = (pq txt).length) := hdl
  have HDT : Hid (tlen (hdg (pq txt)) = tlen (pq txt)) := hdt
  clear hdl hdt
  go_wp2_with fail
  refine (pS_any txt _ (by omega)).mono ?_
  rintro e w1 ⟨v1, rfl, ho1, hb1⟩
  have z1 := hb1.size
  obtain ⟨qo, qcap, rfl⟩ := ho1.shape
  generalize hq : pq txt = q at *
  have HQ : Hid (pq txt = q) := hq
  clear hq x0 x1 x2
  go_wp2
  go_loopw [12] (fun kv wr => ∃ (k : Nat), k ≤ q.length ∧ kv = .int .i64 k ∧ OwnR wr wa.heap.size tInl (.slice qo q.length qcap) (hdK q k) ∧ Below wa.heap.size wa wr) (fun kv _ => q.length - (intOf kv).toNat)
  case atStart => exact ⟨0, Nat.zero_le _, rfl, by rw [hdK_zero]; exact ho1, hb1⟩
  case round =>
    obtain ⟨k, hk, rfl, hoq, hbk⟩ := hrel
    obtain ⟨wy, rfl⟩ : ∃ wy : World, wy = wr := ⟨_, rfl⟩
    have zk := hbk.size
    by_cases hkl : k < q.length
    · have ik : (k : Int) < (q.length : Int) := by omega
      have hkK : k < (hdK q k).length := by rw [hdK_len]; exact hkl
      obtain ⟨b5, o5, rfl, hb5', hc5⟩ := hoq.rdd.inl k hkK
      have hd5 := hc5 k hkK
      rw [hdK_at q k hkl] at hd5
      clear hc5
      obtain ⟨f1, f2, f3⟩ := hd5
      have hg5 : wa.heap.size ≤ b5 := OwnR.blk_ge hoq (by rw [hdK_len]; omega)
      have hf5 : wy.frozen? ⟨b5, o5 + k * 3 + 1, none⟩ = false := OwnR.notFrozen hoq (by rw [hdK_len]; omega) _
      by_cases hk0 : q[k].kind = 0
      · have hkb : (q[k].kind == 0) = true := beq_iff_eq.2 hk0
        have hst := hoq.set k hkK (hd1 q[k]) 1 (.int .i64 1) (by simp [tInl]) (by rw [hdK_at q k hkl]; simp [tInl, hd1, hk0])
        rw [hdK_step q k hkl] at hst
        simp only [tInl] at hst
        rw [show o5 + (k * 3 + 1) = o5 + k * 3 + 1 by omega] at hst
        clear hk0
        generalize q[k].kind = kd5 at *
        generalize q[k].style = sty5 at *
        go_wp2
        go_roundw
        case rel => exact ⟨k + 1, by omega, by go_num, hst, hbk.setCell hg5 _⟩
        case measure => simp [intOf]; omega
      · have hkb : (q[k].kind == 0) = false := beq_eq_false_iff_ne.2 hk0
        rw [hdK_same q k hkl hk0] at hoq
        clear hk0
        go_wp2
        go_roundw
        case rel => exact ⟨k + 1, by omega, by go_num, hoq, hbk⟩
        case measure => simp [intOf]; omega
    · have ik : ¬ (k : Int) < (q.length : Int) := by omega
      rw [hdK_end q k (by omega)] at hoq
      generalize hh : hdg q = hq at *
      have HH : Hid (hdg q = hq) := hh
      clear hh
      go_wp2_with fail
      refine (layoutS_any hq ((W : Nat) : Int) _ wy.heap.size _ (Nat.le_refl _) hoq.rdd (by rw [HDL.out]; omega) (by rw [HDT.out]; omega) (by omega)).mono ?_
      rw [wid_nat W hW0]
      rintro e w2 ⟨v2, rfl, ho2, hb2⟩
      have z2 := hb2.size
      go_wp2_with fail
      refine (renderLinesS_any _ _ w2.heap.size _ (Nat.le_refl _) ho2.rdd (by omega) (by omega)).mono ?_
      rintro e w3 ⟨v3, rfl, ho3, hb3⟩
      have z3 := hb3.size
      have hba3 : Below wa.heap.size wa w3 := (hbk.trans (hb2.mono zk)).trans (hb3.mono (by omega))
      have za3 := hba3.size
      obtain ⟨lo, lcap, rfl⟩ := ho3.shape
      obtain ⟨hrl, hrb⟩ := hrs
      have HRB2 : Hid (∀ l ∈ rlines (layout W hq), l.length ≤ 2 * tlen q) := hrb
      have HMX : Hid (mxGo (rlines (layout W hq)) 0 ≤ 2 * tlen q) := mxGo_le _ _ _ (Nat.zero_le _) hrb
      have ho3' := ho3.base (show wa.heap.size ≤ w2.heap.size by omega)
      have hblk3 := blk_below hba3 hblk0
      have x1 := blk_cell (j := 1) hblk3 rfl
      clear ho2 hb2 hb3 hrb ho3 hoq hbk
      generalize rlines (layout W hq) = ls at *
      go_wp2
      go_loop [14, 15] (fun mv kv => ∃ (k m : Nat), k ≤ ls.length ∧ kv = .int .i64 k ∧ mv = .int .i64 m ∧ m ≤ 4294967296 ∧ Hid (mxGo (ls.drop k) m = mxGo ls 0)) (fun _ kv => ls.length - (intOf kv).toNat)
      case atStart => exact ⟨0, 0, Nat.zero_le _, rfl, rfl, by omega, rfl⟩
      case round =>
        obtain ⟨k3, m, hk3, rfl, rfl, hm, hr⟩ := hrel
        by_cases hkl3 : k3 < ls.length
        · obtain ⟨b5, o5, rfl, hb5', hc5⟩ := ho3'.rdd.str k3 hkl3
          have d5 := hc5 k3 hkl3
          clear hc5
          have ik3 : (k3 : Int) < (ls.length : Int) := by omega
          have hll := HRB2.out ls[k3] (List.getElem_mem hkl3)
          have hr' := hr.out
          rw [mxGo_at ls k3 m hkl3] at hr'
          clear hr
          generalize ls[k3] = x at *
          by_cases hgt : m < x.length
          · have hgb : (m : Int) < (x.length : Int) := by omega
            rw [if_pos hgt] at hr'
            have HE : Hid (mxGo (ls.drop (k3 + 1)) x.length = mxGo ls 0) := hr'
            clear hr'
            go_wp2
            go_round
            case rel => exact ⟨k3 + 1, x.length, by omega, by go_num, by go_num, by omega, HE⟩
            case measure => simp [intOf]; omega
          · have hgb : ¬ (m : Int) < (x.length : Int) := by omega
            rw [if_neg hgt] at hr'
            have HE : Hid (mxGo (ls.drop (k3 + 1)) m = mxGo ls 0) := hr'
            clear hr'
            go_wp2
            go_round
            case rel => exact ⟨k3 + 1, m, by omega, by go_num, by go_num, by omega, HE⟩
            case measure => simp [intOf]; omega
        · have ik3 : ¬ (k3 : Int) < (ls.length : Int) := by omega
          have hr' := hr.out
          rw [List.drop_of_length_le (by omega), mxGo] at hr'
          have HM : Hid (m = mxGo ls 0) := hr'
          clear hr hr'
          go_upto_if 104 with fail
          go_cut [16] (fun cv wc => cv = .int .u8 (cL lv).toNat ∧ wc = w3)
          case first =>
            by_cases h1 : lv = 1
            · have h1b : (lv == 1) = true := beq_iff_eq.2 h1
              have HC : Hid (cL lv = 61) := by unfold Hid cL; rw [if_pos h1]
              clear h1
              go_wp2
              go_meet
              case rel => exact ⟨by rw [HC.out]; rfl, rfl⟩
            · have h1b : (lv == 1) = false := beq_eq_false_iff_ne.2 h1
              have HC : Hid (cL lv = 45) := by unfold Hid cL; rw [if_neg h1]
              go_wp2
              go_meet
              case rel => exact ⟨by rw [HC.out]; rfl, rfl⟩
          case rest =>
          obtain ⟨rfl, hwc⟩ := hcut
          replace hwc := hwc.symm
          subst hwc
          rw [← HM.out] at HRB
          generalize cL lv = cc at *
          go_wp2_with fail
          refine (repeatS_any cc m _ (by omega)).mono ?_
          rintro e w4 ⟨rfl, hb4⟩
          have z4 := hb4.size
          have ho4 := ho3'.below hb4
          go_wp2_with (at_builtin; refine app1 tStr (.tmp 105) (.tmp 109) wa.heap.size _ ls ho4 (List.replicate m cc) _ rfl rfl rfl rfl rfl rfl (by omega) (by omega) ?_)
          intro g6 cap6 w6 ho6 hgr6 hat6 hb6
          go_wp2
          go_ret
          exact ⟨_, rfl, by rw [HW.out, HRB.out]; first | exact ho6.base za | simpa using ho6.base za, ((hb0.trans (hba3.mono za)).trans (hb4.mono (by omega))).trans (hb6.mono za)⟩
end Go.Proofs.Ybuaaw
