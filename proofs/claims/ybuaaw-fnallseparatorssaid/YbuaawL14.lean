import Derived.Test.YbuaawW3
import Derived.Test.YbuaawW5
import Derived.Test.YbuaawW38
import Derived.Deep.DeepCutAuto
namespace Go.Proofs.Ybuaaw
open Go.RowKit
attribute [local go_sem] mk_size mk_toList mk_getElem mk_extract take_len_drop mk_append_lit lit_append_mk

theorem i64_mx {n : Int} (h : (Lit.int .i64 n).wf = true) : n ≤ 9223372036854775807 := by
  have hmax : IntKind.i64.max = 9223372036854775807 := rfl
  simp only [Lit.wf, Bool.and_eq_true, decide_eq_true_eq] at h
  omega
/-- append(s, x...), x a slice with something in it -/
theorem appL {α : Type} (T : ET α) {ops : Array Oper} {rest : List Oper} {o : Oper} {a : Act} {Q : Exit → Act → World → Prop} {w : World} (s x : Operand)
    (B : Nat) (v : Value) (l : List α) (hown : Own w B T v l) (xv : Value) (ys : List α) (hys : Rdd w w.heap.size T xv ys) (hp : 0 < ys.length)
    (hgd : o.guard = none) (ho : o.op = .call { callee := .builtin .append, args := #[s, x], argTypes := #[T.t, T.t] }) (hs : a.eval s = v)
    (hx : a.eval x = xv) (hn : l.length + ys.length < 1099511627776) (hB : B ≤ w.heap.size)
    (h : ∀ g cap w', Own w' B T (.slice (some ⟨g, 0, none⟩) (l.length + ys.length) cap) (l ++ ys) → w.grownBy w' v.ownBlock → Below B w w' →
      wpList Yaac.prog ops Q rest (a.put o.dst (.slice (some ⟨g, 0, none⟩) (l.length + ys.length) cap)) w') : wpList Yaac.prog ops Q (o :: rest) a w := by
  obtain ⟨i, hi, hz0, hz1, hz2⟩ := info_parts T.hi
  have hb64 := T.hby
  have hb1 : (l.length + ys.length) * T.bytes ≤ 1099511627776 * 64 := Nat.mul_le_mul (by omega) hb64
  obtain ⟨hy1, ao, cap0, rfl, hy2, hy3, hy4⟩ := hys
  rcases hy4 with hy4 | ⟨b, off, rfl, hb, hc⟩
  · exfalso
    have e := cells_length T ys
    rw [hy4] at e
    have := Nat.mul_pos hp T.hsz
    simp at e
    omega
  · refine wpList_append_lies w hgd s x T.t ho B T.e i T.zero T.size T.bytes T.ht hi hz0 hz1 hz2 T.hzs T.hsz v l.length (cells T l) hs hown ⟨b, off, none⟩ ys.length cap0 (cells T ys) hx (by rw [cells_length]) ?_ (cells_oneCell T ys) hp ?_ (by omega) hB w.heap.size rfl ?_
    · intro j u hu
      rw [add_lit]
      exact hc j u hu
    · unfold maxLen; omega
    · intro g cap w' ho' hgr hat hlt
      refine h g cap w' ?_ hgr (below_of_grown hgr hB fun k hk => (World.ownsRow.lt hown k hk).1)
      unfold Own
      rw [cells_append, List.length_append]
      exact ho'
theorem Own.keptLow {α β : Type} {T : ET α} {T' : ET β} {w w' : World} {B B' : Nat} {v v' : Value} {l : List α} {l' : List β} (h : Own w B T v l) (h' : Own w B' T' v' l') (hlow : ∀ k, v'.ownBlock = some k → k < B) (hg : w.grownBy w' v'.ownBlock) : Own w' B T v l := by
  have _ := h'
  refine h.kept hg ?_
  cases e : v.ownBlock with
  | none => exact .inl rfl
  | some k =>
    refine .inr fun e2 => ?_
    have h1 := (h.lt e).1
    have h2 := hlow k e2.symm
    omega
theorem bln_take (bs : List Blk) (k : Nat) (hk : k < bs.length) : bln (bs.take (k + 1)) = bln (bs.take k) + bs[k].text.length + 1 := by
  rw [List.take_succ_eq_append_getElem hk, bln_app]; simp [bln]; omega
theorem bln_take_len (bs : List Blk) (k : Nat) (h : k ≤ bs.length) : k ≤ bln (bs.take k) := by
  have := bln_cnt (bs.take k)
  simp at this; omega

set_option maxRecDepth 100000 in
set_option maxHeartbeats 8000000 in
theorem fnAllSeparators_walkL (bs : List Blk) (v : Value) (d : List UInt8) (n : Int) (w : World) (h1 : Rdd w w.heap.size tBlk v bs) (ht : ∀ p ∈ bs, p.text.length ≤ 140737488355328) (hd : d.length ≤ 9223372036854775807) (hn : n ≤ 9223372036854775807) :
    Calls Yaac.prog 14 #[v, .string (mk d), .int .i64 n] w fun e w' => e = .returned (.bool true) ∧ Below w.heap.size w w' := by
  have hl := h1.len_le
  unfold maxLen at hl
  obtain ⟨a1, c1, rfl, _, _⟩ := h1.shape
  by_cases hdb : 1048576 < d.length
  · have hdn : (1048576 : Int) < (d.length : Int) := by omega
    go_enter Yaac.func14, Yaac.ntmps14
    go_wp2
    go_ret
    exact ⟨rfl, Below.refl _ _⟩
  have hdn : ¬ (1048576 : Int) < (d.length : Int) := by omega
  by_cases hbig : 1048576 < bs.length
  · have hne : (1048576 : Int) < (bs.length : Int) := by omega
    go_enter Yaac.func14, Yaac.ntmps14
    go_wp2
    go_ret
    exact ⟨rfl, Below.refl _ _⟩
  have hne : ¬ (1048576 : Int) < (bs.length : Int) := by omega
  go_enter Yaac.func14, Yaac.ntmps14
  go_wp2
  go_loop [7, 8] (fun sz i => ∃ (k t : Nat), k ≤ bs.length ∧ i = .int .i64 k ∧ sz = .int .i64 ((bs.length + t : Nat) : Int) ∧ bs.length + t ≤ 1048576 ∧ Hid (t + k = bln (bs.take k))) (fun _ i => bs.length - (intOf i).toNat)
  case atStart => exact ⟨0, 0, Nat.zero_le _, rfl, by simp, by omega, by simp [Hid, bln]⟩
  case round =>
    obtain ⟨k, t, hk, rfl, rfl, hsz, HT⟩ := hrel
    by_cases hlt : k < bs.length
    · obtain ⟨b1, o1, rfl, hb1, hc1⟩ := h1.blk k hlt
      obtain ⟨d1, d2, d3⟩ := hc1 k hlt
      clear hc1
      have i1 : (k : Int) < (bs.length : Int) := by omega
      have hlen := ht bs[k] (List.getElem_mem hlt)
      have HTK : Hid (bln (bs.take (k + 1)) = bln (bs.take k) + bs[k].text.length + 1) := bln_take bs k hlt
      by_cases hov : 1048576 < bs.length + t + bs[k].text.length
      · have hov' : (1048576 : Int) < ((bs.length + t : Nat) : Int) + (bs[k].text.length : Int) := by omega
        go_wp2
        go_ret
        exact ⟨rfl, Below.refl _ _⟩
      · have hov' : ¬ (1048576 : Int) < ((bs.length + t : Nat) : Int) + (bs[k].text.length : Int) := by omega
        go_wp2
        go_round
        case rel => exact ⟨k + 1, t + bs[k].text.length, by omega, by go_num, by go_num, by omega, by unfold Hid; rw [HTK.out, ← HT.out]; omega⟩
        case measure => simp [intOf]; omega
    · have hbl : bln bs ≤ 2097152 := by have := HT.out; rw [List.take_of_length_le (by omega)] at this; omega
      have hsz' : ¬ (1048576 : Int) < ((bs.length + t : Nat) : Int) := by omega
      clear HT
      have hW0 := wid_pos n
      have htx : ∀ p ∈ bs, p.text.length ≤ 4294967296 := fun p hp => by have := bln_mem bs p hp; omega
      have HRL : Hid (gGo (lnGo (wid n) bs 0 []) [] = rall (wid n) bs) := rall_ln (wid n) bs
      have HGZ : Hid (grGo (wid n) bs 0 = 0 → rall (wid n) bs = []) := grGo_zero (wid n) bs
      have hltot := lnGo_tot (wid n) hW0 bs 0 []
      have hrlen := rall_len (wid n) hW0 bs
      have HRT : Hid (∀ b : Blk, b ∈ bs → tot (rblock (wid n) b) ≤ 67108864 * 100) := fun b hb => Nat.le_trans (rblock_tot _ hW0 b) (by have := bln_mem bs b hb; omega)
      simp only [tot] at hltot
      clear ht
      go_wp2_with fail
      refine (cpBlocks_any bs _ w.heap.size _ (Nat.le_refl _) h1 (by omega) htx).mono ?_
      rintro e w1 ⟨v1, rfl, ho1, hb1⟩
      have z1 := hb1.size
      go_wp2_with fail
      refine (renderAll_any bs _ n w1.heap.size _ (Nat.le_refl _) ho1.rdd (by omega) hn).mono ?_
      rintro e w2 ⟨rfl, hb2⟩
      have z2 := hb2.size
      have hb02 : Below w.heap.size w w2 := hb1.trans (hb2.mono z1)
      go_wp2_with fail
      refine (renderAllS_any bs _ n w.heap.size _ (by omega) (h1.below hb02) (by omega) hn).mono ?_
      rintro e w3 ⟨rfl, hb3⟩
      have z3 := hb3.size
      have hb03 : Below w.heap.size w w3 := hb02.trans (hb3.mono (by omega))
      have z03 := hb03.size
      clear ho1 hb1 hb2 hb3 hb02
      generalize hWn : wid n = W at *
      have HW : Hid (wid n = W) := hWn
      clear hWn
      go_wp2
      go_loopw [10, 11, 12] (fun lv gv kv wr => ∃ (k g : Nat) (ls : List (List UInt8)), k ≤ bs.length ∧ g ≤ k ∧ kv = .int .i64 k ∧ gv = .int .i64 g ∧ Own wr w3.heap.size tStr lv ls ∧ Below w3.heap.size w3 wr ∧ Hid (lnGo W (bs.drop k) g ls = lnGo W bs 0 []) ∧ Hid (grGo W (bs.drop k) g = grGo W bs 0)) (fun _ _ kv _ => bs.length - (intOf kv).toNat)
      case atStart => exact ⟨0, 0, [], Nat.zero_le _, Nat.le_refl _, rfl, rfl, Own.nil _ _ _, Below.refl _ _, rfl, rfl⟩
      case round =>
        obtain ⟨k, g, ls, hk, hgk, rfl, rfl, hols, hbk, hr, hrg⟩ := hrel
        obtain ⟨wx, rfl⟩ : ∃ wx : World, wx = wr := ⟨_, rfl⟩
        obtain ⟨lo, lcap, rfl⟩ := hols.shape
        have zk := hbk.size
        have hlst : tot ls ≤ tot (lnGo W bs 0 []) := by rw [← hr.out]; exact lnGo_pre _ _ _ _
        have hlsc := tot_cnt ls
        by_cases hlt : k < bs.length
        · obtain ⟨b1, o1, rfl, hb1, hc1⟩ := ((h1.below hb03).below (hbk.mono z03)).blk k hlt
          have hd5 := hc1 k hlt
          clear hc1
          have i1 : (k : Int) < (bs.length : Int) := by omega
          have hr' := hr.out
          rw [lnGo_at W bs k g ls hlt] at hr'
          have hrg' := hrg.out
          rw [grGo_at W bs k g hlt] at hrg'
          have hbm := bln_mem bs bs[k] (List.getElem_mem hlt)
          have HC : Hid (∀ ww : World, Calls Yaac.prog 51 #[.agg #[.int .i64 bs[k].kind, .int .i64 bs[k].level, .string (mk bs[k].text)], .int .i64 n] ww fun e w' => ∃ v', e = .returned v' ∧ Own w' ww.heap.size tStr v' (rblock W bs[k]) ∧ Below ww.heap.size ww w') := fun ww => by
            have := renderBlock_any bs[k] n ww (by omega) hn
            rw [HW.out] at this
            exact this
          have hrt := HRT.out bs[k] (List.getElem_mem hlt)
          clear hr hrg
          generalize rblock W bs[k] = gs at *
          generalize bs[k] = b at *
          obtain ⟨kd, lv, txt⟩ := b
          obtain ⟨d1, d2, d3⟩ := hd5
          simp only at d1 d2 d3 hbm HC
          have hgc := tot_cnt gs
          go_wp2_with fail
          refine (HC.out _).mono ?_
          rintro e w4 ⟨v4, rfl, ho4, hb4⟩
          have z4 := hb4.size
          obtain ⟨go4, gcap, rfl⟩ := ho4.shape
          have hols4 := hols.below hb4
          have hbw4 : Below w3.heap.size w3 w4 := hbk.trans (hb4.mono zk)
          have HLOW : Hid (∀ j, (Value.slice lo ls.length lcap).ownBlock = some j → j < wx.heap.size) := fun j hj => (hols.lt hj).2
          clear hols hbk hb4
          by_cases hg0 : gs = []
          · have hgb : ((gs.length : Int) == 0) = true := by rw [hg0]; rfl
            rw [if_pos hg0] at hr' hrg'
            have HE : Hid (lnGo W (bs.drop (k + 1)) g ls = lnGo W bs 0 []) := hr'
            have HG : Hid (grGo W (bs.drop (k + 1)) g = grGo W bs 0) := hrg'
            clear hr' hrg' hg0
            go_wp2
            go_roundw
            case rel => exact ⟨k + 1, g, ls, by omega, by omega, by go_num, by go_num, hols4, hbw4, HE, HG⟩
            case measure => simp [intOf]; omega
          · have hgp : 0 < gs.length := by cases gs with | nil => exact absurd rfl hg0 | cons _ _ => simp
            have hgb : ((gs.length : Int) == 0) = false := beq_eq_false_iff_ne.2 (by omega)
            rw [if_neg hg0] at hr' hrg'
            have HE : Hid (lnGo W (bs.drop (k + 1)) (g + 1) ((if 0 < g then ls ++ [[]] else ls) ++ gs) = lnGo W bs 0 []) := hr'
            have HG : Hid (grGo W (bs.drop (k + 1)) (g + 1) = grGo W bs 0) := hrg'
            have hlst2 : tot ((if 0 < g then ls ++ [[]] else ls) ++ gs) ≤ tot (lnGo W bs 0 []) := by rw [← HE.out]; exact lnGo_pre _ _ _ _
            have hlc2 := tot_cnt ((if 0 < g then ls ++ [[]] else ls) ++ gs)
            clear hr' hrg' hg0
            go_upto_if 68 with fail
            go_cut [10] (fun ov wc => ∃ ls', Hid (ls' = if 0 < g then ls ++ [[]] else ls) ∧ Own wc w3.heap.size tStr ov ls' ∧ Own wc wx.heap.size tStr (.slice go4 gs.length gcap) gs ∧ Below w3.heap.size w3 wc)
            case first =>
              by_cases hg : 0 < g
              · have hgb2 : (0 : Int) < (g : Int) := by omega
                go_wp2_with (at_builtin; refine app1 tStr (.tmp 69) (.tmp 70) w3.heap.size _ ls hols4 [] _ rfl rfl rfl rfl rfl rfl (by omega) (by omega) ?_)
                intro g5 cap5 w5 ho5 hgr5 hat5 hb5
                go_wp2
                go_meet
                case rel => exact ⟨ls ++ [[]], by unfold Hid; rw [if_pos hg], by first | exact ho5 | simpa using ho5, ho4.keptLow hols4 HLOW.out hgr5, hbw4.trans hb5⟩
              · have hgb2 : ¬ (0 : Int) < (g : Int) := by omega
                go_wp2
                go_meet
                case rel => exact ⟨ls, by unfold Hid; rw [if_neg hg], hols4, ho4, hbw4⟩
            case rest =>
            obtain ⟨ls2, HL2, hols5, ho5, hb5⟩ := hcut
            obtain ⟨l2o, l2cap, rfl⟩ := hols5.shape
            rw [← HL2.out] at HE hlst2 hlc2
            have z5 := hb5.size
            simp only [List.length_append] at hlc2
            clear HL2 hols4 ho4 hbw4 HLOW
            go_wp2_with (at_builtin; refine appL tStr (.tmp 72) (.tmp 73) w3.heap.size _ ls2 hols5 _ gs ho5.rdd hgp rfl rfl rfl rfl (by omega) (by omega) ?_)
            intro g6 cap6 w6 ho6 hgr6 hb6
            go_wp2
            go_roundw
            case rel => exact ⟨k + 1, g + 1, ls2 ++ gs, by omega, by omega, by go_num, by go_num, by first | exact ho6 | simpa using ho6, hb5.trans hb6, HE, HG⟩
            case measure => simp [intOf]; omega
        · have i1 : ¬ (k : Int) < (bs.length : Int) := by omega
          have hr' := hr.out
          rw [List.drop_of_length_le (by omega), lnGo] at hr'
          have hrg' := hrg.out
          rw [List.drop_of_length_le (by omega), grGo] at hrg'
          rw [← hr'] at HRL hltot
          rw [← hrg'] at HGZ
          clear hr hrg hr' hrg'
          go_wp2
          go_loopw [14, 15] (fun ov jv wr => ∃ (j : Nat) (ac : List UInt8), j ≤ ls.length ∧ jv = .int .i64 j ∧ Own wr w3.heap.size tByte ov ac ∧ Own wr w3.heap.size tStr (.slice lo ls.length lcap) ls ∧ Below w3.heap.size w3 wr ∧ Hid (gGo (ls.drop j) ac = rall W bs)) (fun _ jv _ => ls.length - (intOf jv).toNat)
          case atStart => exact ⟨0, [], Nat.zero_le _, rfl, Own.nil _ _ _, hols, hbk, HRL⟩
          case round =>
            clear hols hbk
            obtain ⟨j, ac, hj, rfl, hown3, ho3, hb3, hr3⟩ := hrel
            obtain ⟨wy, rfl⟩ : ∃ wy : World, wy = wr := ⟨_, rfl⟩
            obtain ⟨ao3, acap3, rfl⟩ := hown3.shape
            have z3' := hb3.size
            by_cases hjl : j < ls.length
            · obtain ⟨b5, o5, rfl, hb5', hc5⟩ := ho3.rdd.str j hjl
              have d5 := hc5 j hjl
              clear hc5
              have ij : (j : Int) < (ls.length : Int) := by omega
              have hr4 := hr3.out
              rw [gGo_at ls j ac hjl] at hr4
              have hac : (ac ++ ls[j] ++ [10]).length ≤ (rall W bs).length := by rw [← hr4]; exact gGo_ge _ _
              clear hr3
              generalize ls[j] = x at *
              have HE3 : Hid (gGo (ls.drop (j + 1)) (ac ++ x ++ [10]) = rall W bs) := hr4
              simp only [List.length_append, List.length_cons, List.length_nil] at hac
              clear hr4
              go_wp2_with (at_builtin; refine appS (.tmp 83) (.tmp 87) w3.heap.size _ ac hown3 x rfl rfl rfl rfl (by omega) (by omega) ?_)
              intro ao6 cap6 w6 ho6 hgr6 hb6
              have z6 := hb6.size
              have hol6 := ho3.apart hown3 hgr6 (by simp [tByte, tStr])
              go_wp2_with (at_builtin; refine app1 tByte (.tmp 89) (.tmp 90) w3.heap.size _ (ac ++ x) ho6 10 _ rfl rfl rfl rfl rfl rfl (by simp; omega) (by omega) ?_)
              intro g7 cap7 w7 ho7 hgr7 hat7 hb7
              have hol7 := hol6.apart ho6 hgr7 (by simp [tByte, tStr])
              go_wp2
              go_roundw
              case rel => exact ⟨j + 1, ac ++ x ++ [10], by omega, by go_num, by first | exact ho7 | simpa using ho7, hol7, (hb3.trans hb6).trans hb7, HE3⟩
              case measure => simp [intOf]; omega
            · have ij : ¬ (j : Int) < (ls.length : Int) := by omega
              have hfin := hr3.out
              rw [List.drop_of_length_le (by omega : ls.length ≤ j), gGo] at hfin
              have hcv := conv_own hown3
              have HF : Hid (ac = rall W bs) := hfin
              rw [← HF.out] at HGZ ⊢
              clear hr3 hfin
              have hbF : Below w.heap.size w wy := hb03.trans (hb3.mono z03)
              have zF := hbF.size
              have HR16 : Hid (∀ ww : World, Calls Yaac.prog 16 #[.string (mk d), .int .i64 n] ww fun e w' => e = .returned (.string (mk (rall (wid n) (pblocks d)))) ∧ Below ww.heap.size ww w') := fun ww => render_any d n ww (by omega) hn
              have HR15 : Hid (∀ ww : World, Calls Yaac.prog 15 #[.string (mk d), .int .i64 n] ww fun e w' => e = .returned (.string (mk (rall (wid n) (pblocks d)))) ∧ Below ww.heap.size ww w') := fun ww => renderS_any d n ww (by omega) hn
              have hpb := pblocks_bln d
              go_upto_region 37 with fail
              go_cut [101] (fun hv wc => hv = .bool false ∧ wc = wy)
              case first =>
                by_cases hg : g = 0
                · have hgb : ((g : Int) == 0) = true := beq_iff_eq.2 (by omega)
                  have hac0 := HGZ.out hg
                  have HAE : Hid (ac.isEmpty = true) := by unfold Hid; rw [hac0]; rfl
                  clear hg hac0
                  go_wp2
                  go_meet
                  case rel => exact ⟨by rw [HAE.out]; rfl, rfl⟩
                · have hgb : ((g : Int) == 0) = false := beq_eq_false_iff_ne.2 (by omega)
                  go_wp2
                  go_meet
                  case rel => exact ⟨rfl, rfl⟩
              case rest =>
              obtain ⟨rfl, hwc⟩ := hcut
              replace hwc := hwc.symm
              subst hwc
              go_wp2_with fail
              refine (HR16.out _).mono ?_
              rintro e w8 ⟨rfl, hb8⟩
              have z8 := hb8.size
              go_wp2_with fail
              refine (HR15.out _).mono ?_
              rintro e w9 ⟨rfl, hb9⟩
              have z9 := hb9.size
              go_wp2_with fail
              refine (HR16.out _).mono ?_
              rintro e w10 ⟨rfl, hb10⟩
              have z10 := hb10.size
              go_wp2_with fail
              refine (parseBlocks_any d _ (by omega)).mono ?_
              rintro e w11 ⟨v11, rfl, ho11, hb11⟩
              have z11 := hb11.size
              go_wp2_with fail
              refine (renderAll_any (pblocks d) _ n w11.heap.size _ (Nat.le_refl _) ho11.rdd (by omega) hn).mono ?_
              rintro e w12 ⟨rfl, hb12⟩
              have z12 := hb12.size
              go_wp2
              go_ret
              exact ⟨by simp, ((((hbF.trans (hb8.mono zF)).trans (hb9.mono (by omega))).trans (hb10.mono (by omega))).trans (hb11.mono (by omega))).trans (hb12.mono (by omega))⟩

theorem fnAllSeparators_walk (bs : List Blk) (v : Value) (a1 : ByteArray) (n : Int) (w : World) (h1 : Rdd w w.heap.size tBlk v bs) (ht : ∀ p ∈ bs, p.text.length ≤ 140737488355328) (ha : a1.size ≤ maxLen) (hwf : (Lit.int .i64 n).wf = true) :
    Calls Yaac.prog 14 #[v, .string a1, .int .i64 n] w fun e w' => e = .returned (.bool true) ∧ Below w.heap.size w w' := by
  have hn := i64_mx hwf
  rw [← mk_of a1]
  have e1 : a1.size = a1.toList.length := by rw [← mk_size, mk_of]
  rw [e1] at ha
  unfold maxLen at ha
  exact fnAllSeparators_walkL bs v a1.toList n w h1 ht (by omega) hn
end Go.Proofs.Ybuaaw
