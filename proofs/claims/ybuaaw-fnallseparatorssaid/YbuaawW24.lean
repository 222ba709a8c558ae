import Derived.Test.YbuaawW23
import Derived.Test.YbuaawPlain11
import Derived.Test.YbuaawMem4
import Derived.Deep.DeepCutAuto
namespace Go.Proofs.Ybuaaw
open Go.RowKit
attribute [local go_sem] mk_size mk_toList mk_getElem mk_extract take_len_drop mk_append_lit

def goOn (ps : List Inl) (i : Nat) : Bool := if h : i < ps.length then decide (ps[i].kind ≠ 1) else false
theorem goOn_no (ps : List Inl) (i : Nat) (h : ¬ i < ps.length) : goOn ps i = false := by unfold goOn; rw [dif_neg h]
theorem goOn_at (ps : List Inl) (i : Nat) (h : i < ps.length) : goOn ps i = decide (ps[i].kind ≠ 1) := by unfold goOn; rw [dif_pos h]
theorem goOn_lt (ps : List Inl) (i : Nat) (h : goOn ps i = true) : ∃ hi : i < ps.length, ps[i].kind ≠ 1 := by
  unfold goOn at h
  split at h
  · rename_i hi; exact ⟨hi, by simpa using h⟩
  · cases h
theorem goOn_stop (ps : List Inl) (i : Nat) (h : goOn ps i = false) : ∀ hi : i < ps.length, ps[i].kind = 1 := by
  intro hi
  rw [goOn_at ps i hi] at h
  simpa using h
theorem tlen_take' (ps : List Inl) (k : Nat) (hk : k < ps.length) : tlen (ps.take (k + 1)) = tlen (ps.take k) + ps[k].text.length := by
  rw [List.take_succ_eq_append_getElem hk, tlen_append]; simp [tlen]
theorem take_min' (l : List UInt8) (a : Nat) : l.take (min a l.length) = l.take a := by
  by_cases h : a ≤ l.length
  · rw [Nat.min_eq_left h]
  · rw [Nat.min_eq_right (by omega), List.take_length, List.take_of_length_le (by omega)]
theorem drop_min' (l : List UInt8) (a : Nat) : l.drop (min a l.length) = l.drop a := by
  by_cases h : a ≤ l.length
  · rw [Nat.min_eq_left h]
  · rw [Nat.min_eq_right (by omega), List.drop_length, List.drop_of_length_le (by omega)]
theorem ch_at (W : Nat) (st : Bool) (kd sty : Int) (t : List UInt8) (ms : List Inl) (pos off tk : Nat) (hW : 0 < W) (ho : off < t.length) (htk : tk = min (W - pos % W) (t.length - off)) :
    ch W st (⟨kd, sty, t.drop off⟩ :: ms) pos = ⟨brC W st pos, kd, sty, (t.drop off).take tk⟩ :: ch W st (⟨kd, sty, t.drop (off + tk)⟩ :: ms) (pos + tk) := by
  have hl : (t.drop off).length = t.length - off := List.length_drop ..
  rw [ch_step W st kd sty (t.drop off) ms pos hW (fun e => by rw [e] at hl; simp at hl; omega), hl, ← htk]
  have e1 : (t.drop off).take (W - pos % W) = (t.drop off).take tk := by rw [htk, ← hl, take_min']
  have e2 : (t.drop off).drop (W - pos % W) = t.drop (off + tk) := by rw [← List.drop_drop, htk, ← hl, drop_min']
  rw [e1, e2]
theorem addW_ne (ms : List Inl) (h : ms ≠ []) : addW [] ms = [ms] := by unfold addW; rw [if_neg h]; rfl
theorem chunk_eq (pos W : Nat) (hW : 0 < W) : ((pos : Int) / (W : Int) + 1) * (W : Int) = ((pos + (W - pos % W) : Nat) : Int) := by
  have h1 := Nat.div_add_mod pos W
  have h2 := Nat.mod_lt pos hW
  have h3 : (pos / W + 1) * W = pos + (W - pos % W) := by rw [Nat.add_mul, Nat.one_mul, Nat.mul_comm]; omega
  rw [← h3]; simp

set_option maxRecDepth 100000 in
set_option maxHeartbeats 16000000 in
theorem layout_any (ps : List Inl) (n : Int) (v : Value) (B : Nat) (w : World) (hB : B ≤ w.heap.size) (h1 : Rdd w B tInl v ps) (hs : ps.length ≤ 4294967296) (ht : tlen ps ≤ 4294967296) (hn : n ≤ 9223372036854775807) :
    Calls Yaac.prog 41 #[v, .int .i64 n] w fun e w' => ∃ v', e = .returned v' ∧ Own w' w.heap.size tFrg v' (layout (wid n) ps) ∧ Below w.heap.size w w' := by
  obtain ⟨a1, c1, rfl, _, _⟩ := h1.shape
  have hW0 := wid_pos n
  have hWm : wid n ≤ 9223372036854775807 := by unfold wid; split <;> omega
  have hll := layout_len (wid n) hW0 ps
  go_enter Yaac.func41, Yaac.ntmps41
  go_wp2_with (go_at_call 69; refine (wOf_any n _).mono ?_; rintro e w' ⟨rfl, hw⟩; replace hw := hw.symm; subst hw)
  generalize hWn : wid n = W at *
  have HW : Hid (wid n = W) := hWn
  clear hWn
  go_loopw [6, 7, 8, 9] (fun rv sv cv iv wr => ∃ (i col : Nat) (st : Bool) (out : List Frg), i ≤ ps.length ∧ iv = .int .i64 i ∧ cv = .int .i64 col ∧ sv = .bool st ∧ col + tlen (ps.drop i) + (ps.length - i) ≤ tlen ps + ps.length ∧ Own wr w.heap.size tFrg rv out ∧ Below w.heap.size w wr ∧ Hid (lGo W (wGo (ps.drop i) [] []) st col out = layout W ps)) (fun _ _ _ iv _ => ps.length - (intOf iv).toNat)
  case atStart => exact ⟨0, 0, false, [], Nat.zero_le _, rfl, rfl, rfl, by simp, Own.nil _ _ _, Below.refl _ _, rfl⟩
  case round =>
    obtain ⟨i, col, st, out, hi, rfl, rfl, rfl, hcol, hor, hbel, hr⟩ := hrel
    obtain ⟨wx, rfl⟩ : ∃ wx : World, wx = wr := ⟨_, rfl⟩
    obtain ⟨ro, rcap, rfl⟩ := hor.shape
    have hz := hbel.size
    have hol : out.length ≤ (layout W ps).length := by rw [← hr.out]; exact lGo_out _ _ _ _ _
    by_cases hlt : i < ps.length
    · obtain ⟨b1, o1, rfl, hb1, hc1⟩ := (h1.below (hbel.mono hB)).inl i hlt
      obtain ⟨d1, d2, d3⟩ := hc1 i hlt
      clear hc1
      have i1 : (i : Int) < (ps.length : Int) := by omega
      by_cases hk1 : ps[i].kind = 1
      · have hkb : (ps[i].kind == 1) = true := beq_iff_eq.2 hk1
        have HE : Hid (lGo W (wGo (ps.drop (i + 1)) [] []) st col out = layout W ps) := by unfold Hid; rw [← hr.out, wGo_sp ps i hlt hk1]
        rw [tlen_at ps i hlt] at hcol
        clear hk1 hr
        go_wp2
        go_roundw
        case rel => exact ⟨i + 1, col, st, out, by omega, by go_num, rfl, rfl, by omega, hor, hbel, HE⟩
        case measure => simp [intOf]; omega
      · have hkb : (ps[i].kind == 1) = false := beq_eq_false_iff_ne.2 hk1
        have HGI : Hid (goOn ps i = true) := by unfold Hid; rw [goOn_at ps i hlt]; simpa using hk1
        clear hk1
        go_wp2
        go_loopw [11, 9] (fun mv iv wr => ∃ (j : Nat) (mem : List Inl), i ≤ j ∧ j ≤ ps.length ∧ iv = .int .i64 j ∧ mem.length ≤ j - i ∧ tlen mem + tlen (ps.drop j) ≤ tlen (ps.drop i) ∧ Own wr w.heap.size tInl mv mem ∧ Own wr w.heap.size tFrg (.slice ro out.length rcap) out ∧ Below w.heap.size w wr ∧ Hid (wGo (ps.drop j) mem [] = wGo (ps.drop i) [] [])) (fun _ iv _ => ps.length - (intOf iv).toNat)
        case atStart => exact ⟨i, [], Nat.le_refl _, by omega, by go_num, by simp, by simp [tlen], Own.nil _ _ _, hor, hbel, rfl⟩
        case round =>
          clear d1 d2 d3
          obtain ⟨j, mem, hij, hj, rfl, hml, htl, hom, horj, hbj, hrj⟩ := hrel
          obtain ⟨wy, rfl⟩ : ∃ wy : World, wy = wr := ⟨_, rfl⟩
          obtain ⟨mo, mcap, rfl⟩ := hom.shape
          have zj := hbj.size
          go_upto_region 11 with fail
          go_cut [52] (fun hv wc => hv = .bool (goOn ps j) ∧ wc = wy)
          case first =>
            by_cases hjl : j < ps.length
            · obtain ⟨b4, o4, he, hb4', hc4⟩ := (h1.below (hbj.mono hB)).inl j hjl
              simp only [Option.some.injEq, Addr.mk.injEq] at he
              obtain ⟨rfl, rfl, -⟩ := he
              obtain ⟨e1, e2, e3⟩ := hc4 j hjl
              clear hc4
              have ij : (j : Int) < (ps.length : Int) := by omega
              have HG : Hid (goOn ps j = decide (ps[j].kind ≠ 1)) := goOn_at ps j hjl
              by_cases hkj : ps[j].kind = 1
              · have tj : (ps[j].kind != 1) = false := by rw [hkj]; rfl
                have HH : Hid (goOn ps j = false) := by unfold Hid; rw [HG.out]; simpa using hkj
                clear hkj
                go_wp2
                go_meet
                case rel => exact ⟨by rw [HH.out], rfl⟩
              · have tj : (ps[j].kind != 1) = true := by simpa using hkj
                have HH : Hid (goOn ps j = true) := by unfold Hid; rw [HG.out]; simpa using hkj
                clear hkj
                go_wp2
                go_meet
                case rel => exact ⟨by rw [HH.out], rfl⟩
            · have ij : ¬ (j : Int) < (ps.length : Int) := by omega
              have HH : Hid (goOn ps j = false) := goOn_no ps j hjl
              go_wp2
              go_meet
              case rel => exact ⟨by rw [HH.out], rfl⟩
          case rest =>
            obtain ⟨rfl, hwc⟩ := hcut
            replace hwc := hwc.symm
            subst hwc
            cases hgo : goOn ps j with
            | true =>
              obtain ⟨hjl, hkj⟩ := goOn_lt ps j hgo
              obtain ⟨b4, o4, he, hb4', hc4⟩ := (h1.below (hbj.mono hB)).inl j hjl
              simp only [Option.some.injEq, Addr.mk.injEq] at he
              obtain ⟨rfl, rfl, -⟩ := he
              have hd := hc4 j hjl
              clear hc4 hgo
              have ij : (j : Int) < (ps.length : Int) := by omega
              have hrj' := hrj.out
              rw [wGo_at ps j mem [] hjl, if_neg hkj] at hrj'
              rw [tlen_at ps j hjl] at htl
              have HKJ : Hid (ps[j].kind ≠ 1) := hkj
              clear hrj hkj
              generalize ps[j] = p at *
              obtain ⟨kd, sty, txt⟩ := p
              obtain ⟨e1, e2, e3⟩ := hd
              simp only at e1 e2 e3 htl hrj'
              by_cases hte : txt = []
              · rw [if_pos hte] at hrj'
                have HE : Hid (wGo (ps.drop (j + 1)) mem [] = wGo (ps.drop i) [] []) := hrj'
                have hlb : ¬ (0 : Int) < (txt.length : Int) := by rw [hte]; simp
                clear hrj' hte
                go_wp2
                go_roundw
                case rel => exact ⟨j + 1, mem, by omega, by omega, by go_num, by omega, by omega, hom, horj, hbj, HE⟩
                case measure => simp [intOf]; omega
              · rw [if_neg hte] at hrj'
                have HE : Hid (wGo (ps.drop (j + 1)) (mem ++ [⟨kd, sty, txt⟩]) [] = wGo (ps.drop i) [] []) := hrj'
                have hlb : (0 : Int) < (txt.length : Int) := by cases txt with | nil => exact absurd rfl hte | cons _ _ => simp
                clear hrj' hte
                go_wp2_with (at_builtin; refine app1 tInl (.tmp 60) (.tmp 65) w.heap.size _ mem hom ⟨kd, sty, txt⟩ _ rfl rfl rfl rfl rfl rfl (by omega) (by omega) ?_)
                intro g3 cap3 w3 ho3 hgr3 hat3 hb3
                go_wp2
                go_roundw
                case rel => exact ⟨j + 1, mem ++ [⟨kd, sty, txt⟩], by omega, by omega, by go_num, by simp; omega, by rw [tlen_append]; simp only [tlen]; omega, by first | exact ho3 | simpa using ho3, horj.apart hom hgr3 (by simp [tInl, tFrg]), hbj.trans hb3, HE⟩
                case measure => simp [intOf]; omega
            | false =>
              have hij2 : i < j := by
                rcases Nat.lt_or_ge i j with h | h
                · exact h
                · have e : j = i := by omega
                  subst e; rw [HGI.out] at hgo; cases hgo
              have hst := wGo_stop ps j mem (goOn_stop ps j hgo)
              rw [hrj.out] at hst
              have hr2 := hr.out
              rw [hst] at hr2
              clear hst hgo hrj hr
              by_cases hm : mem = []
              · have hmb : ((mem.length : Int) == 0) = true := by rw [hm]; rfl
                have HE : Hid (lGo W (wGo (ps.drop j) [] []) st col out = layout W ps) := by unfold Hid; rw [← hr2, hm]; rfl
                clear hr2 hm
                go_wp2
                go_roundw
                case rel => exact ⟨j, col, st, out, by omega, by go_num, rfl, rfl, by omega, horj, hbj, HE⟩
                case measure => simp [intOf]; omega
              · rw [addW_ne mem hm, List.cons_append, List.nil_append, lGo] at hr2
                have hmp : 0 < mem.length := by cases mem with | nil => exact absurd rfl hm | cons _ _ => simp
                have hmb : ((mem.length : Int) == 0) = false := beq_eq_false_iff_ne.2 (by omega)
                have HR2 : Hid _ := hr2
                clear hr2 hm
                obtain ⟨mb, moff, rfl, hmb0, -⟩ := hom.rdd.inl 0 hmp
                have htm : tlen mem ≤ 4294967296 := by have := tlen_drop ps i; omega
                go_wp2
                go_loopw [12, 74] (fun lv kv wr => ∃ k : Nat, k ≤ mem.length ∧ kv = .int .i64 k ∧ lv = .int .i64 (tlen (mem.take k) : Nat) ∧ tlen (mem.take k) ≤ 4294967296 ∧ Below wy.heap.size wy wr) (fun _ kv _ => mem.length - (intOf kv).toNat)
                case atStart => exact ⟨0, Nat.zero_le _, rfl, by simp [tlen], by simp [tlen], Below.refl _ _⟩
                case round =>
                  obtain ⟨k, hk, rfl, rfl, htk, hbk⟩ := hrel
                  obtain ⟨wz, rfl⟩ : ∃ wz : World, wz = wr := ⟨_, rfl⟩
                  have zk := hbk.size
                  by_cases hkl : k < mem.length
                  · obtain ⟨b5, o5, he, hb5', hc5⟩ := (hom.below hbk).rdd.inl k hkl
                    simp only [Option.some.injEq, Addr.mk.injEq] at he
                    obtain ⟨rfl, rfl, -⟩ := he
                    have hd := hc5 k hkl
                    clear hc5
                    have ik : (k : Int) < (mem.length : Int) := by omega
                    have HT : Hid (tlen (mem.take (k + 1)) = tlen (mem.take k) + mem[k].text.length) := tlen_take' mem k hkl
                    have hml2 := tlen_le mem _ (List.getElem_mem hkl)
                    have htk2 : tlen (mem.take k) + mem[k].text.length ≤ 4294967296 := by
                      have e := congrArg tlen (List.take_append_drop (k + 1) mem)
                      rw [tlen_append, HT.out] at e; omega
                    generalize mem[k] = p at *
                    obtain ⟨kd, sty, txt⟩ := p
                    obtain ⟨f1, f2, f3⟩ := hd
                    simp only at f1 f2 f3 hml2 htk2 HT
                    go_wp2
                    go_roundw
                    case rel => exact ⟨k + 1, by omega, by go_num, by rw [HT.out]; go_num, by rw [HT.out]; omega, hbk.alloc (by omega) _⟩
                    case measure => simp [intOf]; omega
                  · have ik : ¬ (k : Int) < (mem.length : Int) := by omega
                    rw [List.take_of_length_le (by omega)] at htk ⊢
                    have hom3 := hom.below hbk
                    have hor3 := horj.below hbk
                    have hb3 : Below w.heap.size w wz := hbj.trans (hbk.mono zj)
                    have z3 := hb3.size
                    clear hom horj hbk zk htk hbj zj hor hbel hz hb1
                    by_cases hL : tlen mem ≤ W
                    · have hLb : (tlen mem : Int) ≤ (W : Int) := by omega
                      have hr3 := HR2.out
                      rw [if_pos hL] at hr3
                      have HR3 : Hid _ := hr3
                      clear hr3 HR2
                      have HOL : Hid ((out ++ fit (brF W st col (tlen mem)) mem).length ≤ (layout W ps).length) := by unfold Hid; rw [← HR3.out]; exact lGo_out _ _ _ _ _
                      as_aux_lemma =>
                        go_upto_if 87 with fail
                        go_cut [15] (fun fv wc => fv = .int .i64 (brF W st col (tlen mem)) ∧ wc = wz)
                        case first =>
                          cases st with
                          | false =>
                            have HF : Hid (brF W false col (tlen mem) = 0) := by simp [Hid, brF]
                            go_wp2
                            go_meet
                            case rel => exact ⟨by rw [HF.out], rfl⟩
                          | true =>
                            by_cases hf : col + 1 + tlen mem ≤ W
                            · have hfb : (col : Int) + 1 + (tlen mem : Int) ≤ (W : Int) := by omega
                              have HF : Hid (brF W true col (tlen mem) = 1) := by unfold Hid brF; rw [if_pos rfl, if_pos hf]
                              go_wp2
                              go_meet
                              case rel => exact ⟨by rw [HF.out], rfl⟩
                            · have hfb : ¬ (col : Int) + 1 + (tlen mem : Int) ≤ (W : Int) := by omega
                              have HF : Hid (brF W true col (tlen mem) = 2) := by unfold Hid brF; rw [if_pos rfl, if_neg hf]
                              go_wp2
                              go_meet
                              case rel => exact ⟨by rw [HF.out], rfl⟩
                        case rest =>
                          obtain ⟨rfl, hwc⟩ := hcut
                          replace hwc := hwc.symm
                          subst hwc
                          have HF1 : Hid ((brF W st col (tlen mem) = 1) ↔ (st = true ∧ col + 1 + tlen mem ≤ W)) := by
                            unfold Hid brF
                            by_cases h1 : st = true
                            · by_cases h2 : col + 1 + tlen mem ≤ W
                              · simp [h1, h2]
                              · simp [h1, h2]
                            · simp [h1]
                          generalize brF W st col (tlen mem) = f at *
                          go_wp2
                          go_loopw [6, 96] (fun rv kv wr => ∃ (k : Nat) (o : List Frg), k ≤ mem.length ∧ kv = .int .i64 k ∧ Own wr w.heap.size tFrg rv o ∧ Own wr w.heap.size tInl (.slice (some ⟨mb, moff, none⟩) mem.length mcap) mem ∧ Below w.heap.size w wr ∧ Hid (o ++ fit (if k = 0 then f else 0) (mem.drop k) = out ++ fit f mem)) (fun _ kv _ => mem.length - (intOf kv).toNat)
                          case atStart => exact ⟨0, out, Nat.zero_le _, rfl, hor3, hom3, hb3, by simp [Hid]⟩
                          case round =>
                            obtain ⟨k2, o, hk2, rfl, hor4, hom4, hb4, hr4⟩ := hrel
                            obtain ⟨wa, rfl⟩ : ∃ wa : World, wa = wr := ⟨_, rfl⟩
                            obtain ⟨qo, qcap, rfl⟩ := hor4.shape
                            have z4 := hb4.size
                            have hol4 : o.length ≤ (layout W ps).length := Nat.le_trans (by have := congrArg List.length hr4.out; rw [List.length_append] at this; omega) HOL.out
                            by_cases hkl : k2 < mem.length
                            · obtain ⟨b5, o5, he, hb5', hc5⟩ := hom4.rdd.inl k2 hkl
                              simp only [Option.some.injEq, Addr.mk.injEq] at he
                              obtain ⟨rfl, rfl, -⟩ := he
                              have hd := hc5 k2 hkl
                              clear hc5
                              have ik : (k2 : Int) < (mem.length : Int) := by omega
                              have hr4' := hr4.out
                              rw [fit_at f mem k2 hkl] at hr4'
                              clear hr4
                              generalize mem[k2] = p at *
                              obtain ⟨kd, sty, txt⟩ := p
                              obtain ⟨f1, f2, f3⟩ := hd
                              simp only at f1 f2 f3 hr4'
                              by_cases hk0 : k2 = 0
                              · have hkb : ((k2 : Int) == 0) = true := beq_iff_eq.2 (by omega)
                                have HE : Hid ((o ++ [⟨f, kd, sty, txt⟩]) ++ fit (if k2 + 1 = 0 then f else 0) (mem.drop (k2 + 1)) = out ++ fit f mem) := by unfold Hid; rw [if_neg (by omega), ← hr4', if_pos hk0]; simp
                                clear hr4' hk0
                                go_wp2_with (at_builtin; refine app1 tFrg (.tmp 104) (.tmp 113) w.heap.size _ o (hor4.alloc _) ⟨f, kd, sty, txt⟩ (wa.heap.size + 1) (by simp) rfl rfl rfl rfl rfl (by omega) (by simp; omega) ?_)
                                intro g3 cap3 w3 ho3 hgr3 hat3 hb3'
                                go_wp2
                                go_roundw
                                case rel => exact ⟨k2 + 1, o ++ [⟨f, kd, sty, txt⟩], by omega, by go_num, by first | exact ho3 | simpa using ho3, (hom4.alloc _).apart (hor4.alloc _) hgr3 (by simp [tInl, tFrg]), (hb4.alloc z4 _).trans hb3', HE⟩
                                case measure => simp [intOf]; omega
                              · have hkb : ((k2 : Int) == 0) = false := beq_eq_false_iff_ne.2 (by omega)
                                have HE : Hid ((o ++ [⟨0, kd, sty, txt⟩]) ++ fit (if k2 + 1 = 0 then f else 0) (mem.drop (k2 + 1)) = out ++ fit f mem) := by unfold Hid; rw [if_neg (by omega), ← hr4', if_neg hk0]; simp
                                clear hr4' hk0
                                go_wp2_with (at_builtin; refine app1 tFrg (.tmp 104) (.tmp 113) w.heap.size _ o (hor4.alloc _) ⟨0, kd, sty, txt⟩ (wa.heap.size + 1) (by simp) rfl rfl rfl rfl rfl (by omega) (by simp; omega) ?_)
                                intro g3 cap3 w3 ho3 hgr3 hat3 hb3'
                                go_wp2
                                go_roundw
                                case rel => exact ⟨k2 + 1, o ++ [⟨0, kd, sty, txt⟩], by omega, by go_num, by first | exact ho3 | simpa using ho3, (hom4.alloc _).apart (hor4.alloc _) hgr3 (by simp [tInl, tFrg]), (hb4.alloc z4 _).trans hb3', HE⟩
                                case measure => simp [intOf]; omega
                            · have ik : ¬ (k2 : Int) < (mem.length : Int) := by omega
                              have HO : Hid (o = out ++ fit f mem) := by
                                have := hr4.out
                                rw [List.drop_of_length_le (by omega : mem.length ≤ k2)] at this
                                simpa [fit, Hid] using this
                              clear hr4
                              by_cases hff : st = true ∧ col + 1 + tlen mem ≤ W
                              · have fb : (f == 1) = true := beq_iff_eq.2 (HF1.out.2 hff)
                                have hr5 := HR3.out
                                rw [if_pos hff, ← HO.out] at hr5
                                have HR5 : Hid _ := hr5
                                clear hr5 hff
                                go_wp2
                                go_roundw
                                case rel => exact ⟨j, col + 1 + tlen mem, true, o, by omega, by go_num, by go_num, rfl, by omega, hor4, hb4, HR5⟩
                                case measure => simp [intOf]; omega
                              · have fb : (f == 1) = false := beq_eq_false_iff_ne.2 (fun h => hff (HF1.out.1 h))
                                have hr5 := HR3.out
                                rw [if_neg hff, ← HO.out] at hr5
                                have HR5 : Hid _ := hr5
                                clear hr5 hff
                                go_wp2
                                go_roundw
                                case rel => exact ⟨j, tlen mem, true, o, by omega, by go_num, by go_num, rfl, by omega, hor4, hb4, HR5⟩
                                case measure => simp [intOf]; omega
                    · have hLb : ¬ (tlen mem : Int) ≤ (W : Int) := by omega
                      have hr3 := HR2.out
                      rw [if_neg hL] at hr3
                      have HR3 : Hid _ := hr3
                      clear hr3 HR2
                      have HOL : Hid ((out ++ ch W st mem 0).length ≤ (layout W ps).length) := by unfold Hid; rw [← HR3.out]; exact lGo_out _ _ _ _ _
                      as_aux_lemma =>
                        go_wp2
                        go_loopw [6, 19, 125] (fun rv pv kv wr => ∃ (k pos : Nat) (o : List Frg), k ≤ mem.length ∧ kv = .int .i64 k ∧ pv = .int .i64 pos ∧ pos + tlen (mem.drop k) = tlen mem ∧ Own wr w.heap.size tFrg rv o ∧ Own wr w.heap.size tInl (.slice (some ⟨mb, moff, none⟩) mem.length mcap) mem ∧ Below w.heap.size w wr ∧ Hid (o ++ ch W st (mem.drop k) pos = out ++ ch W st mem 0)) (fun _ _ kv _ => mem.length - (intOf kv).toNat)
                        case atStart => exact ⟨0, 0, out, Nat.zero_le _, rfl, rfl, by simp, hor3, hom3, hb3, by simp [Hid]⟩
                        case round =>
                          obtain ⟨k2, pos, o, hk2, rfl, rfl, hpos, hor4, hom4, hb4, hr4⟩ := hrel
                          obtain ⟨wa, rfl⟩ : ∃ wa : World, wa = wr := ⟨_, rfl⟩
                          obtain ⟨qo, qcap, rfl⟩ := hor4.shape
                          have z4 := hb4.size
                          by_cases hkl : k2 < mem.length
                          · obtain ⟨b5, o5, he, hb5', hc5⟩ := hom4.rdd.inl k2 hkl
                            simp only [Option.some.injEq, Addr.mk.injEq] at he
                            obtain ⟨rfl, rfl, -⟩ := he
                            have hd := hc5 k2 hkl
                            clear hc5
                            have ik : (k2 : Int) < (mem.length : Int) := by omega
                            rw [tlen_at mem k2 hkl] at hpos
                            have hr4' := hr4.out
                            rw [List.drop_eq_getElem_cons hkl] at hr4'
                            have HR4 : Hid _ := hr4'
                            clear hr4' hr4
                            have hml5 := tlen_le mem _ (List.getElem_mem hkl)
                            generalize mem[k2] = p at *
                            obtain ⟨kd, sty, txt⟩ := p
                            obtain ⟨f1, f2, f3⟩ := hd
                            simp only at f1 f2 f3 hpos hml5
                            have hblk0 := heap_alloc_new wa (.cells #[.int .i64 kd, .int .i64 sty, .string (mk txt)] 44)
                            as_aux_lemma =>
                              go_wp2
                              go_loopw [6, 19, 23] (fun rv pv fv wr => ∃ (pos off : Nat) (o : List Frg), off ≤ txt.length ∧ fv = .int .i64 off ∧ pv = .int .i64 pos ∧ pos + (txt.length - off) + tlen (mem.drop (k2 + 1)) = tlen mem ∧ Own wr w.heap.size tFrg rv o ∧ Own wr w.heap.size tInl (.slice (some ⟨mb, moff, none⟩) mem.length mcap) mem ∧ Below w.heap.size w wr ∧ wr.heap[wa.heap.size]? = some (.cells #[.int .i64 kd, .int .i64 sty, .string (mk txt)] 44 (0, 0)) ∧ Hid (o ++ ch W st (⟨kd, sty, txt.drop off⟩ :: mem.drop (k2 + 1)) pos = out ++ ch W st mem 0)) (fun _ _ fv _ => txt.length - (intOf fv).toNat)
                              case atStart => exact ⟨pos, 0, o, Nat.zero_le _, rfl, rfl, by omega, hor4.alloc _, hom4.alloc _, hb4.alloc z4 _, hblk0, by rw [List.drop_zero]; exact HR4⟩
                              case round =>
                                clear HR4 hpos hor4 f1 f2 f3
                                obtain ⟨pos, off, o, hoff, rfl, rfl, hpos, hor5, hom5, hb5, hblk, hr5⟩ := hrel
                                obtain ⟨wb, rfl⟩ : ∃ wb : World, wb = wr := ⟨_, rfl⟩
                                obtain ⟨qo, qcap, rfl⟩ := hor5.shape
                                have z5 := hb5.size
                                have x0 := blk_cell (j := 0) hblk rfl
                                have x1 := blk_cell (j := 1) hblk rfl
                                have x2 := blk_cell (j := 2) hblk rfl
                                by_cases hofl : off < txt.length
                                · have iof : (off : Int) < (txt.length : Int) := by omega
                                  have hpm := Nat.mod_lt pos hW0
                                  have HX : Hid (((pos : Int) / (W : Int) + 1) * (W : Int) = ((pos + (W - pos % W) : Nat) : Int)) := chunk_eq pos W hW0
                                  have hq0 : (0 : Int) ≤ (pos : Int) / (W : Int) := Int.ediv_nonneg (by omega) (by omega)
                                  have hq1 : (pos : Int) / (W : Int) ≤ (pos : Int) := Int.ediv_le_self _ (by omega)
                                  have hX0 : (0 : Int) ≤ ((pos : Int) / (W : Int) + 1) * (W : Int) := by rw [HX.out]; omega
                                  have hX1 : ((pos : Int) / (W : Int) + 1) * (W : Int) ≤ 9000000000 := by rw [HX.out]; omega
                                  have hWi : (1 : Int) ≤ (W : Int) := by omega
                                  have hXp : (0 : Int) < ((pos : Int) / (W : Int) + 1) * (W : Int) - (pos : Int) := by rw [HX.out]; omega
                                  go_upto_if 149 with fail
                                  go_cut [25] (fun tv wc => tv = .int .i64 (min (W - pos % W) (txt.length - off) : Nat) ∧ wc = wb)
                                  case first =>
                                    by_cases htk : txt.length - off < W - pos % W
                                    · have htb : (txt.length : Int) - (off : Int) < ((pos : Int) / (W : Int) + 1) * (W : Int) - (pos : Int) := by rw [HX.out]; omega
                                      go_wp2
                                      go_meet
                                      case rel => exact ⟨by congr 1; omega, rfl⟩
                                    · have htb : ¬ (txt.length : Int) - (off : Int) < ((pos : Int) / (W : Int) + 1) * (W : Int) - (pos : Int) := by rw [HX.out]; omega
                                      go_wp2
                                      go_meet
                                      case rel => exact ⟨by congr 1; rw [HX.out]; omega, rfl⟩
                                  case rest =>
                                    obtain ⟨rfl, hwc⟩ := hcut
                                    replace hwc := hwc.symm
                                    subst hwc
                                    have HCA : Hid _ := ch_at W st kd sty txt (mem.drop (k2 + 1)) pos off _ hW0 hofl rfl
                                    have htk0 : 0 < min (W - pos % W) (txt.length - off) := by omega
                                    have htk1 : min (W - pos % W) (txt.length - off) ≤ txt.length - off := by omega
                                    clear HX hq0 hq1 hX0 hX1 hXp
                                    generalize min (W - pos % W) (txt.length - off) = tk at *
                                    go_upto_if 157 with fail
                                    go_cut [26] (fun bv wc => bv = .int .i64 (brC W st pos) ∧ wc = wb)
                                    case first =>
                                      by_cases hp : pos % W = 0
                                      · have hpb : ((pos : Int) % (W : Int) == 0) = true := beq_iff_eq.2 (by omega)
                                        by_cases hp0 : pos = 0
                                        · have hp0b : ((pos : Int) == 0) = true := beq_iff_eq.2 (by omega)
                                          cases st with
                                          | false =>
                                            have HC : Hid (brC W false pos = 0) := by unfold Hid brC; rw [if_pos hp, if_pos hp0]; rfl
                                            clear hp hp0
                                            go_wp2
                                            go_meet
                                            case rel => exact ⟨by rw [HC.out], rfl⟩
                                          | true =>
                                            have HC : Hid (brC W true pos = 2) := by unfold Hid brC; rw [if_pos hp, if_pos hp0]; rfl
                                            clear hp hp0
                                            go_wp2
                                            go_meet
                                            case rel => exact ⟨by rw [HC.out], rfl⟩
                                        · have hp0b : ((pos : Int) == 0) = false := beq_eq_false_iff_ne.2 (by omega)
                                          have HC : Hid (brC W st pos = 2) := by unfold Hid brC; rw [if_pos hp, if_neg hp0]
                                          clear hp
                                          go_wp2
                                          go_meet
                                          case rel => exact ⟨by rw [HC.out], rfl⟩
                                      · have hpb : ((pos : Int) % (W : Int) == 0) = false := beq_eq_false_iff_ne.2 (by omega)
                                        have HC : Hid (brC W st pos = 0) := by unfold Hid brC; rw [if_neg hp]
                                        go_wp2
                                        go_meet
                                        case rel => exact ⟨by rw [HC.out], rfl⟩
                                    case rest =>
                                      obtain ⟨rfl, hwc⟩ := hcut
                                      replace hwc := hwc.symm
                                      subst hwc
                                      have hr5' := hr5.out
                                      rw [HCA.out] at hr5'
                                      generalize brC W st pos = br at *
                                      have HE : Hid ((o ++ [⟨br, kd, sty, (txt.drop off).take tk⟩]) ++ ch W st (⟨kd, sty, txt.drop (off + tk)⟩ :: mem.drop (k2 + 1)) (pos + tk) = out ++ ch W st mem 0) := by unfold Hid; rw [← hr5']; simp
                                      have hol5 : o.length ≤ (layout W ps).length := Nat.le_trans (by have := congrArg List.length hr5'; rw [List.length_append] at this; omega) HOL.out
                                      clear hr5 hr5' HCA
                                      have s0 : (0 : Int) ≤ (off : Int) := by omega
                                      have s1 : (off : Int) ≤ (off : Int) + (tk : Int) := by omega
                                      have s2 : (off : Int) + (tk : Int) ≤ (txt.length : Int) := by omega
                                      have hwr : IntKind.i64.wrap ((off : Int) + (tk : Int)) = (off : Int) + (tk : Int) := by rw [IntKind.wrap_i64]; omega
                                      have htn : ((off : Int) + (tk : Int)).toNat = off + tk := by omega
                                      have hsub : off + tk - off = tk := by omega
                                      go_wp2
                                      go_region_held3 (fun w' => w'.cell? ⟨wa.heap.size, 0, none⟩ = some (.int .i64 kd) ∧ w'.cell? ⟨wa.heap.size, 1, none⟩ = some (.int .i64 sty))
                                        (first | go_keep | exact ⟨blk_cell (blk_kept hor5 hgr3 hblk (by simp [tFrg])) rfl, blk_cell (blk_kept hor5 hgr3 hblk (by simp [tFrg])) rfl⟩)
                                        ((refine step_app1 tFrg (w := wb) (.tmp 161) (.tmp 174) w.heap.size _ o hor5 ⟨br, kd, sty, (txt.drop off).take tk⟩ _ rfl (by simp [tFrg]) (by rfl) (by rfl) (by rfl) (by rfl) (by omega) (by omega) ?_; intro g3 cap3 w3 ho3 hgr3 hat3 hb3'))
                                      go_wp2
                                      go_roundw
                                      case rel => exact ⟨pos + tk, off + tk, o ++ [⟨br, kd, sty, (txt.drop off).take tk⟩], by omega, by go_num, by go_num, by omega, by first | exact ho3 | simpa using ho3, hom5.apart hor5 hgr3 (by simp [tInl, tFrg]), hb5.trans hb3', blk_kept hor5 hgr3 hblk (by simp [tFrg]), HE⟩
                                      case measure => simp [intOf]; omega
                                · have iof : ¬ (off : Int) < (txt.length : Int) := by omega
                                  have HE : Hid (o ++ ch W st (mem.drop (k2 + 1)) pos = out ++ ch W st mem 0) := by
                                    unfold Hid
                                    rw [← hr5.out, List.drop_of_length_le (by omega : txt.length ≤ off), ch_nil]
                                  clear hr5
                                  go_wp2
                                  go_roundw
                                  case rel => exact ⟨k2 + 1, pos, o, by omega, by go_num, by go_num, by omega, hor5, hom5, hb5, HE⟩
                                  case measure => simp [intOf]; omega
                          · have ik : ¬ (k2 : Int) < (mem.length : Int) := by omega
                            have HO : Hid (o = out ++ ch W st mem 0) := by
                              have := hr4.out
                              rw [List.drop_of_length_le (by omega : mem.length ≤ k2), ch, List.append_nil] at this
                              exact this
                            clear hr4
                            have hmd := Nat.mod_lt (tlen mem) hW0
                            by_cases hd0 : tlen mem % W = 0
                            · have hdb : ((tlen mem : Int) % (W : Int) == 0) = true := beq_iff_eq.2 (by omega)
                              have hr6 := HR3.out
                              rw [if_pos hd0, ← HO.out] at hr6
                              have HR6 : Hid _ := hr6
                              clear hr6 hd0
                              go_wp2
                              go_roundw
                              case rel => exact ⟨j, W, true, o, by omega, by go_num, by go_num, rfl, by omega, hor4, hb4, HR6⟩
                              case measure => simp [intOf]; omega
                            · have hdb : ((tlen mem : Int) % (W : Int) == 0) = false := beq_eq_false_iff_ne.2 (by omega)
                              have hr6 := HR3.out
                              rw [if_neg hd0, ← HO.out] at hr6
                              have HR6 : Hid _ := hr6
                              clear hr6
                              go_wp2
                              go_roundw
                              case rel => exact ⟨j, tlen mem % W, true, o, by omega, by go_num, by go_num, rfl, by omega, hor4, hb4, HR6⟩
                              case measure => simp [intOf]; omega
    · go_wp2
      go_ret
      exact ⟨_, rfl, by rw [HW.out, ← hr.out, List.drop_of_length_le (by omega)]; exact hor, hbel⟩
end Go.Proofs.Ybuaaw
