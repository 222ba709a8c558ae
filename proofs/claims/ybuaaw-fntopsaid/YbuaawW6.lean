import Derived.Test.YbuaawMem2
import Derived.Test.YbuaawPlain2
namespace Go.Proofs.Ybuaaw
open Go.RowKit
attribute [local go_sem] mk_size mk_toList mk_getElem mk_extract take_len_drop mk_append_lit

/-- The state of the merging as Go holds it. -/
def tst (it : Bool) (s : Int) (b : List UInt8) : Option (Int × List UInt8) := if it then some (s, b) else none

theorem nGo_at (ps acc : List Inl) (t : Option (Int × List UInt8)) (k : Nat) (hk : k < ps.length) : nGo (ps.drop k) acc t = nGo (ps[k] :: ps.drop (k + 1)) acc t := by
  rw [List.drop_eq_getElem_cons hk]

theorem step_sp_true (sty s : Int) (txt bs : List UInt8) (r acc : List Inl) : nGo (⟨1, sty, txt⟩ :: r) acc (tst true s bs) = nGo r (acc ++ [⟨0, s, bs⟩] ++ [⟨1, 0, [32]⟩]) (tst false s bs) := by
  rw [nGo_sp _ _ _ _ rfl, if_neg (by simp [tst, flushT, lastSp_snoc])]; rfl
theorem step_sp_skip (sty s : Int) (txt bs : List UInt8) (r acc : List Inl) (h : lastSp acc = true) : nGo (⟨1, sty, txt⟩ :: r) acc (tst false s bs) = nGo r acc (tst false s bs) := by
  rw [nGo_sp _ _ _ _ rfl, if_pos (by simpa [tst, flushT] using h)]; rfl
theorem step_sp_add (sty s : Int) (txt bs : List UInt8) (r acc : List Inl) (h : lastSp acc = false) : nGo (⟨1, sty, txt⟩ :: r) acc (tst false s bs) = nGo r (acc ++ [⟨1, 0, [32]⟩]) (tst false s bs) := by
  rw [nGo_sp _ _ _ _ rfl, if_neg (by simp [tst, flushT, h])]; rfl

theorem step_empty (kd sty s : Int) (it : Bool) (bs : List UInt8) (r acc : List Inl) (h : kd ≠ 1) : nGo (⟨kd, sty, []⟩ :: r) acc (tst it s bs) = nGo r acc (tst it s bs) := nGo_empty _ _ _ _ h rfl
theorem step_code_true (sty s : Int) (txt bs : List UInt8) (r acc : List Inl) (h : txt ≠ []) : nGo (⟨2, sty, txt⟩ :: r) acc (tst true s bs) = nGo r (acc ++ [⟨0, s, bs⟩] ++ [⟨2, 0, txt⟩]) (tst false s bs) := nGo_code _ _ _ _ rfl h
theorem step_code_false (sty s : Int) (txt bs : List UInt8) (r acc : List Inl) (h : txt ≠ []) : nGo (⟨2, sty, txt⟩ :: r) acc (tst false s bs) = nGo r (acc ++ [⟨2, 0, txt⟩]) (tst false s bs) := nGo_code _ _ _ _ rfl h
theorem step_text_same (kd sty s : Int) (txt bs : List UInt8) (r acc : List Inl) (h1 : kd ≠ 1) (h2 : kd ≠ 2) (h : txt ≠ []) (hs : st01 sty = s) : nGo (⟨kd, sty, txt⟩ :: r) acc (tst true s bs) = nGo r acc (tst true s (bs ++ txt)) := nGo_same _ _ _ _ _ h1 h2 h hs
theorem step_text_other (kd sty s : Int) (txt bs : List UInt8) (r acc : List Inl) (h1 : kd ≠ 1) (h2 : kd ≠ 2) (h : txt ≠ []) (hs : st01 sty ≠ s) : nGo (⟨kd, sty, txt⟩ :: r) acc (tst true s bs) = nGo r (acc ++ [⟨0, s, bs⟩]) (tst true (st01 sty) txt) := nGo_other _ _ _ _ _ h1 h2 h hs
theorem step_text_new (kd sty s : Int) (txt bs : List UInt8) (r acc : List Inl) (h1 : kd ≠ 1) (h2 : kd ≠ 2) (h : txt ≠ []) : nGo (⟨kd, sty, txt⟩ :: r) acc (tst false s bs) = nGo r acc (tst true (st01 sty) txt) := nGo_text _ _ _ h1 h2 h

set_option maxRecDepth 100000 in
set_option maxHeartbeats 4000000 in
theorem normalize_any (ps : List Inl) (v : Value) (B : Nat) (w : World) (hB : B ≤ w.heap.size) (h1 : Rdd w B tInl v ps) (hs : ps.length ≤ 4294967296) (ht : tlen ps ≤ 4294967296) :
    Calls Yaac.prog 35 #[v] w fun e w' => ∃ v', e = .returned v' ∧ OwnR w' w.heap.size tInl v' (norm ps) ∧ Below w.heap.size w w' := by
  obtain ⟨a1, c1, rfl, _, _⟩ := h1.shape
  go_enter Yaac.func35, Yaac.ntmps35
  go_wp2
  go_loopw [3, 4, 5, 6, 12] (fun rv bv itv sv i wr => ∃ (k : Nat) (acc : List Inl) (bs : List UInt8) (it : Bool) (s : Int), k ≤ ps.length ∧ i = .int .i64 k ∧ itv = .bool it ∧ sv = .int .i64 s ∧
      acc.length + it.toNat ≤ k ∧ bs.length + tlen (ps.drop k) ≤ tlen ps ∧ Own wr w.heap.size tInl rv acc ∧ Own wr w.heap.size tByte bv bs ∧ Below w.heap.size w wr ∧ Hid (nGo (ps.drop k) acc (tst it s bs) = nGo ps [] none)) (fun _ _ _ _ i _ => ps.length - (intOf i).toNat)
  case atStart => exact ⟨0, [], [], false, 0, Nat.zero_le _, rfl, rfl, rfl, by simp, by simp, Own.nil _ _ _, Own.nil _ _ _, Below.refl _ _, rfl⟩
  case round =>
    obtain ⟨k, acc, bs, it, s, hk, rfl, rfl, rfl, hacc, hbl, hown, howb, hbel, hr⟩ := hrel
    obtain ⟨ao, cap, rfl⟩ := hown.shape
    obtain ⟨bo, bcap, rfl⟩ := howb.shape
    have hz := hbel.size
    by_cases hlt : k < ps.length
    · obtain ⟨b1, o1, rfl, hb1, hc1⟩ := (h1.below (hbel.mono hB)).inl k hlt
      obtain ⟨d1, d2, d3⟩ := hc1 k hlt
      clear hc1
      have i1 : (k : Int) < (ps.length : Int) := by omega
      have hr2 : Hid (nGo (ps[k] :: ps.drop (k + 1)) acc (tst it s bs) = nGo ps [] none) := by rw [← nGo_at ps acc _ k hlt]; exact hr
      have htl := tlen_at ps k hlt
      rw [htl] at hbl
      clear hr htl
      generalize hp : ps[k] = p at *
      obtain ⟨kd, sty, txt⟩ := p
      clear hp
      simp only at d1 d2 d3 hbl
      have hcv : ∀ o, (convert 66 9 (.slice bo bs.length bcap)).run Yaac.prog (wr.alloc o) = .ok (.string (mk bs)) (wr.alloc o) := fun o => conv_own (howb.alloc o)
      by_cases hk1 : kd = 1
      · subst hk1
        cases it with
        | true =>
          simp only [Bool.toNat_true] at hacc
          go_wp2_with (at_builtin; refine app1 tInl (.tmp 29) (.tmp 34) w.heap.size _ acc (hown.alloc _) ⟨0, s, bs⟩ (wr.heap.size + 1) (by simp) rfl rfl rfl rfl rfl (by omega) (by simp; omega) ?_)
          intro g cap' w1 ho hgr hat hb1
          have hcl : w1.cell? ⟨g, acc.length * 3, none⟩ = some (.int .i64 0) := by simpa [tInl] using ho.cellAt acc.length (by simp) 0 (by simp [tInl])
          have hz1 := hb1.size
          simp at hz1
          go_wp2_with (at_builtin; refine app1 tInl (.tmp 49) (.tmp 51) w.heap.size _ (acc ++ [⟨0, s, bs⟩]) ho ⟨1, 0, [32]⟩ w1.heap.size rfl rfl rfl rfl rfl rfl (by simp; omega) (by omega) ?_)
          intro g2 cap2 w2 ho2 hgr2 hat2 hb2
          go_wp2
          go_roundw
          case rel => exact ⟨k + 1, acc ++ [⟨0, s, bs⟩] ++ [⟨1, 0, [32]⟩], bs, false, s, by omega, by go_num, rfl, rfl, by simp; omega, by omega, by simpa using ho2, (((howb.alloc _).apart (hown.alloc _) hgr (by simp [tByte, tInl])).apart ho hgr2 (by simp [tByte, tInl])), (hbel.trans (((Below.refl _ _).alloc hz _).trans hb1)).trans hb2, by rw [← hr2.out, step_sp_true]; exact rfl⟩
          case measure => simp [intOf]; omega
        | false =>
          simp only [Bool.toNat_false] at hacc
          by_cases hl : 0 < acc.length
          · obtain ⟨g, cap', hv, _, hglt, hgc, hgc2⟩ := hown.form hl
            simp only [Value.slice.injEq, true_and] at hv
            obtain ⟨rfl, rfl⟩ := hv
            have hcl : ∀ o, (wr.alloc o).cell? ⟨g, (acc.length - 1) * 3, none⟩ = some (.int .i64 acc[acc.length - 1].kind) := fun o => by simpa [tInl] using (hown.alloc o).cellAt (acc.length - 1) (by omega) 0 (by simp [tInl])
            have hlp : (0 : Int) < (acc.length : Int) := by omega
            have hlst := lastSp_last acc hl
            by_cases hsp : acc[acc.length - 1].kind = 1
            · have hb' : (acc[acc.length - 1].kind == 1) = true := beq_iff_eq.2 hsp
              rw [hsp] at hlst
              have HL : Hid (lastSp acc = true) := by rw [hlst]; rfl
              clear hsp hlst
              go_wp2
              go_roundw
              case rel => exact ⟨k + 1, acc, bs, false, s, by omega, by go_num, rfl, rfl, by simp; omega, by omega, hown.alloc _, howb.alloc _, hbel.trans ((Below.refl _ _).alloc hz _), by rw [← hr2.out, step_sp_skip _ _ _ _ _ _ HL.out]; exact rfl⟩
              case measure => simp [intOf]; omega
            · have hb' : (acc[acc.length - 1].kind == 1) = false := beq_eq_false_iff_ne.2 hsp
              have HL : Hid (lastSp acc = false) := by rw [hlst]; exact decide_eq_false hsp
              clear hlst
              go_wp2_with (at_builtin; refine app1 tInl (.tmp 49) (.tmp 51) w.heap.size _ acc (hown.alloc _) ⟨1, 0, [32]⟩ (wr.heap.size + 1) (by simp) rfl rfl rfl rfl rfl (by omega) (by simp; omega) ?_)
              intro g2 cap2 w2 ho2 hgr2 hat2 hb2
              go_wp2
              go_roundw
              case rel => exact ⟨k + 1, acc ++ [⟨1, 0, [32]⟩], bs, false, s, by omega, by go_num, rfl, rfl, by simp; omega, by omega, ho2, ((howb.alloc _).apart (hown.alloc _) hgr2 (by simp [tByte, tInl])), hbel.trans (((Below.refl _ _).alloc hz _).trans hb2), by rw [← hr2.out, step_sp_add _ _ _ _ _ _ HL.out]; exact rfl⟩
              case measure => simp [intOf]; omega
          · have e0 : acc = [] := List.eq_nil_of_length_eq_zero (by omega)
            subst e0
            go_wp2_with (at_builtin; refine app1 tInl (.tmp 49) (.tmp 51) w.heap.size _ [] (hown.alloc _) ⟨1, 0, [32]⟩ (wr.heap.size + 1) (by simp) rfl rfl rfl rfl rfl (by simp) (by simp; omega) ?_)
            intro g2 cap2 w2 ho2 hgr2 hat2 hb2
            go_wp2
            go_roundw
            case rel => exact ⟨k + 1, [⟨1, 0, [32]⟩], bs, false, s, by omega, by go_num, rfl, rfl, by simp, by omega, ho2, ((howb.alloc _).apart (hown.alloc _) hgr2 (by simp [tByte, tInl])), hbel.trans (((Below.refl _ _).alloc hz _).trans hb2), by rw [← hr2.out, step_sp_add _ _ _ _ _ _ lastSp_nil]; exact rfl⟩
            case measure => simp [intOf]; omega
      · have hk1b : (kd != 1) = true := by simp [hk1]
        have hk1c : (kd == 1) = false := beq_eq_false_iff_ne.2 hk1
        by_cases htx : txt = []
        · subst htx
          go_wp2
          go_roundw
          case rel => exact ⟨k + 1, acc, bs, it, s, by omega, by go_num, rfl, rfl, by omega, by omega, hown.alloc _, howb.alloc _, hbel.trans ((Below.refl _ _).alloc hz _), by rw [← hr2.out, step_empty _ _ _ _ _ _ _ hk1]; exact rfl⟩
          case measure => simp [intOf]; omega
        have htl : 0 < txt.length := by cases txt with | nil => exact absurd rfl htx | cons _ _ => simp
        have htb : ((txt.length : Int) == 0) = false := beq_eq_false_iff_ne.2 (by omega)
        by_cases hk2 : kd = 2
        · subst hk2
          clear hk1b hk1c
          cases it with
          | true =>
            simp only [Bool.toNat_true] at hacc
            go_wp2_with (at_builtin; refine app1 tInl (.tmp 57) (.tmp 62) w.heap.size _ acc (hown.alloc _) ⟨0, s, bs⟩ (wr.heap.size + 1) (by simp) rfl rfl rfl rfl rfl (by omega) (by simp; omega) ?_)
            intro g cap' w1 ho hgr hat hb1
            have hcx : w1.cell? ⟨wr.heap.size, 2, none⟩ = some (.string (mk txt)) := cell_after hown hgr (by simp)
            have hz1 := hb1.size
            simp at hz1
            go_wp2_with (at_builtin; refine app1 tInl (.tmp 64) (.tmp 68) w.heap.size _ (acc ++ [⟨0, s, bs⟩]) ho ⟨2, 0, txt⟩ w1.heap.size rfl rfl rfl rfl rfl rfl (by simp; omega) (by omega) ?_)
            intro g2 cap2 w2 ho2 hgr2 hat2 hb2
            go_wp2
            go_roundw
            case rel => exact ⟨k + 1, acc ++ [⟨0, s, bs⟩] ++ [⟨2, 0, txt⟩], bs, false, s, by omega, by go_num, rfl, rfl, by simp; omega, by omega, by simpa using ho2, (((howb.alloc _).apart (hown.alloc _) hgr (by simp [tByte, tInl])).apart ho hgr2 (by simp [tByte, tInl])), (hbel.trans (((Below.refl _ _).alloc hz _).trans hb1)).trans hb2, by rw [← hr2.out, step_code_true _ _ _ _ _ _ htx]; exact rfl⟩
            case measure => simp [intOf]; omega
          | false =>
            simp only [Bool.toNat_false] at hacc
            go_wp2_with (at_builtin; refine app1 tInl (.tmp 64) (.tmp 68) w.heap.size _ acc (hown.alloc _) ⟨2, 0, txt⟩ (wr.heap.size + 1) (by simp) rfl rfl rfl rfl rfl (by omega) (by simp; omega) ?_)
            intro g2 cap2 w2 ho2 hgr2 hat2 hb2
            go_wp2
            go_roundw
            case rel => exact ⟨k + 1, acc ++ [⟨2, 0, txt⟩], bs, false, s, by omega, by go_num, rfl, rfl, by simp; omega, by omega, ho2, ((howb.alloc _).apart (hown.alloc _) hgr2 (by simp [tByte, tInl])), hbel.trans (((Below.refl _ _).alloc hz _).trans hb2), by rw [← hr2.out, step_code_false _ _ _ _ _ _ htx]; exact rfl⟩
            case measure => simp [intOf]; omega
        · have hk2b : (kd == 2) = false := beq_eq_false_iff_ne.2 hk2
          by_cases hsty : sty = 0
          · subst hsty
            have est : st01 0 = 0 := rfl
            cases it with
            | true =>
              simp only [Bool.toNat_true] at hacc
              by_cases hss : s = 0
              · subst hss
                have HE : Hid (nGo (ps.drop (k + 1)) acc (tst true 0 (bs ++ txt)) = nGo ps [] none) := by rw [← hr2.out, step_text_same _ _ _ _ _ _ _ hk1 hk2 htx est]; exact rfl
                clear est hr2
                go_wp2_with (at_builtin; refine appS (.tmp 79) (.tmp 81) w.heap.size _ bs (howb.alloc _) txt rfl rfl rfl rfl (by omega) (by simp; omega) ?_)
                intro ao2 cap2 w2 ho2 hgr2 hb2
                go_wp2
                go_roundw
                case rel => exact ⟨k + 1, acc, bs ++ txt, true, 0, by omega, by go_num, rfl, rfl, by simp; omega, by simp; omega, (hown.alloc _).apart (howb.alloc _) hgr2 (by simp [tByte, tInl]), ho2, hbel.trans (((Below.refl _ _).alloc hz _).trans hb2), HE⟩
                case measure => simp [intOf]; omega
              · have hssb : ((0 : Int) == s) = false := beq_eq_false_iff_ne.2 (fun e => hss e.symm)
                have HE : Hid (nGo (ps.drop (k + 1)) (acc ++ [⟨0, s, bs⟩]) (tst true 0 txt) = nGo ps [] none) := by rw [← hr2.out, step_text_other _ _ _ _ _ _ _ hk1 hk2 htx (by rw [est]; exact fun e => hss e.symm), est]; exact rfl
                clear est hr2
                go_wp2_with (at_builtin; refine app1 tInl (.tmp 84) (.tmp 89) w.heap.size _ acc (hown.alloc _) ⟨0, s, bs⟩ (wr.heap.size + 1) (by simp) rfl rfl rfl rfl rfl (by omega) (by simp; omega) ?_)
                intro g cap' w1 ho hgr hat hb1
                have hcx : w1.cell? ⟨wr.heap.size, 2, none⟩ = some (.string (mk txt)) := cell_after hown hgr (by simp)
                have hz1 := hb1.size
                simp at hz1
                go_wp2_with (at_builtin; refine appS (.tmp 91) (.tmp 93) w.heap.size _ [] (Own.nil _ _ _) txt rfl rfl rfl rfl (by simp; omega) (by omega) ?_)
                intro ao2 cap2 w2 ho2 hgr2 hb2
                go_wp2
                go_roundw
                case rel => exact ⟨k + 1, acc ++ [⟨0, s, bs⟩], txt, true, 0, by omega, by go_num, rfl, rfl, by simp; omega, by omega, ho.kept0 hgr2, ho2, hbel.trans ((((Below.refl _ _).alloc hz _).trans hb1).trans hb2), HE⟩
                case measure => simp [intOf]; omega
            | false =>
              simp only [Bool.toNat_false] at hacc
              have HE : Hid (nGo (ps.drop (k + 1)) acc (tst true 0 txt) = nGo ps [] none) := by rw [← hr2.out, step_text_new _ _ _ _ _ _ _ hk1 hk2 htx, est]; exact rfl
              clear est hr2
              go_wp2_with (at_builtin; refine appS (.tmp 91) (.tmp 93) w.heap.size _ [] (Own.nil _ _ _) txt rfl rfl rfl rfl (by simp; omega) (by simp; omega) ?_)
              intro ao2 cap2 w2 ho2 hgr2 hb2
              go_wp2
              go_roundw
              case rel => exact ⟨k + 1, acc, txt, true, 0, by omega, by go_num, rfl, rfl, by simp; omega, by omega, (hown.alloc _).kept0 hgr2, ho2, hbel.trans (((Below.refl _ _).alloc hz _).trans hb2), HE⟩
              case measure => simp [intOf]; omega
          · have hstb : (sty != 0) = true := by simp [hsty]
            have est : st01 sty = 1 := by unfold st01; rw [if_neg hsty]
            cases it with
            | true =>
              simp only [Bool.toNat_true] at hacc
              by_cases hss : s = 1
              · subst hss
                have HE : Hid (nGo (ps.drop (k + 1)) acc (tst true 1 (bs ++ txt)) = nGo ps [] none) := by rw [← hr2.out, step_text_same _ _ _ _ _ _ _ hk1 hk2 htx est]; exact rfl
                clear est hr2
                go_wp2_with (at_builtin; refine appS (.tmp 79) (.tmp 81) w.heap.size _ bs (howb.alloc _) txt rfl rfl rfl rfl (by omega) (by simp; omega) ?_)
                intro ao2 cap2 w2 ho2 hgr2 hb2
                go_wp2
                go_roundw
                case rel => exact ⟨k + 1, acc, bs ++ txt, true, 1, by omega, by go_num, rfl, rfl, by simp; omega, by simp; omega, (hown.alloc _).apart (howb.alloc _) hgr2 (by simp [tByte, tInl]), ho2, hbel.trans (((Below.refl _ _).alloc hz _).trans hb2), HE⟩
                case measure => simp [intOf]; omega
              · have hssb : ((1 : Int) == s) = false := beq_eq_false_iff_ne.2 (fun e => hss e.symm)
                have HE : Hid (nGo (ps.drop (k + 1)) (acc ++ [⟨0, s, bs⟩]) (tst true 1 txt) = nGo ps [] none) := by rw [← hr2.out, step_text_other _ _ _ _ _ _ _ hk1 hk2 htx (by rw [est]; exact fun e => hss e.symm), est]; exact rfl
                clear est hr2
                go_wp2_with (at_builtin; refine app1 tInl (.tmp 84) (.tmp 89) w.heap.size _ acc (hown.alloc _) ⟨0, s, bs⟩ (wr.heap.size + 1) (by simp) rfl rfl rfl rfl rfl (by omega) (by simp; omega) ?_)
                intro g cap' w1 ho hgr hat hb1
                have hcx : w1.cell? ⟨wr.heap.size, 2, none⟩ = some (.string (mk txt)) := cell_after hown hgr (by simp)
                have hz1 := hb1.size
                simp at hz1
                go_wp2_with (at_builtin; refine appS (.tmp 91) (.tmp 93) w.heap.size _ [] (Own.nil _ _ _) txt rfl rfl rfl rfl (by simp; omega) (by omega) ?_)
                intro ao2 cap2 w2 ho2 hgr2 hb2
                go_wp2
                go_roundw
                case rel => exact ⟨k + 1, acc ++ [⟨0, s, bs⟩], txt, true, 1, by omega, by go_num, rfl, rfl, by simp; omega, by omega, ho.kept0 hgr2, ho2, hbel.trans ((((Below.refl _ _).alloc hz _).trans hb1).trans hb2), HE⟩
                case measure => simp [intOf]; omega
            | false =>
              simp only [Bool.toNat_false] at hacc
              have HE : Hid (nGo (ps.drop (k + 1)) acc (tst true 1 txt) = nGo ps [] none) := by rw [← hr2.out, step_text_new _ _ _ _ _ _ _ hk1 hk2 htx, est]; exact rfl
              clear est hr2
              go_wp2_with (at_builtin; refine appS (.tmp 91) (.tmp 93) w.heap.size _ [] (Own.nil _ _ _) txt rfl rfl rfl rfl (by simp; omega) (by simp; omega) ?_)
              intro ao2 cap2 w2 ho2 hgr2 hb2
              go_wp2
              go_roundw
              case rel => exact ⟨k + 1, acc, txt, true, 1, by omega, by go_num, rfl, rfl, by simp; omega, by omega, (hown.alloc _).kept0 hgr2, ho2, hbel.trans (((Below.refl _ _).alloc hz _).trans hb2), HE⟩
              case measure => simp [intOf]; omega
    · have hnr : Hid (nGo ps [] none = flushT acc (tst it s bs)) := by rw [← hr.out, List.drop_of_length_le (by omega)]; exact rfl
      clear hr
      cases it with
      | true =>
        simp only [Bool.toNat_true] at hacc
        have hcv := conv_own howb
        go_wp2_with (at_builtin; refine app1 tInl (.tmp 98) (.tmp 103) w.heap.size _ acc hown ⟨0, s, bs⟩ wr.heap.size rfl rfl rfl rfl rfl rfl (by omega) (by omega) ?_)
        intro g cap w1 ho hgr hat hb1
        have hbx := hbel.trans hb1
        have HN : Hid (nGo ps [] none = acc ++ [⟨0, s, bs⟩]) := hnr
        clear hnr hcv hgr hat hb1 hown howb
        have hrl : (acc ++ [(⟨0, s, bs⟩ : Inl)]).length = acc.length + 1 := by simp
        rw [← hrl] at ho ⊢
        generalize acc ++ [⟨0, s, bs⟩] = r at *
        clear hrl hacc hbl
        have HT : Hid (norm ps = trimSp r) := by unfold norm; rw [HN.out]; exact rfl
        clear HN
        by_cases hl : r.length = 0
        · have e0 : r = [] := List.eq_nil_of_length_eq_zero hl
          subst e0
          go_wp2
          go_ret
          exact ⟨_, rfl, by rw [HT.out]; exact ho.ownR, hbx⟩
        · obtain ⟨g, hao, _, hglt, hgc, hgc2⟩ := ho.formS (by omega)
          cases hao
          have hlp : (0 : Int) < (r.length : Int) := by omega
          have hl1 : 0 < r.length := by omega
          have hl2 : r.length - 1 < r.length := by omega
          have hc0 := ho.cellAt 0 hl1 0 (by simp [tInl])
          have hcl := ho.cellAt (r.length - 1) hl2 0 (by simp [tInl])
          by_cases hf : r[0].kind = 1
          · simp [tInl, hf] at hc0
            have hd := ho.ownR.drop1 hl1
            have HD : Hid (trimSp r = dropLs (r.drop 1)) := by unfold trimSp; rw [dropHd_yes r hl1 hf]; exact rfl
            clear hf
            by_cases hn1 : r.length = 1
            · have hdn : r.drop 1 = [] := List.drop_of_length_le (by omega)
              rw [hdn] at hd HD
              have hlz : ¬ (1 : Int) < (r.length : Int) := by omega
              have hlz0 : r.length - 1 = 0 := by omega
              rw [hlz0] at hd
              by_cases hcap1 : cap = 1
              · rw [if_pos hcap1, hcap1] at hd
                go_wp2
                go_ret
                refine ⟨_, rfl, ?_, hbx⟩
                rw [HT.out, HD.out]
                exact hd
              · rw [if_neg hcap1] at hd
                go_wp2
                go_ret
                refine ⟨_, rfl, ?_, hbx⟩
                rw [HT.out, HD.out]
                exact hd
            · have hcap1 : ¬ cap = 1 := by omega
              rw [if_neg hcap1] at hd
              have hl3 : r.length - 1 < r.length := by omega
              have hn2 : 0 < (r.drop 1).length := by simp; omega
              have hcl1 : w1.cell? ⟨g, 3 + (r.length - 1 - 1) * 3, none⟩ = some (.int .i64 r[r.length - 1].kind) := by
                rw [show 3 + (r.length - 1 - 1) * 3 = (r.length - 1) * 3 by omega]; simpa [tInl] using hcl
              have hcl2 : w1.cell? ⟨g, 3 + (r.length - 2) * 3, none⟩ = some (.int .i64 r[r.length - 1].kind) := by
                rw [show 3 + (r.length - 2) * 3 = (r.length - 1) * 3 by omega]; simpa [tInl] using hcl
              have hlast : lastSp (r.drop 1) = decide (r[r.length - 1].kind = 1) := by
                rw [lastSp_last _ hn2]; congr 3; simp; congr 1; omega
              by_cases hlk : r[r.length - 1].kind = 1
              · have hlb : (r[r.length - 1].kind == 1) = true := beq_iff_eq.2 hlk
                rw [hlk] at hcl1 hcl2
                have HX : Hid (dropLs (r.drop 1) = (r.drop 1).take (r.length - 1 - 1)) := by unfold dropLs; rw [hlast, if_pos (decide_eq_true hlk), List.length_drop]; exact rfl
                clear hcl hlast hlk
                go_wp2
                go_ret
                refine ⟨_, rfl, ?_, hbx⟩
                rw [HT.out, HD.out, HX.out]
                exact hd.take _ (by simp)
              · have hlb : (r[r.length - 1].kind == 1) = false := beq_eq_false_iff_ne.2 hlk
                have HX : Hid (dropLs (r.drop 1) = r.drop 1) := by unfold dropLs; rw [hlast, if_neg (by simpa using hlk)]; exact rfl
                clear hcl hlast
                go_wp2
                go_ret
                refine ⟨_, rfl, ?_, hbx⟩
                rw [HT.out, HD.out, HX.out]
                exact hd
          · simp [tInl] at hc0 hcl
            have hfb : (r[0].kind == 1) = false := beq_eq_false_iff_ne.2 hf
            by_cases hlk : r[r.length - 1].kind = 1
            · have hlb : (r[r.length - 1].kind == 1) = true := beq_iff_eq.2 hlk
              rw [hlk] at hcl
              go_wp2
              go_ret
              refine ⟨_, rfl, ?_, hbx⟩
              rw [HT.out, trimSp, dropHd_no r hl1 hf, dropLs, if_pos (by rw [lastSp_last r hl1]; exact decide_eq_true hlk)]
              exact ho.ownR.take _ (by omega)
            · have hlb : (r[r.length - 1].kind == 1) = false := beq_eq_false_iff_ne.2 hlk
              go_wp2
              go_ret
              refine ⟨_, rfl, ?_, hbx⟩
              rw [HT.out, trimSp, dropHd_no r hl1 hf, dropLs, if_neg (by rw [lastSp_last r hl1]; simpa using hlk)]
              exact ho.ownR
      | false =>
        simp only [Bool.toNat_false] at hacc
        have hbx := hbel
        have HN : Hid (nGo ps [] none = acc) := hnr
        have ho := hown
        clear hnr hown howb
        generalize acc = r at *
        have HT : Hid (norm ps = trimSp r) := by unfold norm; rw [HN.out]; exact rfl
        clear HN
        by_cases hl : r.length = 0
        · have e0 : r = [] := List.eq_nil_of_length_eq_zero hl
          subst e0
          go_wp2
          go_ret
          exact ⟨_, rfl, by rw [HT.out]; exact ho.ownR, hbx⟩
        · obtain ⟨g, hao, _, hglt, hgc, hgc2⟩ := ho.formS (by omega)
          cases hao
          have hlp : (0 : Int) < (r.length : Int) := by omega
          have hl1 : 0 < r.length := by omega
          have hl2 : r.length - 1 < r.length := by omega
          have hc0 := ho.cellAt 0 hl1 0 (by simp [tInl])
          have hcl := ho.cellAt (r.length - 1) hl2 0 (by simp [tInl])
          by_cases hf : r[0].kind = 1
          · simp [tInl, hf] at hc0
            have hd := ho.ownR.drop1 hl1
            have HD : Hid (trimSp r = dropLs (r.drop 1)) := by unfold trimSp; rw [dropHd_yes r hl1 hf]; exact rfl
            clear hf
            by_cases hn1 : r.length = 1
            · have hdn : r.drop 1 = [] := List.drop_of_length_le (by omega)
              rw [hdn] at hd HD
              have hlz : ¬ (1 : Int) < (r.length : Int) := by omega
              have hlz0 : r.length - 1 = 0 := by omega
              rw [hlz0] at hd
              by_cases hcap1 : cap = 1
              · rw [if_pos hcap1, hcap1] at hd
                go_wp2
                go_ret
                refine ⟨_, rfl, ?_, hbx⟩
                rw [HT.out, HD.out]
                exact hd
              · rw [if_neg hcap1] at hd
                go_wp2
                go_ret
                refine ⟨_, rfl, ?_, hbx⟩
                rw [HT.out, HD.out]
                exact hd
            · have hcap1 : ¬ cap = 1 := by omega
              rw [if_neg hcap1] at hd
              have hl3 : r.length - 1 < r.length := by omega
              have hn2 : 0 < (r.drop 1).length := by simp; omega
              have hcl1 : wr.cell? ⟨g, 3 + (r.length - 1 - 1) * 3, none⟩ = some (.int .i64 r[r.length - 1].kind) := by
                rw [show 3 + (r.length - 1 - 1) * 3 = (r.length - 1) * 3 by omega]; simpa [tInl] using hcl
              have hcl2 : wr.cell? ⟨g, 3 + (r.length - 2) * 3, none⟩ = some (.int .i64 r[r.length - 1].kind) := by
                rw [show 3 + (r.length - 2) * 3 = (r.length - 1) * 3 by omega]; simpa [tInl] using hcl
              have hlast : lastSp (r.drop 1) = decide (r[r.length - 1].kind = 1) := by
                rw [lastSp_last _ hn2]; congr 3; simp; congr 1; omega
              by_cases hlk : r[r.length - 1].kind = 1
              · have hlb : (r[r.length - 1].kind == 1) = true := beq_iff_eq.2 hlk
                rw [hlk] at hcl1 hcl2
                have HX : Hid (dropLs (r.drop 1) = (r.drop 1).take (r.length - 1 - 1)) := by unfold dropLs; rw [hlast, if_pos (decide_eq_true hlk), List.length_drop]; exact rfl
                clear hcl hlast hlk
                go_wp2
                go_ret
                refine ⟨_, rfl, ?_, hbx⟩
                rw [HT.out, HD.out, HX.out]
                exact hd.take _ (by simp)
              · have hlb : (r[r.length - 1].kind == 1) = false := beq_eq_false_iff_ne.2 hlk
                have HX : Hid (dropLs (r.drop 1) = r.drop 1) := by unfold dropLs; rw [hlast, if_neg (by simpa using hlk)]; exact rfl
                clear hcl hlast
                go_wp2
                go_ret
                refine ⟨_, rfl, ?_, hbx⟩
                rw [HT.out, HD.out, HX.out]
                exact hd
          · simp [tInl] at hc0 hcl
            have hfb : (r[0].kind == 1) = false := beq_eq_false_iff_ne.2 hf
            by_cases hlk : r[r.length - 1].kind = 1
            · have hlb : (r[r.length - 1].kind == 1) = true := beq_iff_eq.2 hlk
              rw [hlk] at hcl
              go_wp2
              go_ret
              refine ⟨_, rfl, ?_, hbx⟩
              rw [HT.out, trimSp, dropHd_no r hl1 hf, dropLs, if_pos (by rw [lastSp_last r hl1]; exact decide_eq_true hlk)]
              exact ho.ownR.take _ (by omega)
            · have hlb : (r[r.length - 1].kind == 1) = false := beq_eq_false_iff_ne.2 hlk
              go_wp2
              go_ret
              refine ⟨_, rfl, ?_, hbx⟩
              rw [HT.out, trimSp, dropHd_no r hl1 hf, dropLs, if_neg (by rw [lastSp_last r hl1]; simpa using hlk)]
              exact ho.ownR
end Go.Proofs.Ybuaaw
