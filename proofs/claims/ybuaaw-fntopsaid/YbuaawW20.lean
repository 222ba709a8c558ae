import Derived.Test.YbuaawMem3
import Derived.Test.YbuaawPlain8
import Derived.Test.YbuaawW4
namespace Go.Proofs.Ybuaaw
open Go.RowKit
attribute [local go_sem] mk_size mk_toList mk_getElem mk_extract take_len_drop mk_append_lit

theorem grown_below {w w' : World} {row : Option Nat} (h : Below w.heap.size w w') : w.grownBy w' row := ⟨h.os, h.tape, h.output, h.size, fun k hk _ => h.block k hk⟩
theorem closeB_zero (bs : List Blk) (cs : List (List UInt8)) : closeB bs 0 cs = bs := by simp [closeB]
theorem closeB_ne (bs : List Blk) (op : Int) (cs : List (List UInt8)) (h : op ≠ 0) : closeB bs op cs = bs ++ [⟨op, 0, tx cs⟩] := by simp [closeB, h]

set_option maxRecDepth 100000 in
set_option maxHeartbeats 4000000 in
theorem closeOpen_any (bs : List Blk) (op : Int) (cs : List (List UInt8)) (v cv : Value) (B : Nat) (w : World) (hB : B ≤ w.heap.size) (ho : Own w B tBlk v bs) (hc : op ≠ 0 → Rdd w w.heap.size tStr cv cs) (hn : bs.length ≤ 4294967296) (hcn : cs.length ≤ 4294967296) (hcs : slen cs ≤ 4294967296) :
    Calls Yaac.prog 65 #[v, .int .i64 op, cv] w fun e w' => ∃ v', e = .returned v' ∧ Own w' B tBlk v' (closeB bs op cs) ∧ w.grownBy w' v.ownBlock ∧ Below B w w' := by
  obtain ⟨ao, cap, rfl⟩ := ho.shape
  by_cases h0 : op = 0
  · subst h0
    go_enter Yaac.func65, Yaac.ntmps65
    go_wp2
    go_ret
    exact ⟨_, rfl, by rw [closeB_zero]; exact ho, ⟨rfl, rfl, rfl, Nat.le_refl _, fun _ _ _ => rfl⟩, Below.refl _ _⟩
  · have h1 := hc h0
    have h0b : (op == 0) = false := beq_eq_false_iff_ne.2 h0
    obtain ⟨c1, c2, rfl, _, _⟩ := h1.shape
    have htl : (tx cs).length ≤ 8589934592 := by have := tGo_len cs []; unfold tx; simp at this; omega
    go_enter Yaac.func65, Yaac.ntmps65
    go_wp2
    go_loopw [7, 15] (fun tv i wr => ∃ (k : Nat) (acc : List UInt8), k ≤ cs.length ∧ i = .int .i64 k ∧ Own wr w.heap.size tByte tv acc ∧ Below w.heap.size w wr ∧ Hid (tGo (cs.drop k) acc = tx cs)) (fun _ i _ => cs.length - (intOf i).toNat)
    case atStart => exact ⟨0, [], Nat.zero_le _, rfl, Own.nil _ _ _, Below.refl _ _, rfl⟩
    case round =>
      obtain ⟨k, acc, hk, rfl, hown, hbel, hr⟩ := hrel
      obtain ⟨to, tcap, rfl⟩ := hown.shape
      have hz := hbel.size
      have hal : acc.length ≤ (tx cs).length := by rw [← hr.out]; exact tGo_ge _ _
      by_cases hlt : k < cs.length
      · obtain ⟨b1, o1, rfl, hb1, hc1⟩ := (h1.below hbel).str k hlt
        have d1 := hc1 k hlt
        clear hc1
        have i1 : (k : Int) < (cs.length : Int) := by omega
        have hr' := hr.out
        rw [tGo_at cs k acc hlt] at hr'
        clear hr
        generalize cs[k] = c at *
        by_cases hce : c = []
        · rw [if_pos hce] at hr'
          have hlb : ((c.length : Int) == 0) = true := by subst hce; rfl
          have HR : Hid (tGo (cs.drop (k + 1)) acc = tx cs) := hr'
          clear hr' hce
          go_wp2
          go_roundw
          case rel => exact ⟨k + 1, acc, by omega, by go_num, hown, hbel, HR⟩
          case measure => simp [intOf]; omega
        · rw [if_neg hce] at hr'
          have hcp : 0 < c.length := by cases c with | nil => exact absurd rfl hce | cons _ _ => simp
          have hlb : ((c.length : Int) == 0) = false := beq_eq_false_iff_ne.2 (by omega)
          by_cases ha : acc = []
          · rw [if_pos ha] at hr'
            have HR : Hid (tGo (cs.drop (k + 1)) (acc ++ c) = tx cs) := hr'
            have hcl : (acc ++ c).length ≤ (tx cs).length := by rw [← HR.out]; exact tGo_ge _ _
            rw [List.length_append] at hcl
            have hab : ¬ (0 : Int) < (acc.length : Int) := by rw [ha]; simp
            have hz0 : acc.length = 0 := by rw [ha]; rfl
            have HZ : Hid (acc.length = 0) := hz0
            clear hr' ha hz0
            go_wp2_with (at_builtin; refine appS (.tmp 28) (.tmp 29) w.heap.size _ acc hown c rfl rfl rfl rfl (by omega) (by omega) ?_)
            intro ao' cap' w1 ho1 hgr hb2
            go_wp2
            go_roundw
            case rel => exact ⟨k + 1, acc ++ c, by omega, by go_num, by first | exact ho1 | simpa using ho1, hbel.trans hb2, HR⟩
            case measure => simp [intOf]; omega
          · rw [if_neg ha] at hr'
            have HR : Hid (tGo (cs.drop (k + 1)) (acc ++ [32] ++ c) = tx cs) := hr'
            have hcl : (acc ++ [32] ++ c).length ≤ (tx cs).length := by rw [← HR.out]; exact tGo_ge _ _
            simp only [List.length_append, List.length_cons, List.length_nil] at hcl
            have hap : 0 < acc.length := by cases acc with | nil => exact absurd rfl ha | cons _ _ => simp
            have hab : (0 : Int) < (acc.length : Int) := by omega
            clear hr'
            go_wp2_with (at_builtin; refine app1 tByte (.tmp 25) (.tmp 26) w.heap.size _ acc hown 32 _ rfl rfl rfl rfl rfl rfl (by omega) (by omega) ?_)
            intro g1 cap1 w1 ho1 hgr1 hat1 hb1'
            have hz1 := hb1'.size
            go_wp2_with (at_builtin; refine appS (.tmp 28) (.tmp 29) w.heap.size _ (acc ++ [32]) (by first | exact ho1 | simpa using ho1) c rfl rfl rfl rfl (by simp; omega) (by omega) ?_)
            intro ao' cap' w2 ho2 hgr2 hb2
            go_wp2
            go_roundw
            case rel => exact ⟨k + 1, acc ++ [32] ++ c, by omega, by go_num, by first | exact ho2 | simpa using ho2, (hbel.trans hb1').trans hb2, HR⟩
            case measure => simp [intOf]; omega
      · have HF : Hid (acc = tx cs) := by unfold Hid; rw [← hr.out, List.drop_of_length_le (by omega : cs.length ≤ k), tGo]
        clear hr
        have hcv := conv_own hown
        go_wp2_with (at_builtin; refine app1 tBlk (.tmp 32) (.tmp 37) B _ bs (ho.below hbel) ⟨op, 0, acc⟩ _ rfl rfl rfl rfl rfl rfl (by omega) (by omega) ?_)
        intro g1 cap1 w1 ho1 hgr1 hat1 hb1'
        go_wp2
        go_ret
        exact ⟨_, rfl, by rw [closeB_ne _ _ _ h0, ← HF.out]; exact ho1, grown_trans (grown_below hbel) hgr1, (hbel.mono hB).trans hb1'⟩

theorem keepNE_at (cs : List (List UInt8)) (k : Nat) (h : k < cs.length) : keepNE (cs.drop k) = (if cs[k] = [] then [] else [cs[k]]) ++ keepNE (cs.drop (k + 1)) := by
  rw [List.drop_eq_getElem_cons h]
  unfold keepNE
  by_cases e : cs[k] = []
  · rw [if_pos e, List.filter_cons_of_neg (by simp [e])]; rfl
  · rw [if_neg e, List.filter_cons_of_pos (by simpa using e)]; rfl

set_option maxRecDepth 100000 in
set_option maxHeartbeats 4000000 in
theorem closeOpenS_any (bs : List Blk) (op : Int) (cs : List (List UInt8)) (v cv : Value) (B : Nat) (w : World) (hB : B ≤ w.heap.size) (ho : Own w B tBlk v bs) (hc : op ≠ 0 → Rdd w w.heap.size tStr cv cs) (hn : bs.length ≤ 4294967296) (hcn : cs.length ≤ 4294967296) (hcs : slen cs ≤ 4294967296) :
    Calls Yaac.prog 66 #[v, .int .i64 op, cv] w fun e w' => ∃ v', e = .returned v' ∧ Own w' B tBlk v' (closeB bs op cs) ∧ w.grownBy w' v.ownBlock ∧ Below B w w' := by
  obtain ⟨ao, cap, rfl⟩ := ho.shape
  by_cases h0 : op = 0
  · subst h0
    go_enter Yaac.func66, Yaac.ntmps66
    go_wp2
    go_ret
    exact ⟨_, rfl, by rw [closeB_zero]; exact ho, ⟨rfl, rfl, rfl, Nat.le_refl _, fun _ _ _ => rfl⟩, Below.refl _ _⟩
  · have h1 := hc h0
    have h0b : (op == 0) = false := beq_eq_false_iff_ne.2 h0
    obtain ⟨c1, c2, rfl, _, _⟩ := h1.shape
    have htl : (join [32] (keepNE cs)).length ≤ 8589934592 := by rw [← tx_join]; have := tGo_len cs []; unfold tx; simp at this; omega
    go_enter Yaac.func66, Yaac.ntmps66
    go_wp2
    go_loopw [7, 8] (fun tv i wr => ∃ (k : Nat) (acc : List (List UInt8)), k ≤ cs.length ∧ i = .int .i64 k ∧ acc.length ≤ k ∧ Own wr w.heap.size tStr tv acc ∧ Below w.heap.size w wr ∧ Hid (acc ++ keepNE (cs.drop k) = keepNE cs)) (fun _ i _ => cs.length - (intOf i).toNat)
    case atStart => exact ⟨0, [], Nat.zero_le _, rfl, by simp, Own.nil _ _ _, Below.refl _ _, rfl⟩
    case round =>
      obtain ⟨k, acc, hk, rfl, hal, hown, hbel, hr⟩ := hrel
      obtain ⟨to, tcap, rfl⟩ := hown.shape
      have hz := hbel.size
      by_cases hlt : k < cs.length
      · obtain ⟨b1, o1, rfl, hb1, hc1⟩ := (h1.below hbel).str k hlt
        have d1 := hc1 k hlt
        clear hc1
        have i1 : (k : Int) < (cs.length : Int) := by omega
        have hr' := hr.out
        rw [keepNE_at cs k hlt] at hr'
        clear hr
        generalize cs[k] = c at *
        by_cases hce : c = []
        · rw [if_pos hce, List.nil_append] at hr'
          have hlb : (c == []) = true := by simp [hce]
          have hlb2 : c.isEmpty = true := by simp [hce]
          have HR : Hid (acc ++ keepNE (cs.drop (k + 1)) = keepNE cs) := hr'
          clear hr' hce
          go_wp2
          go_roundw
          case rel => exact ⟨k + 1, acc, by omega, by go_num, by omega, hown, hbel, HR⟩
          case measure => simp [intOf]; omega
        · rw [if_neg hce, ← List.append_assoc] at hr'
          have hlb : (c == []) = false := by simp [hce]
          have hlb2 : c.isEmpty = false := by simp [hce]
          have HR : Hid ((acc ++ [c]) ++ keepNE (cs.drop (k + 1)) = keepNE cs) := hr'
          clear hr'
          go_wp2_with (at_builtin; refine app1 tStr (.tmp 23) (.tmp 28) w.heap.size _ acc hown c _ rfl rfl rfl rfl rfl rfl (by omega) (by omega) ?_)
          intro g1 cap1 w1 ho1 hgr1 hat1 hb1'
          go_wp2
          go_roundw
          case rel => exact ⟨k + 1, acc ++ [c], by omega, by go_num, by simp; omega, by first | exact ho1 | simpa using ho1, hbel.trans hb1', HR⟩
          case measure => simp [intOf]; omega
      · have hf : acc = keepNE cs := by rw [← hr.out, List.drop_of_length_le (by omega : cs.length ≤ k)]; simp [keepNE]
        subst hf
        clear hr
        go_wp2_with fail
        refine (join_any [32] (keepNE cs) _ _ _ (Nat.le_refl _) hown.rdd (by omega)).mono ?_
        rintro e w2 ⟨rfl, hb2⟩
        have hz2 := hb2.size
        have hbw := hbel.trans (hb2.mono hz)
        go_wp2_with (at_builtin; refine app1 tBlk (.tmp 30) (.tmp 35) B _ bs (ho.below hbw) ⟨op, 0, join [32] (keepNE cs)⟩ _ rfl rfl rfl rfl rfl rfl (by omega) (by omega) ?_)
        intro g1 cap1 w1 ho1 hgr1 hat1 hb1'
        go_wp2
        go_ret
        exact ⟨_, rfl, by rw [closeB_ne _ _ _ h0, tx_join]; exact ho1, grown_trans (grown_below hbw) hgr1, (hbw.mono hB).trans hb1'⟩
end Go.Proofs.Ybuaaw
