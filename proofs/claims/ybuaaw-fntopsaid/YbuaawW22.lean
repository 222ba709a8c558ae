import Derived.Test.YbuaawW21
import Derived.Test.YbuaawW15
namespace Go.Proofs.Ybuaaw
open Go.RowKit
attribute [local go_sem] mk_size mk_toList mk_getElem mk_extract take_len_drop mk_append_lit

set_option maxRecDepth 100000 in
set_option maxHeartbeats 16000000 in
theorem parseBlocksS_any (l : List UInt8) (w : World) (hs : l.length ≤ 1048576) :
    Calls Yaac.prog 28 #[.string (mk l)] w fun e w' => ∃ v', e = .returned v' ∧ Own w' w.heap.size tBlk v' (pblocks l) ∧ Below w.heap.size w w' := by
  go_enter Yaac.func28, Yaac.ntmps28
  go_wp2_with fail
  refine (splitLinesS_any l _ (by omega)).mono ?_
  rintro e w1 ⟨v1, rfl, hrl, hbw1⟩
  rw [split_eq] at hrl
  have hz1 := hbw1.size
  obtain ⟨la, lcap, rfl, _, _⟩ := hrl.shape
  have hsl := split_slen l
  have hnl := split_len l
  have HP : Hid (pb (split l) none [] 0 [] = pblocks l) := rfl
  generalize split l = ls at *
  go_wp2
  go_loopw [4, 5, 6, 7] (fun bv ov cv iv wr => ∃ (k : Nat) (out : List Blk) (op : Int) (cs : List (List UInt8)), k ≤ ls.length ∧ iv = .int .i64 k ∧ ov = .int .i64 op ∧ out.length ≤ 2 * k ∧ cs.length ≤ k ∧ slen cs + slen (ls.drop k) ≤ slen ls ∧
      Own wr w1.heap.size tBlk bv out ∧ (op ≠ 0 → Own wr w1.heap.size tStr cv cs) ∧ (∃ ao n cap, cv = .slice ao n cap) ∧ Below w1.heap.size w1 wr ∧ Hid (pb (ls.drop k) none out op cs = pblocks l)) (fun _ _ _ iv _ => ls.length - (intOf iv).toNat)
  case atStart => exact ⟨0, [], 0, [], Nat.zero_le _, rfl, rfl, by simp, by simp, by simp [slen], Own.nil _ _ _, fun h => absurd rfl h, ⟨_, _, _, rfl⟩, Below.refl _ _, HP⟩
  case round =>
    obtain ⟨k, out, op, cs, hk, rfl, rfl, hol, hcl, hsc, hob, hoc, ⟨cao, cn, ccp, rfl⟩, hbel, hr⟩ := hrel
    obtain ⟨wx, rfl⟩ : ∃ wx : World, wx = wr := ⟨_, rfl⟩
    obtain ⟨bo, bcap, rfl⟩ := hob.shape
    have hz := hbel.size
    by_cases hlt : k < ls.length
    · obtain ⟨b1, o1, rfl, hb1, hc1⟩ := (hrl.below hbel).str k hlt
      have d1 := hc1 k hlt
      clear hc1
      have i1 : (k : Int) < (ls.length : Int) := by omega
      have hr' := hr.out
      rw [List.drop_eq_getElem_cons hlt] at hr'
      rw [slen_at ls k hlt] at hsc
      have hcb := closeB_len out op cs
      have hlen := slen_le ls _ (List.getElem_mem hlt)
      clear hr
      generalize ls[k] = ln at *
      obtain ⟨c, hc⟩ : ∃ c, c = classify ln := ⟨_, rfl⟩
      have hck := classify_kind ln
      have hcc := classify_len ln
      obtain ⟨kd, lv, ct⟩ := c
      rw [pb_step _ _ _ _ _ _ _ _ hc.symm] at hr'
      have HC1 : ∀ W, Calls Yaac.prog 25 #[.string (mk ln)] W fun e w' => e = .returned (.agg #[.int .i64 kd, .int .i64 lv, .string (mk ct)]) ∧ Below W.heap.size W w' := fun W => by
        have := classifyS_any ln W (by omega)
        rw [← hc] at this
        exact this
      rw [← hc] at hck hcc
      simp only at hck hcc
      clear hc
      go_wp2_with fail
      refine (HC1 _).mono ?_
      rintro e w2 ⟨rfl, hb2⟩
      have z2 := hb2.size
      obtain h | h | h | h | h | h | h : kd = 0 ∨ kd = 1 ∨ kd = 2 ∨ kd = 3 ∨ kd = 4 ∨ kd = 5 ∨ kd = 6 := by omega
      all_goals
        subst h
        clear hck HC1
      · have HR : Hid (pb (ls.drop (k + 1)) none (closeB out op cs) 0 [] = pblocks l) := by unfold Hid; rw [← hr']; simp
        clear hr'
        go_wp2_with fail
        refine (closeOpenS_any out op cs _ _ w1.heap.size _ (by simp; omega) ((hob.below hb2).alloc _) (fun h => ((hoc h).below hb2 |>.alloc _).rdd) (by omega) (by omega) (by omega)).mono ?_
        rintro e w3 ⟨v3, rfl, ho3, hg3, hb3⟩
        obtain ⟨po, pcap, rfl⟩ := ho3.shape
        have hli : w3.heap[w2.heap.size]? = some (.cells #[.int .i64 0, .int .i64 lv, .string (mk ct)] 33 (0, 0)) := blk_kept ((hob.below hb2).alloc _) hg3 (heap_alloc_new w2 _) (by simp [tBlk])
        have x1 := blk_cell (j := 1) hli rfl
        have x2 := blk_cell (j := 2) hli rfl
        have hbw3 : Below w1.heap.size w1 w3 := (hbel.trans (hb2.mono hz)).trans (((Below.refl _ _).alloc (by omega) _).trans hb3)
        have z3 := hbw3.size
        have z23 := hg3.size
        simp at z23
        go_wp2
        go_roundw
        case rel => exact ⟨k + 1, closeB out op cs, 0, [], by omega, by go_num, rfl, by first | omega | (simp; done) | (simp; omega), by first | omega | (simp; done) | (simp; omega), by first | omega | (simp [slen]; done) | (simp [slen]; omega) | (simp [slen, slen_append]; omega), ho3, fun h => absurd rfl h, ⟨_, _, _, rfl⟩, hbw3, HR⟩
        case measure => simp [intOf]; omega
      · have HR : Hid (pb (ls.drop (k + 1)) (some []) (closeB out op cs) 0 [] = pblocks l) := by unfold Hid; rw [← hr']; simp
        clear hr'
        go_wp2_with fail
        refine (closeOpenS_any out op cs _ _ w1.heap.size _ (by simp; omega) ((hob.below hb2).alloc _) (fun h => ((hoc h).below hb2 |>.alloc _).rdd) (by omega) (by omega) (by omega)).mono ?_
        rintro e w3 ⟨v3, rfl, ho3, hg3, hb3⟩
        obtain ⟨po, pcap, rfl⟩ := ho3.shape
        have hli : w3.heap[w2.heap.size]? = some (.cells #[.int .i64 1, .int .i64 lv, .string (mk ct)] 33 (0, 0)) := blk_kept ((hob.below hb2).alloc _) hg3 (heap_alloc_new w2 _) (by simp [tBlk])
        have x1 := blk_cell (j := 1) hli rfl
        have x2 := blk_cell (j := 2) hli rfl
        have hbw3 : Below w1.heap.size w1 w3 := (hbel.trans (hb2.mono hz)).trans (((Below.refl _ _).alloc (by omega) _).trans hb3)
        have z3 := hbw3.size
        have z23 := hg3.size
        simp at z23
        generalize closeB out op cs = ob at *
        go_wp2
        go_loopw [9, 7] (fun dv iv wr => ∃ (j : Nat) (cd : List (List UInt8)), k + 1 ≤ j ∧ j ≤ ls.length ∧ iv = .int .i64 j ∧ cd.length ≤ j ∧ slen cd + slen (ls.drop j) ≤ slen ls ∧ Own wr w1.heap.size tBlk (.slice po ob.length pcap) ob ∧ Own wr w1.heap.size tStr dv cd ∧ Below w1.heap.size w1 wr ∧ Hid (pb (ls.drop j) (some cd) ob 0 [] = pblocks l)) (fun _ iv _ => ls.length - (intOf iv).toNat)
        case atStart => exact ⟨k + 1, [], by omega, by omega, by go_num, by simp, by simp [slen]; omega, ho3, Own.nil _ _ _, hbw3, HR⟩
        case round =>
          obtain ⟨j, cd, hjk, hj, rfl, hdl, hsd, hob4, hod, hbj, hrj⟩ := hrel
          obtain ⟨wy, rfl⟩ : ∃ wy : World, wy = wr := ⟨_, rfl⟩
          obtain ⟨dvo, dcap, rfl⟩ := hod.shape
          have zj := hbj.size
          by_cases hjl : j < ls.length
          · obtain ⟨b4, o4, he, hb4', hc4⟩ := (hrl.below hbj).str j hjl
            simp only [Option.some.injEq, Addr.mk.injEq] at he
            obtain ⟨rfl, rfl, -⟩ := he
            have d4 := hc4 j hjl
            clear hc4
            have ij : (j : Int) < (ls.length : Int) := by omega
            have hrj' := hrj.out
            rw [pb_code ls j cd ob hjl] at hrj'
            rw [slen_at ls j hjl] at hsd
            clear hrj
            have hlm := slen_le ls _ (List.getElem_mem hjl)
            generalize ls[j] = lm at *
            cases htk : ticks lm with
            | true =>
              rw [if_pos htk] at hrj'
              have HR2 : Hid (pb (ls.drop (j + 1)) none (flushCode ob cd) 0 [] = pblocks l) := hrj'
              clear hrj'
              by_cases hcd : cd = []
              · have hcb : ¬ (0 : Int) < (cd.length : Int) := by rw [hcd]; simp
                have hfl : flushCode ob cd = ob := by unfold flushCode; rw [if_pos hcd]
                rw [hfl] at HR2
                clear hfl hcd
                go_wp2_with (go_at_call 62; refine (hasTicks_any lm _ (by unfold maxLen; omega)).mono ?_; rw [htk]; rintro e w' ⟨rfl, rfl⟩)
                go_roundw
                case rel => exact ⟨j + 1, ob, 0, [], by omega, by go_num, rfl, by first | omega | (simp; omega), by simp, by simp [slen]; first | omega | exact slen_drop_le _ _, hob4, fun h => absurd rfl h, ⟨_, _, _, rfl⟩, hbj, HR2⟩
                case measure => simp [intOf]; omega
              · have hcl0 : 0 < cd.length := by cases cd with | nil => exact absurd rfl hcd | cons _ _ => simp
                have hcb : (0 : Int) < (cd.length : Int) := by omega
                have hfl : flushCode ob cd = ob ++ [⟨5, 0, join [10] cd⟩] := by unfold flushCode; rw [if_neg hcd]
                rw [hfl] at HR2
                have hju : (join [10] cd).length ≤ 8589934592 := by have := joinGo_up [10] cd 0 []; unfold join; simp at this; omega
                clear hfl hcd
                go_wp2_with (go_at_call 62; refine (hasTicks_any lm _ (by unfold maxLen; omega)).mono ?_; rw [htk]; rintro e w' ⟨rfl, rfl⟩)
                refine (join_any [10] cd _ _ _ (Nat.le_refl _) hod.rdd (by omega)).mono ?_
                rintro e w6 ⟨rfl, hb6⟩
                have z6 := hb6.size
                go_wp2_with (at_builtin; refine app1 tBlk (.tmp 85) (.tmp 89) w1.heap.size _ ob (hob4.below hb6) ⟨5, 0, join [10] cd⟩ _ rfl rfl rfl rfl rfl rfl (by first | omega | (simp; omega)) (by first | omega | (simp; omega)) ?_)
                intro g7 cap7 w7 ho7 hgr7 hat7 hb7
                go_wp2
                go_roundw
                case rel => exact ⟨j + 1, ob ++ [⟨5, 0, join [10] cd⟩], 0, [], by omega, by go_num, rfl, by first | omega | (simp; omega), by simp, by simp [slen]; first | omega | exact slen_drop_le _ _, by first | exact ho7 | simpa using ho7, fun h => absurd rfl h, ⟨_, _, _, rfl⟩, (hbj.trans (hb6.mono zj)).trans hb7, HR2⟩
                case measure => simp [intOf]; omega
            | false =>
              rw [if_neg (by rw [htk]; simp)] at hrj'
              have HR2 : Hid (pb (ls.drop (j + 1)) (some (cd ++ [lm])) ob 0 [] = pblocks l) := hrj'
              clear hrj'
              go_wp2_with (first | (go_at_call 62; refine (hasTicks_any lm _ (by unfold maxLen; omega)).mono ?_; rw [htk]; rintro e w' ⟨rfl, rfl⟩) | (at_builtin; refine app1 tStr (.tmp 67) (.tmp 72) w1.heap.size _ cd hod lm _ rfl rfl rfl rfl rfl rfl (by first | omega | (simp; omega)) (by first | omega | (simp; omega)) ?_))
              intro g5 cap5 w5 ho5 hgr5 hat5 hb5
              go_wp2
              go_roundw
              case rel => exact ⟨j + 1, cd ++ [lm], by omega, by omega, by go_num, by simp; omega, by simp [slen, slen_append]; omega, hob4.apart hod hgr5 (by simp [tBlk, tStr]), by first | exact ho5 | simpa using ho5, hbj.trans hb5, HR2⟩
              case measure => simp [intOf]; omega
          · have HR2 : Hid (pb (ls.drop j) none (flushCode ob cd) 0 [] = pblocks l) := by unfold Hid; rw [← hrj.out, List.drop_of_length_le (by omega : ls.length ≤ j), pb, pb, closeB_zero]
            have ij : ¬ (j : Int) < (ls.length : Int) := by omega
            clear hrj
            by_cases hcd : cd = []
            · have hcb : ¬ (0 : Int) < (cd.length : Int) := by rw [hcd]; simp
              have hfl : flushCode ob cd = ob := by unfold flushCode; rw [if_pos hcd]
              rw [hfl] at HR2
              clear hfl hcd
              go_wp2_with fail
              go_roundw
              case rel => exact ⟨j, ob, 0, [], by omega, by go_num, rfl, by first | omega | (simp; omega), by simp, by simp [slen]; first | omega | exact slen_drop_le _ _, hob4, fun h => absurd rfl h, ⟨_, _, _, rfl⟩, hbj, HR2⟩
              case measure => simp [intOf]; omega
            · have hcl0 : 0 < cd.length := by cases cd with | nil => exact absurd rfl hcd | cons _ _ => simp
              have hcb : (0 : Int) < (cd.length : Int) := by omega
              have hfl : flushCode ob cd = ob ++ [⟨5, 0, join [10] cd⟩] := by unfold flushCode; rw [if_neg hcd]
              rw [hfl] at HR2
              have hju : (join [10] cd).length ≤ 8589934592 := by have := joinGo_up [10] cd 0 []; unfold join; simp at this; omega
              clear hfl hcd
              go_wp2_with fail
              refine (join_any [10] cd _ _ _ (Nat.le_refl _) hod.rdd (by omega)).mono ?_
              rintro e w6 ⟨rfl, hb6⟩
              have z6 := hb6.size
              go_wp2_with (at_builtin; refine app1 tBlk (.tmp 85) (.tmp 89) w1.heap.size _ ob (hob4.below hb6) ⟨5, 0, join [10] cd⟩ _ rfl rfl rfl rfl rfl rfl (by first | omega | (simp; omega)) (by first | omega | (simp; omega)) ?_)
              intro g7 cap7 w7 ho7 hgr7 hat7 hb7
              go_wp2
              go_roundw
              case rel => exact ⟨j, ob ++ [⟨5, 0, join [10] cd⟩], 0, [], by omega, by go_num, rfl, by first | omega | (simp; omega), by simp, by simp [slen]; first | omega | exact slen_drop_le _ _, by first | exact ho7 | simpa using ho7, fun h => absurd rfl h, ⟨_, _, _, rfl⟩, (hbj.trans (hb6.mono zj)).trans hb7, HR2⟩
              case measure => simp [intOf]; omega
      · have HR : Hid (pb (ls.drop (k + 1)) none (closeB out op cs ++ [⟨2, lv, ct⟩]) 0 [] = pblocks l) := by unfold Hid; rw [← hr']; simp
        clear hr'
        go_wp2_with fail
        refine (closeOpenS_any out op cs _ _ w1.heap.size _ (by simp; omega) ((hob.below hb2).alloc _) (fun h => ((hoc h).below hb2 |>.alloc _).rdd) (by omega) (by omega) (by omega)).mono ?_
        rintro e w3 ⟨v3, rfl, ho3, hg3, hb3⟩
        obtain ⟨po, pcap, rfl⟩ := ho3.shape
        have hli : w3.heap[w2.heap.size]? = some (.cells #[.int .i64 2, .int .i64 lv, .string (mk ct)] 33 (0, 0)) := blk_kept ((hob.below hb2).alloc _) hg3 (heap_alloc_new w2 _) (by simp [tBlk])
        have x1 := blk_cell (j := 1) hli rfl
        have x2 := blk_cell (j := 2) hli rfl
        have hbw3 : Below w1.heap.size w1 w3 := (hbel.trans (hb2.mono hz)).trans (((Below.refl _ _).alloc (by omega) _).trans hb3)
        have z3 := hbw3.size
        have z23 := hg3.size
        simp at z23
        go_wp2_with (at_builtin; refine app1 tBlk (.tmp 97) (.tmp 103) w1.heap.size _ (closeB out op cs) ho3 ⟨2, lv, ct⟩ _ rfl rfl rfl rfl rfl rfl (by first | omega | (simp; omega)) (by first | omega | (simp; omega)) ?_)
        intro g4 cap4 w4 ho4 hgr4 hat4 hb4
        go_wp2
        go_roundw
        case rel => exact ⟨k + 1, closeB out op cs ++ [⟨2, lv, ct⟩], 0, [], by omega, by go_num, rfl, by first | omega | (simp; done) | (simp; omega), by first | omega | (simp; done) | (simp; omega), by first | omega | (simp [slen]; done) | (simp [slen]; omega) | (simp [slen, slen_append]; omega), by first | exact ho4 | simpa using ho4, fun h => absurd rfl h, ⟨_, _, _, rfl⟩, hbw3.trans hb4, HR⟩
        case measure => simp [intOf]; omega
      · have HR : Hid (pb (ls.drop (k + 1)) none (closeB out op cs ++ [⟨6, 0, []⟩]) 0 [] = pblocks l) := by unfold Hid; rw [← hr']; simp
        clear hr'
        go_wp2_with fail
        refine (closeOpenS_any out op cs _ _ w1.heap.size _ (by simp; omega) ((hob.below hb2).alloc _) (fun h => ((hoc h).below hb2 |>.alloc _).rdd) (by omega) (by omega) (by omega)).mono ?_
        rintro e w3 ⟨v3, rfl, ho3, hg3, hb3⟩
        obtain ⟨po, pcap, rfl⟩ := ho3.shape
        have hli : w3.heap[w2.heap.size]? = some (.cells #[.int .i64 3, .int .i64 lv, .string (mk ct)] 33 (0, 0)) := blk_kept ((hob.below hb2).alloc _) hg3 (heap_alloc_new w2 _) (by simp [tBlk])
        have x1 := blk_cell (j := 1) hli rfl
        have x2 := blk_cell (j := 2) hli rfl
        have hbw3 : Below w1.heap.size w1 w3 := (hbel.trans (hb2.mono hz)).trans (((Below.refl _ _).alloc (by omega) _).trans hb3)
        have z3 := hbw3.size
        have z23 := hg3.size
        simp at z23
        go_wp2_with (at_builtin; refine app1 tBlk (.tmp 111) (.tmp 113) w1.heap.size _ (closeB out op cs) ho3 ⟨6, 0, []⟩ _ rfl rfl rfl rfl rfl rfl (by first | omega | (simp; omega)) (by first | omega | (simp; omega)) ?_)
        intro g4 cap4 w4 ho4 hgr4 hat4 hb4
        go_wp2
        go_roundw
        case rel => exact ⟨k + 1, closeB out op cs ++ [⟨6, 0, []⟩], 0, [], by omega, by go_num, rfl, by first | omega | (simp; done) | (simp; omega), by first | omega | (simp; done) | (simp; omega), by first | omega | (simp [slen]; done) | (simp [slen]; omega) | (simp [slen, slen_append]; omega), by first | exact ho4 | simpa using ho4, fun h => absurd rfl h, ⟨_, _, _, rfl⟩, hbw3.trans hb4, HR⟩
        case measure => simp [intOf]; omega
      · have HR : Hid (pb (ls.drop (k + 1)) none (closeB out op cs) 3 [ct] = pblocks l) := by unfold Hid; rw [← hr']; simp
        clear hr'
        go_wp2_with fail
        refine (closeOpenS_any out op cs _ _ w1.heap.size _ (by simp; omega) ((hob.below hb2).alloc _) (fun h => ((hoc h).below hb2 |>.alloc _).rdd) (by omega) (by omega) (by omega)).mono ?_
        rintro e w3 ⟨v3, rfl, ho3, hg3, hb3⟩
        obtain ⟨po, pcap, rfl⟩ := ho3.shape
        have hli : w3.heap[w2.heap.size]? = some (.cells #[.int .i64 4, .int .i64 lv, .string (mk ct)] 33 (0, 0)) := blk_kept ((hob.below hb2).alloc _) hg3 (heap_alloc_new w2 _) (by simp [tBlk])
        have x1 := blk_cell (j := 1) hli rfl
        have x2 := blk_cell (j := 2) hli rfl
        have hbw3 : Below w1.heap.size w1 w3 := (hbel.trans (hb2.mono hz)).trans (((Below.refl _ _).alloc (by omega) _).trans hb3)
        have z3 := hbw3.size
        have z23 := hg3.size
        simp at z23
        go_wp2
        go_roundw
        case rel => exact ⟨k + 1, closeB out op cs, 3, [ct], by omega, by go_num, rfl, by first | omega | (simp; done) | (simp; omega), by first | omega | (simp; done) | (simp; omega), by first | omega | (simp [slen]; done) | (simp [slen]; omega) | (simp [slen, slen_append]; omega), ho3.alloc _, fun _ => own_lit w3 _ ct z3, ⟨_, _, _, rfl⟩, hbw3.trans ((Below.refl _ _).alloc z3 _), HR⟩
        case measure => simp [intOf]; omega
      · rw [if_neg (by decide), if_neg (by decide), if_neg (by decide), if_neg (by decide), if_neg (by decide), if_pos rfl] at hr'
        by_cases h4 : op = 4
        · have h4b : (op == 4) = true := beq_iff_eq.2 h4
          have hop0 : op ≠ 0 := by omega
          rw [if_pos h4] at hr'
          have HR : Hid (pb (ls.drop (k + 1)) none out op (cs ++ [ct]) = pblocks l) := hr'
          clear hr' h4
          have hoc' := hoc hop0
          obtain ⟨co, ccap, hsh⟩ := hoc'.shape
          simp only [Value.slice.injEq] at hsh
          obtain ⟨rfl, rfl, rfl⟩ := hsh
          go_wp2_with (at_builtin; refine app1 tStr (.tmp 128) (.tmp 131) w1.heap.size _ cs ((hoc'.below hb2).alloc _) ct (w2.heap.size + 1) (by simp) rfl rfl rfl rfl rfl (by first | omega | (simp; omega)) (by first | omega | (simp; omega)) ?_)
          intro g4 cap4 w4 ho4 hgr4 hat4 hb4
          go_wp2
          go_roundw
          case rel => exact ⟨k + 1, out, op, cs ++ [ct], by omega, by go_num, rfl, by first | omega | (simp; done) | (simp; omega), by first | omega | (simp; done) | (simp; omega), by first | omega | (simp [slen]; done) | (simp [slen]; omega) | (simp [slen, slen_append]; omega), Own.apart ((hob.below hb2).alloc _) ((hoc'.below hb2).alloc _) hgr4 (by simp [tBlk, tStr]), fun _ => by first | exact ho4 | simpa using ho4, ⟨_, _, _, rfl⟩, (hbel.trans (hb2.mono hz)).trans (((Below.refl _ _).alloc (by omega) _).trans hb4), HR⟩
          case measure => simp [intOf]; omega
        · have h4b : (op == 4) = false := beq_eq_false_iff_ne.2 h4
          rw [if_neg h4] at hr'
          have HR : Hid (pb (ls.drop (k + 1)) none (closeB out op cs) 4 [ct] = pblocks l) := hr'
          clear hr'
          go_wp2_with fail
          refine (closeOpenS_any out op cs _ _ w1.heap.size _ (by simp; omega) ((hob.below hb2).alloc _) (fun h => ((hoc h).below hb2 |>.alloc _).rdd) (by omega) (by omega) (by omega)).mono ?_
          rintro e w3 ⟨v3, rfl, ho3, hg3, hb3⟩
          obtain ⟨po, pcap, rfl⟩ := ho3.shape
          have hli : w3.heap[w2.heap.size]? = some (.cells #[.int .i64 5, .int .i64 lv, .string (mk ct)] 33 (0, 0)) := blk_kept ((hob.below hb2).alloc _) hg3 (heap_alloc_new w2 _) (by simp [tBlk])
          have x1 := blk_cell (j := 1) hli rfl
          have x2 := blk_cell (j := 2) hli rfl
          have hbw3 : Below w1.heap.size w1 w3 := (hbel.trans (hb2.mono hz)).trans (((Below.refl _ _).alloc (by omega) _).trans hb3)
          have z3 := hbw3.size
          have z23 := hg3.size
          simp at z23
          go_wp2
          go_roundw
          case rel => exact ⟨k + 1, closeB out op cs, 4, [ct], by omega, by go_num, rfl, by first | omega | (simp; done) | (simp; omega), by first | omega | (simp; done) | (simp; omega), by first | omega | (simp [slen]; done) | (simp [slen]; omega) | (simp [slen, slen_append]; omega), ho3.alloc _, fun _ => own_lit w3 _ ct z3, ⟨_, _, _, rfl⟩, hbw3.trans ((Below.refl _ _).alloc z3 _), HR⟩
          case measure => simp [intOf]; omega
      · rw [if_neg (by decide), if_neg (by decide), if_neg (by decide), if_neg (by decide), if_neg (by decide), if_neg (by decide)] at hr'
        by_cases h1 : op = 1
        · have h1b : (op == 1) = true := beq_iff_eq.2 h1
          have hop0 : op ≠ 0 := by omega
          rw [if_pos (.inl h1)] at hr'
          have HR : Hid (pb (ls.drop (k + 1)) none out op (cs ++ [ct]) = pblocks l) := hr'
          clear hr' h1
          have hoc' := hoc hop0
          obtain ⟨co, ccap, hsh⟩ := hoc'.shape
          simp only [Value.slice.injEq] at hsh
          obtain ⟨rfl, rfl, rfl⟩ := hsh
          go_wp2_with (at_builtin; refine app1 tStr (.tmp 31) (.tmp 34) w1.heap.size _ cs ((hoc'.below hb2).alloc _) ct (w2.heap.size + 1) (by simp) rfl rfl rfl rfl rfl (by first | omega | (simp; omega)) (by first | omega | (simp; omega)) ?_)
          intro g4 cap4 w4 ho4 hgr4 hat4 hb4
          go_wp2
          go_roundw
          case rel => exact ⟨k + 1, out, op, cs ++ [ct], by omega, by go_num, rfl, by first | omega | (simp; done) | (simp; omega), by first | omega | (simp; done) | (simp; omega), by first | omega | (simp [slen]; done) | (simp [slen]; omega) | (simp [slen, slen_append]; omega), Own.apart ((hob.below hb2).alloc _) ((hoc'.below hb2).alloc _) hgr4 (by simp [tBlk, tStr]), fun _ => by first | exact ho4 | simpa using ho4, ⟨_, _, _, rfl⟩, (hbel.trans (hb2.mono hz)).trans (((Below.refl _ _).alloc (by omega) _).trans hb4), HR⟩
          case measure => simp [intOf]; omega
        · have h1b : (op == 1) = false := beq_eq_false_iff_ne.2 h1
          by_cases h3 : op = 3
          · have h3b : (op == 3) = true := beq_iff_eq.2 h3
            have hop0 : op ≠ 0 := by omega
            rw [if_pos (.inr h3)] at hr'
            have HR : Hid (pb (ls.drop (k + 1)) none out op (cs ++ [ct]) = pblocks l) := hr'
            clear hr' h3
            have hoc' := hoc hop0
            obtain ⟨co, ccap, hsh⟩ := hoc'.shape
            simp only [Value.slice.injEq] at hsh
            obtain ⟨rfl, rfl, rfl⟩ := hsh
            go_wp2_with (at_builtin; refine app1 tStr (.tmp 31) (.tmp 34) w1.heap.size _ cs ((hoc'.below hb2).alloc _) ct (w2.heap.size + 1) (by simp) rfl rfl rfl rfl rfl (by first | omega | (simp; omega)) (by first | omega | (simp; omega)) ?_)
            intro g4 cap4 w4 ho4 hgr4 hat4 hb4
            go_wp2
            go_roundw
            case rel => exact ⟨k + 1, out, op, cs ++ [ct], by omega, by go_num, rfl, by first | omega | (simp; done) | (simp; omega), by first | omega | (simp; done) | (simp; omega), by first | omega | (simp [slen]; done) | (simp [slen]; omega) | (simp [slen, slen_append]; omega), Own.apart ((hob.below hb2).alloc _) ((hoc'.below hb2).alloc _) hgr4 (by simp [tBlk, tStr]), fun _ => by first | exact ho4 | simpa using ho4, ⟨_, _, _, rfl⟩, (hbel.trans (hb2.mono hz)).trans (((Below.refl _ _).alloc (by omega) _).trans hb4), HR⟩
            case measure => simp [intOf]; omega
          · have h3b : (op == 3) = false := beq_eq_false_iff_ne.2 h3
            rw [if_neg (by omega)] at hr'
            have HR : Hid (pb (ls.drop (k + 1)) none (closeB out op cs) 1 [ct] = pblocks l) := hr'
            clear hr'
            go_wp2_with fail
            refine (closeOpenS_any out op cs _ _ w1.heap.size _ (by simp; omega) ((hob.below hb2).alloc _) (fun h => ((hoc h).below hb2 |>.alloc _).rdd) (by omega) (by omega) (by omega)).mono ?_
            rintro e w3 ⟨v3, rfl, ho3, hg3, hb3⟩
            obtain ⟨po, pcap, rfl⟩ := ho3.shape
            have hli : w3.heap[w2.heap.size]? = some (.cells #[.int .i64 6, .int .i64 lv, .string (mk ct)] 33 (0, 0)) := blk_kept ((hob.below hb2).alloc _) hg3 (heap_alloc_new w2 _) (by simp [tBlk])
            have x1 := blk_cell (j := 1) hli rfl
            have x2 := blk_cell (j := 2) hli rfl
            have hbw3 : Below w1.heap.size w1 w3 := (hbel.trans (hb2.mono hz)).trans (((Below.refl _ _).alloc (by omega) _).trans hb3)
            have z3 := hbw3.size
            have z23 := hg3.size
            simp at z23
            go_wp2
            go_roundw
            case rel => exact ⟨k + 1, closeB out op cs, 1, [ct], by omega, by go_num, rfl, by first | omega | (simp; done) | (simp; omega), by first | omega | (simp; done) | (simp; omega), by first | omega | (simp [slen]; done) | (simp [slen]; omega) | (simp [slen, slen_append]; omega), ho3.alloc _, fun _ => own_lit w3 _ ct z3, ⟨_, _, _, rfl⟩, hbw3.trans ((Below.refl _ _).alloc z3 _), HR⟩
            case measure => simp [intOf]; omega
    · go_wp2_with fail
      refine (closeOpenS_any out op cs _ _ w1.heap.size _ hz hob (fun h => (hoc h).rdd) (by omega) (by omega) (by omega)).mono ?_
      rintro e w3 ⟨v3, rfl, ho3, hg3, hb3⟩
      have HF : Hid (closeB out op cs = pblocks l) := by unfold Hid; rw [← hr.out, List.drop_of_length_le (by omega : ls.length ≤ k), pb]
      go_wp2
      go_ret
      exact ⟨_, rfl, by rw [← HF.out]; exact ho3.base (by omega), hbw1.trans ((hbel.trans hb3).mono (by omega))⟩

end Go.Proofs.Ybuaaw
