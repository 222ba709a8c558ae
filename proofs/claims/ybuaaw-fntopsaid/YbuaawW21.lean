import Derived.Test.YbuaawW2
import Derived.Test.YbuaawW17
import Derived.Test.YbuaawW20
import Derived.Deep.DeepCutAuto
namespace Go.Proofs.Ybuaaw
open Go.RowKit
attribute [local go_sem] mk_size mk_toList mk_getElem mk_extract take_len_drop mk_append_lit

theorem own_lit (w : World) (B : Nat) (x : List UInt8) (hB : B ≤ w.heap.size) : Own (w.alloc (.cells #[.string (mk x)] 9)) B tStr (.slice (some ⟨w.heap.size, 0, none⟩) 1 1) [x] := by
  have := World.ownsRow_lit (base := B) (e := 9) (size := 1) w #[.string (mk x)] 1 hB (by unfold maxLen; omega) (by simp)
  simpa [Own, cells, tStr] using this
theorem joinGo_slen (sep : List UInt8) (ps : List (List UInt8)) (i : Nat) (acc : List UInt8) : acc.length + slen ps ≤ (joinGo sep ps i acc).length := by
  induction ps generalizing i acc with
  | nil => simp [slen, joinGo]
  | cons p ps ih =>
    rw [joinGo]
    refine Nat.le_trans ?_ (ih _ _)
    split <;> simp [slen] <;> omega
theorem joinGo_up (sep : List UInt8) (ps : List (List UInt8)) (i : Nat) (acc : List UInt8) : (joinGo sep ps i acc).length ≤ acc.length + slen ps + sep.length * ps.length := by
  induction ps generalizing i acc with
  | nil => simp [slen, joinGo]
  | cons p ps ih =>
    rw [joinGo]
    refine Nat.le_trans (ih _ _) ?_
    rw [List.length_cons, Nat.mul_succ]
    split <;> simp [slen] <;> omega
theorem split_slen (l : List UInt8) : slen (split l) ≤ l.length := by
  by_cases h : 0 < l.length
  · have e := split_back l h
    have h1 := joinGo_slen [10] (split l) 0 []
    have h2 := congrArg List.length e
    unfold join at h2
    simp at h1
    split at h2
    · simp at h2; omega
    · omega
  · have : l = [] := List.eq_nil_of_length_eq_zero (by omega)
    subst this
    simp [split, splitGo, slen]
theorem pb_step (l : List UInt8) (ls : List (List UInt8)) (out : List Blk) (op : Int) (cs : List (List UInt8)) (kd lv : Int) (ct : List UInt8) (h : classify l = ⟨kd, lv, ct⟩) : pb (l :: ls) none out op cs =
    if kd = 0 then pb ls none (closeB out op cs) 0 []
    else if kd = 1 then pb ls (some []) (closeB out op cs) 0 []
    else if kd = 2 then pb ls none (closeB out op cs ++ [⟨2, lv, ct⟩]) 0 []
    else if kd = 3 then pb ls none (closeB out op cs ++ [⟨6, 0, []⟩]) 0 []
    else if kd = 4 then pb ls none (closeB out op cs) 3 [ct]
    else if kd = 5 then (if op = 4 then pb ls none out op (cs ++ [ct]) else pb ls none (closeB out op cs) 4 [ct])
    else if op = 1 ∨ op = 3 then pb ls none out op (cs ++ [ct])
    else pb ls none (closeB out op cs) 1 [ct] := by rw [pb, h]
theorem closeB_len (out : List Blk) (op : Int) (cs : List (List UInt8)) : (closeB out op cs).length ≤ out.length + 1 := by unfold closeB; split <;> simp
theorem flushCode_len (out : List Blk) (cd : List (List UInt8)) : (flushCode out cd).length ≤ out.length + 1 := by unfold flushCode; split <;> simp
theorem pb_code (ls : List (List UInt8)) (k : Nat) (cd : List (List UInt8)) (out : List Blk) (hk : k < ls.length) : pb (ls.drop k) (some cd) out 0 [] = if ticks ls[k] = true then pb (ls.drop (k + 1)) none (flushCode out cd) 0 [] else pb (ls.drop (k + 1)) (some (cd ++ [ls[k]])) out 0 [] := by
  rw [List.drop_eq_getElem_cons hk, pb]
theorem slen_le (ps : List (List UInt8)) (p : List UInt8) (hp : p ∈ ps) : p.length ≤ slen ps := by
  induction ps with
  | nil => cases hp
  | cons q ps ih =>
    rcases List.mem_cons.1 hp with h | h
    · subst h; simp only [slen]; omega
    · have := ih h; simp only [slen]; omega

theorem slen_drop_le (ps : List (List UInt8)) (k : Nat) : slen (ps.drop k) ≤ slen ps := by
  induction ps generalizing k with
  | nil => simp [slen]
  | cons q ps ih =>
    cases k with
    | zero => simp
    | succ k => simp only [List.drop_succ_cons, slen]; have := ih k; omega

set_option maxRecDepth 100000 in
set_option maxHeartbeats 16000000 in
theorem parseBlocks_any (l : List UInt8) (w : World) (hs : l.length ≤ 1048576) :
    Calls Yaac.prog 26 #[.string (mk l)] w fun e w' => ∃ v', e = .returned v' ∧ Own w' w.heap.size tBlk v' (pblocks l) ∧ Below w.heap.size w w' := by
  go_enter Yaac.func26, Yaac.ntmps26
  go_wp2_with fail
  refine (splitLines_any l _ (by omega)).mono ?_
  rintro e w1 ⟨v1, rfl, hol1, hbw1⟩
  have hrl := hol1.rdd
  have hz1 := hbw1.size
  obtain ⟨la, lcap, rfl, _, _⟩ := hrl.shape
  have hsl := split_slen l
  have hnl := split_len l
  have HP : Hid (pb (split l) none [] 0 [] = pblocks l) := rfl
  generalize split l = ls at *
  go_wp2
  go_loopw [4, 5, 6, 7] (fun bv ov cv iv wr => ∃ (k : Nat) (out : List Blk) (op : Int) (cs : List (List UInt8)), k ≤ ls.length ∧ iv = .int .i64 k ∧ ov = .int .i64 op ∧ out.length ≤ 2 * k ∧ cs.length ≤ k ∧ slen cs + slen (ls.drop k) ≤ slen ls ∧
      Own wr w1.heap.size tBlk bv out ∧ (op ≠ 0 → Own wr w1.heap.size tStr cv cs) ∧ (∃ ao n cap, cv = .slice ao n cap) ∧ Below w1.heap.size w1 wr ∧ Hid (pb (ls.drop k) none out op cs = pblocks l)) (fun _ _ _ iv _ => ls.length - (intOf iv).toNat)
  case atStart => exact ⟨0, [], 0, [], Nat.zero_le _, rfl, rfl, by simp, by simp, by simp [slen], Own.nil _ _ _, fun h => absurd rfl h, ⟨_, _, _, rfl⟩, Below.refl _ _, HP⟩
  case round =>
    obtain ⟨k, out, op, cs, hk, rfl, rfl, hol, hcl, hsc, hob, hoc, ⟨cao, cn, ccp, rfl⟩, hbel, hr⟩ := hrel
    obtain ⟨wx, rfl⟩ : ∃ wx : World, wx = wr := ⟨_, rfl⟩
    obtain ⟨bo, bcap, rfl⟩ := hob.shape
    have hz := hbel.size
    by_cases hlt : k < ls.length
    · obtain ⟨b1, o1, rfl, hb1, hc1⟩ := (hrl.below hbel).str k hlt
      have d1 := hc1 k hlt
      clear hc1
      have i1 : (k : Int) < (ls.length : Int) := by omega
      have hr' := hr.out
      rw [List.drop_eq_getElem_cons hlt] at hr'
      rw [slen_at ls k hlt] at hsc
      have hcb := closeB_len out op cs
      have hlen := slen_le ls _ (List.getElem_mem hlt)
      clear hr
      generalize ls[k] = ln at *
      obtain ⟨c, hc⟩ : ∃ c, c = classify ln := ⟨_, rfl⟩
      have hck := classify_kind ln
      have hcc := classify_len ln
      obtain ⟨kd, lv, ct⟩ := c
      rw [pb_step _ _ _ _ _ _ _ _ hc.symm] at hr'
      have HC1 : ∀ W, Calls Yaac.prog 24 #[.string (mk ln)] W fun e w' => e = .returned (.agg #[.int .i64 kd, .int .i64 lv, .string (mk ct)]) ∧ Below W.heap.size W w' := fun W => by
        have := classify_any ln W (by omega)
        rw [← hc] at this
        exact this
      rw [← hc] at hck hcc
      simp only at hck hcc
      clear hc
      go_wp2_with fail
      refine (HC1 _).mono ?_
      rintro e w2 ⟨rfl, hb2⟩
      have z2 := hb2.size
      obtain h | h | h | h | h | h | h : kd = 0 ∨ kd = 1 ∨ kd = 2 ∨ kd = 3 ∨ kd = 4 ∨ kd = 5 ∨ kd = 6 := by omega
      all_goals
        subst h
        clear hck HC1
      · have HR : Hid (pb (ls.drop (k + 1)) none (closeB out op cs) 0 [] = pblocks l) := by unfold Hid; rw [← hr']; simp
        clear hr'
        go_wp2_with fail
        refine (closeOpen_any out op cs _ _ w1.heap.size _ (by simp; omega) ((hob.below hb2).alloc _) (fun h => ((hoc h).below hb2 |>.alloc _).rdd) (by omega) (by omega) (by omega)).mono ?_
        rintro e w3 ⟨v3, rfl, ho3, hg3, hb3⟩
        obtain ⟨po, pcap, rfl⟩ := ho3.shape
        have hli : w3.heap[w2.heap.size]? = some (.cells #[.int .i64 0, .int .i64 lv, .string (mk ct)] 33 (0, 0)) := blk_kept ((hob.below hb2).alloc _) hg3 (heap_alloc_new w2 _) (by simp [tBlk])
        have x1 := blk_cell (j := 1) hli rfl
        have x2 := blk_cell (j := 2) hli rfl
        have hbw3 : Below w1.heap.size w1 w3 := (hbel.trans (hb2.mono hz)).trans (((Below.refl _ _).alloc (by omega) _).trans hb3)
        have z3 := hbw3.size
        have z23 := hg3.size
        simp at z23
        go_wp2
        go_roundw
        case rel => exact ⟨k + 1, closeB out op cs, 0, [], by omega, by go_num, rfl, by first | omega | (simp; done) | (simp; omega), by first | omega | (simp; done) | (simp; omega), by first | omega | (simp [slen]; done) | (simp [slen]; omega) | (simp [slen, slen_append]; omega), ho3, fun h => absurd rfl h, ⟨_, _, _, rfl⟩, hbw3, HR⟩
        case measure => simp [intOf]; omega
      · have HR : Hid (pb (ls.drop (k + 1)) (some []) (closeB out op cs) 0 [] = pblocks l) := by unfold Hid; rw [← hr']; simp
        clear hr'
        go_wp2_with fail
        refine (closeOpen_any out op cs _ _ w1.heap.size _ (by simp; omega) ((hob.below hb2).alloc _) (fun h => ((hoc h).below hb2 |>.alloc _).rdd) (by omega) (by omega) (by omega)).mono ?_
        rintro e w3 ⟨v3, rfl, ho3, hg3, hb3⟩
        obtain ⟨po, pcap, rfl⟩ := ho3.shape
        have hli : w3.heap[w2.heap.size]? = some (.cells #[.int .i64 1, .int .i64 lv, .string (mk ct)] 33 (0, 0)) := blk_kept ((hob.below hb2).alloc _) hg3 (heap_alloc_new w2 _) (by simp [tBlk])
        have x1 := blk_cell (j := 1) hli rfl
        have x2 := blk_cell (j := 2) hli rfl
        have hbw3 : Below w1.heap.size w1 w3 := (hbel.trans (hb2.mono hz)).trans (((Below.refl _ _).alloc (by omega) _).trans hb3)
        have z3 := hbw3.size
        have z23 := hg3.size
        simp at z23
        generalize closeB out op cs = ob at *
        go_wp2
        go_loopw [9, 7] (fun dv iv wr => ∃ (j : Nat) (cd : List (List UInt8)), k + 1 ≤ j ∧ j ≤ ls.length ∧ iv = .int .i64 j ∧ cd.length ≤ j ∧ slen cd + slen (ls.drop j) ≤ slen ls ∧ Own wr w1.heap.size tBlk (.slice po ob.length pcap) ob ∧ Own wr w1.heap.size tStr dv cd ∧ Below w1.heap.size w1 wr ∧ Hid (pb (ls.drop j) (some cd) ob 0 [] = pblocks l)) (fun _ iv _ => ls.length - (intOf iv).toNat)
        case atStart => exact ⟨k + 1, [], by omega, by omega, by go_num, by simp, by simp [slen]; omega, ho3, Own.nil _ _ _, hbw3, HR⟩
        case round =>
          obtain ⟨j, cd, hjk, hj, rfl, hdl, hsd, hob4, hod, hbj, hrj⟩ := hrel
          obtain ⟨wy, rfl⟩ : ∃ wy : World, wy = wr := ⟨_, rfl⟩
          obtain ⟨dvo, dcap, rfl⟩ := hod.shape
          have zj := hbj.size
          by_cases hjl : j < ls.length
          · obtain ⟨b4, o4, he, hb4', hc4⟩ := (hrl.below hbj).str j hjl
            simp only [Option.some.injEq, Addr.mk.injEq] at he
            obtain ⟨rfl, rfl, -⟩ := he
            have d4 := hc4 j hjl
            clear hc4
            have ij : (j : Int) < (ls.length : Int) := by omega
            have hrj' := hrj.out
            rw [pb_code ls j cd ob hjl] at hrj'
            rw [slen_at ls j hjl] at hsd
            clear hrj
            have hlm := slen_le ls _ (List.getElem_mem hjl)
            generalize ls[j] = lm at *
            go_upto_region 25 with fail
            go_cut [85] (fun hv wc => hv = .bool (ticks lm) ∧ wc = wy)
            case first =>
              by_cases g3 : 3 ≤ lm.length
              · have g3' : (3 : Int) ≤ (lm.length : Int) := by omega
                have q0 : 0 < lm.length := by omega
                have q1 : 1 < lm.length := by omega
                have q2 : 2 < lm.length := by omega
                have HI : Hid (ticks lm = decide (lm[0].toNat = 96 ∧ lm[1].toNat = 96 ∧ lm[2].toNat = 96)) := ticks_at lm g3
                by_cases c0 : lm[0].toNat = 96
                · have t0 : ((lm[0].toNat : Int) == 96) = true := beq_iff_eq.2 (by omega)
                  by_cases c1 : lm[1].toNat = 96
                  · have t1 : ((lm[1].toNat : Int) == 96) = true := beq_iff_eq.2 (by omega)
                    by_cases c2 : lm[2].toNat = 96
                    · have t2 : ((lm[2].toNat : Int) == 96) = true := beq_iff_eq.2 (by omega)
                      have HH : Hid (ticks lm = true) := by unfold Hid; rw [HI.out]; exact decide_eq_true ⟨c0, c1, c2⟩
                      clear HI c0 c1 c2
                      go_wp2
                      go_meet
                      case rel => exact ⟨by rw [HH.out], rfl⟩
                    · have t2 : ((lm[2].toNat : Int) == 96) = false := beq_eq_false_iff_ne.2 (by omega)
                      have HH : Hid (ticks lm = false) := by unfold Hid; rw [HI.out]; exact decide_eq_false (fun h => c2 h.2.2)
                      clear HI c0 c1 c2
                      go_wp2
                      go_meet
                      case rel => exact ⟨by rw [HH.out], rfl⟩
                  · have t1 : ((lm[1].toNat : Int) == 96) = false := beq_eq_false_iff_ne.2 (by omega)
                    have HH : Hid (ticks lm = false) := by unfold Hid; rw [HI.out]; exact decide_eq_false (fun h => c1 h.2.1)
                    clear HI c0 c1
                    go_wp2
                    go_meet
                    case rel => exact ⟨by rw [HH.out], rfl⟩
                · have t0 : ((lm[0].toNat : Int) == 96) = false := beq_eq_false_iff_ne.2 (by omega)
                  have HH : Hid (ticks lm = false) := by unfold Hid; rw [HI.out]; exact decide_eq_false (fun h => c0 h.1)
                  clear HI c0
                  go_wp2
                  go_meet
                  case rel => exact ⟨by rw [HH.out], rfl⟩
              · have g3' : ¬ (3 : Int) ≤ (lm.length : Int) := by omega
                have HH : Hid (ticks lm = false) := ticks_short lm g3
                go_wp2
                go_meet
                case rel => exact ⟨by rw [HH.out], rfl⟩
            case rest =>
              obtain ⟨rfl, hwc⟩ := hcut
              subst hwc
              cases htk : ticks lm with
              | true =>
                rw [if_pos htk] at hrj'
                have HR2 : Hid (pb (ls.drop (j + 1)) none (flushCode ob cd) 0 [] = pblocks l) := hrj'
                clear hrj' htk
                by_cases hcd : cd = []
                · have hcb : ¬ (0 : Int) < (cd.length : Int) := by rw [hcd]; simp
                  have hfl : flushCode ob cd = ob := by unfold flushCode; rw [if_pos hcd]
                  rw [hfl] at HR2
                  clear hfl hcd
                  go_wp2
                  go_roundw
                  case rel => exact ⟨j + 1, ob, 0, [], by omega, by go_num, rfl, by first | omega | (simp; omega), by simp, by simp [slen]; first | omega | exact slen_drop_le _ _, hob4, fun h => absurd rfl h, ⟨_, _, _, rfl⟩, hbj, HR2⟩
                  case measure => simp [intOf]; omega
                · have hcl0 : 0 < cd.length := by cases cd with | nil => exact absurd rfl hcd | cons _ _ => simp
                  have hcb : (0 : Int) < (cd.length : Int) := by omega
                  have hfl : flushCode ob cd = ob ++ [⟨5, 0, join [10] cd⟩] := by unfold flushCode; rw [if_neg hcd]
                  rw [hfl] at HR2
                  have hju : (join [10] cd).length ≤ 8589934592 := by have := joinGo_up [10] cd 0 []; unfold join; simp at this; omega
                  clear hfl hcd
                  go_wp2
                  go_loopw [11, 12] (fun tv iv wr => ∃ (m : Nat) (acc : List UInt8), m ≤ cd.length ∧ iv = .int .i64 m ∧ Own wr w1.heap.size tByte tv acc ∧ Own wr w1.heap.size tBlk (.slice po ob.length pcap) ob ∧ Own wr w1.heap.size tStr (.slice dvo cd.length dcap) cd ∧ Below w1.heap.size w1 wr ∧ Hid (joinGo [10] (cd.drop m) m acc = join [10] cd)) (fun _ iv _ => cd.length - (intOf iv).toNat)
                  case atStart => exact ⟨0, [], Nat.zero_le _, rfl, Own.nil _ _ _, hob4, hod, hbj, rfl⟩
                  case round =>
                    obtain ⟨m, acc, hm, rfl, hot, hob5, hod5, hb5, hr5⟩ := hrel
                    obtain ⟨tao, tcap, rfl⟩ := hot.shape
                    have z5 := hb5.size
                    have hal : acc.length ≤ (join [10] cd).length := by rw [← hr5.out]; exact joinGo_ge _ _ _ _
                    by_cases hml : m < cd.length
                    · obtain ⟨g7, o7, he7, hb7, hc7⟩ := hod5.rdd.str m hml
                      subst he7
                      have d7 := hc7 m hml
                      clear hc7
                      have im : (m : Int) < (cd.length : Int) := by omega
                      have hr5' := hr5.out
                      rw [joinGo_at [10] cd m acc hml] at hr5'
                      clear hr5
                      have hd7 : ∀ W : World, Own W w1.heap.size tStr (.slice (some ⟨g7, o7, none⟩) cd.length dcap) cd → W.cell? ⟨g7, o7 + m, none⟩ = some (.string (mk cd[m])) := fun W hW => by
                        obtain ⟨g8, o8, he8, _, hc8⟩ := hW.rdd.str m hml
                        simp only [Option.some.injEq, Addr.mk.injEq] at he8
                        obtain ⟨rfl, rfl, -⟩ := he8
                        exact hc8 m hml
                      generalize cd[m] = cm at *
                      by_cases h0 : m = 0
                      · rw [if_pos h0] at hr5'
                        have h0' : ¬ (0 : Int) < (m : Int) := by omega
                        have HJ : Hid (joinGo [10] (cd.drop (m + 1)) (m + 1) (acc ++ cm) = join [10] cd) := hr5'
                        have hal2 : (acc ++ cm).length ≤ (join [10] cd).length := by rw [← HJ.out]; exact joinGo_ge _ _ _ _
                        rw [List.length_append] at hal2
                        have H0 : Hid (m = 0) := h0
                        clear hr5' h0
                        go_wp2_with (at_builtin; refine appS (.tmp 104) (.tmp 108) w1.heap.size _ acc hot cm rfl rfl rfl rfl (by omega) (by omega) ?_)
                        intro ao6 cap6 w6 ho6 hgr6 hb6
                        go_wp2
                        go_roundw
                        case rel => exact ⟨m + 1, acc ++ cm, by omega, by go_num, by first | exact ho6 | simpa using ho6, hob5.apart hot hgr6 (by simp [tByte, tBlk]), hod5.apart hot hgr6 (by simp [tByte, tStr]), hb5.trans hb6, HJ⟩
                        case measure => simp [intOf]; omega
                      · rw [if_neg h0] at hr5'
                        have h0' : (0 : Int) < (m : Int) := by omega
                        have HJ : Hid (joinGo [10] (cd.drop (m + 1)) (m + 1) (acc ++ [10] ++ cm) = join [10] cd) := hr5'
                        have hal2 : (acc ++ [10] ++ cm).length ≤ (join [10] cd).length := by rw [← HJ.out]; exact joinGo_ge _ _ _ _
                        simp only [List.length_append, List.length_cons, List.length_nil] at hal2
                        clear hr5'
                        go_wp2_with (at_builtin; refine app1 tByte (.tmp 101) (.tmp 102) w1.heap.size _ acc hot 10 _ rfl rfl rfl rfl rfl rfl (by omega) (by omega) ?_)
                        intro g6 cap6 w6 ho6 hgr6 hat6 hb6
                        have hod6 := hod5.apart hot hgr6 (by simp [tByte, tStr])
                        have hob6 := hob5.apart hot hgr6 (by simp [tByte, tBlk])
                        have d8 := hd7 w6 hod6
                        go_wp2_with (at_builtin; refine appS (.tmp 104) (.tmp 108) w1.heap.size _ (acc ++ [10]) (by first | exact ho6 | simpa using ho6) cm rfl rfl rfl rfl (by simp; omega) (by have := hb6.size; omega) ?_)
                        intro ao9 cap9 w9 ho9 hgr9 hb9
                        go_wp2
                        go_roundw
                        case rel => exact ⟨m + 1, acc ++ [10] ++ cm, by omega, by go_num, by first | exact ho9 | simpa using ho9, hob6.apart ho6 hgr9 (by simp [tByte, tBlk]), hod6.apart ho6 hgr9 (by simp [tByte, tStr]), (hb5.trans hb6).trans hb9, HJ⟩
                        case measure => simp [intOf]; omega
                    · have HF : Hid (acc = join [10] cd) := by unfold Hid; rw [← hr5.out, List.drop_of_length_le (by omega : cd.length ≤ m), joinGo]
                      clear hr5
                      have hcv := conv_own hot
                      go_wp2_with (at_builtin; refine app1 tBlk (.tmp 110) (.tmp 114) w1.heap.size _ ob hob5 ⟨5, 0, acc⟩ _ rfl rfl rfl rfl rfl rfl (by first | omega | (simp; omega)) (by first | omega | (simp; omega)) ?_)
                      intro g6 cap6 w6 ho6 hgr6 hat6 hb6
                      go_wp2
                      go_roundw
                      case rel => exact ⟨j + 1, ob ++ [⟨5, 0, join [10] cd⟩], 0, [], by omega, by go_num, rfl, by first | omega | (simp; omega), by simp, by simp [slen]; first | omega | exact slen_drop_le _ _, by rw [← HF.out]; first | exact ho6 | simpa using ho6, fun h => absurd rfl h, ⟨_, _, _, rfl⟩, hb5.trans hb6, HR2⟩
                      case measure => simp [intOf]; omega
              | false =>
                rw [if_neg (by rw [htk]; simp)] at hrj'
                have HR2 : Hid (pb (ls.drop (j + 1)) (some (cd ++ [lm])) ob 0 [] = pblocks l) := hrj'
                clear hrj' htk
                go_wp2_with (at_builtin; refine app1 tStr (.tmp 86) (.tmp 88) w1.heap.size _ cd hod lm _ rfl rfl rfl rfl rfl rfl (by first | omega | (simp; omega)) (by first | omega | (simp; omega)) ?_)
                intro g5 cap5 w5 ho5 hgr5 hat5 hb5
                go_wp2
                go_roundw
                case rel => exact ⟨j + 1, cd ++ [lm], by omega, by omega, by go_num, by simp; omega, by simp [slen, slen_append]; omega, hob4.apart hod hgr5 (by simp [tBlk, tStr]), by first | exact ho5 | simpa using ho5, hbj.trans hb5, HR2⟩
                case measure => simp [intOf]; omega
          · have HR2 : Hid (pb (ls.drop j) none (flushCode ob cd) 0 [] = pblocks l) := by unfold Hid; rw [← hrj.out, List.drop_of_length_le (by omega : ls.length ≤ j), pb, pb, closeB_zero]
            have ij : ¬ (j : Int) < (ls.length : Int) := by omega
            clear hrj
            by_cases hcd : cd = []
            · have hcb : ¬ (0 : Int) < (cd.length : Int) := by rw [hcd]; simp
              have hfl : flushCode ob cd = ob := by unfold flushCode; rw [if_pos hcd]
              rw [hfl] at HR2
              clear hfl hcd
              go_wp2
              go_roundw
              case rel => exact ⟨j, ob, 0, [], by omega, by go_num, rfl, by first | omega | (simp; omega), by simp, by simp [slen]; first | omega | exact slen_drop_le _ _, hob4, fun h => absurd rfl h, ⟨_, _, _, rfl⟩, hbj, HR2⟩
              case measure => simp [intOf]; omega
            · have hcl0 : 0 < cd.length := by cases cd with | nil => exact absurd rfl hcd | cons _ _ => simp
              have hcb : (0 : Int) < (cd.length : Int) := by omega
              have hfl : flushCode ob cd = ob ++ [⟨5, 0, join [10] cd⟩] := by unfold flushCode; rw [if_neg hcd]
              rw [hfl] at HR2
              have hju : (join [10] cd).length ≤ 8589934592 := by have := joinGo_up [10] cd 0 []; unfold join; simp at this; omega
              clear hfl hcd
              go_wp2
              go_loopw [11, 12] (fun tv iv wr => ∃ (m : Nat) (acc : List UInt8), m ≤ cd.length ∧ iv = .int .i64 m ∧ Own wr w1.heap.size tByte tv acc ∧ Own wr w1.heap.size tBlk (.slice po ob.length pcap) ob ∧ Own wr w1.heap.size tStr (.slice dvo cd.length dcap) cd ∧ Below w1.heap.size w1 wr ∧ Hid (joinGo [10] (cd.drop m) m acc = join [10] cd)) (fun _ iv _ => cd.length - (intOf iv).toNat)
              case atStart => exact ⟨0, [], Nat.zero_le _, rfl, Own.nil _ _ _, hob4, hod, hbj, rfl⟩
              case round =>
                obtain ⟨m, acc, hm, rfl, hot, hob5, hod5, hb5, hr5⟩ := hrel
                obtain ⟨tao, tcap, rfl⟩ := hot.shape
                have z5 := hb5.size
                have hal : acc.length ≤ (join [10] cd).length := by rw [← hr5.out]; exact joinGo_ge _ _ _ _
                by_cases hml : m < cd.length
                · obtain ⟨g7, o7, he7, hb7, hc7⟩ := hod5.rdd.str m hml
                  subst he7
                  have d7 := hc7 m hml
                  clear hc7
                  have im : (m : Int) < (cd.length : Int) := by omega
                  have hr5' := hr5.out
                  rw [joinGo_at [10] cd m acc hml] at hr5'
                  clear hr5
                  have hd7 : ∀ W : World, Own W w1.heap.size tStr (.slice (some ⟨g7, o7, none⟩) cd.length dcap) cd → W.cell? ⟨g7, o7 + m, none⟩ = some (.string (mk cd[m])) := fun W hW => by
                    obtain ⟨g8, o8, he8, _, hc8⟩ := hW.rdd.str m hml
                    simp only [Option.some.injEq, Addr.mk.injEq] at he8
                    obtain ⟨rfl, rfl, -⟩ := he8
                    exact hc8 m hml
                  generalize cd[m] = cm at *
                  by_cases h0 : m = 0
                  · rw [if_pos h0] at hr5'
                    have h0' : ¬ (0 : Int) < (m : Int) := by omega
                    have HJ : Hid (joinGo [10] (cd.drop (m + 1)) (m + 1) (acc ++ cm) = join [10] cd) := hr5'
                    have hal2 : (acc ++ cm).length ≤ (join [10] cd).length := by rw [← HJ.out]; exact joinGo_ge _ _ _ _
                    rw [List.length_append] at hal2
                    have H0 : Hid (m = 0) := h0
                    clear hr5' h0
                    go_wp2_with (at_builtin; refine appS (.tmp 104) (.tmp 108) w1.heap.size _ acc hot cm rfl rfl rfl rfl (by omega) (by omega) ?_)
                    intro ao6 cap6 w6 ho6 hgr6 hb6
                    go_wp2
                    go_roundw
                    case rel => exact ⟨m + 1, acc ++ cm, by omega, by go_num, by first | exact ho6 | simpa using ho6, hob5.apart hot hgr6 (by simp [tByte, tBlk]), hod5.apart hot hgr6 (by simp [tByte, tStr]), hb5.trans hb6, HJ⟩
                    case measure => simp [intOf]; omega
                  · rw [if_neg h0] at hr5'
                    have h0' : (0 : Int) < (m : Int) := by omega
                    have HJ : Hid (joinGo [10] (cd.drop (m + 1)) (m + 1) (acc ++ [10] ++ cm) = join [10] cd) := hr5'
                    have hal2 : (acc ++ [10] ++ cm).length ≤ (join [10] cd).length := by rw [← HJ.out]; exact joinGo_ge _ _ _ _
                    simp only [List.length_append, List.length_cons, List.length_nil] at hal2
                    clear hr5'
                    go_wp2_with (at_builtin; refine app1 tByte (.tmp 101) (.tmp 102) w1.heap.size _ acc hot 10 _ rfl rfl rfl rfl rfl rfl (by omega) (by omega) ?_)
                    intro g6 cap6 w6 ho6 hgr6 hat6 hb6
                    have hod6 := hod5.apart hot hgr6 (by simp [tByte, tStr])
                    have hob6 := hob5.apart hot hgr6 (by simp [tByte, tBlk])
                    have d8 := hd7 w6 hod6
                    go_wp2_with (at_builtin; refine appS (.tmp 104) (.tmp 108) w1.heap.size _ (acc ++ [10]) (by first | exact ho6 | simpa using ho6) cm rfl rfl rfl rfl (by simp; omega) (by have := hb6.size; omega) ?_)
                    intro ao9 cap9 w9 ho9 hgr9 hb9
                    go_wp2
                    go_roundw
                    case rel => exact ⟨m + 1, acc ++ [10] ++ cm, by omega, by go_num, by first | exact ho9 | simpa using ho9, hob6.apart ho6 hgr9 (by simp [tByte, tBlk]), hod6.apart ho6 hgr9 (by simp [tByte, tStr]), (hb5.trans hb6).trans hb9, HJ⟩
                    case measure => simp [intOf]; omega
                · have HF : Hid (acc = join [10] cd) := by unfold Hid; rw [← hr5.out, List.drop_of_length_le (by omega : cd.length ≤ m), joinGo]
                  clear hr5
                  have hcv := conv_own hot
                  go_wp2_with (at_builtin; refine app1 tBlk (.tmp 110) (.tmp 114) w1.heap.size _ ob hob5 ⟨5, 0, acc⟩ _ rfl rfl rfl rfl rfl rfl (by first | omega | (simp; omega)) (by first | omega | (simp; omega)) ?_)
                  intro g6 cap6 w6 ho6 hgr6 hat6 hb6
                  go_wp2
                  go_roundw
                  case rel => exact ⟨j, ob ++ [⟨5, 0, join [10] cd⟩], 0, [], by omega, by go_num, rfl, by first | omega | (simp; omega), by simp, by simp [slen]; first | omega | exact slen_drop_le _ _, by rw [← HF.out]; first | exact ho6 | simpa using ho6, fun h => absurd rfl h, ⟨_, _, _, rfl⟩, hb5.trans hb6, HR2⟩
                  case measure => simp [intOf]; omega
      · have HR : Hid (pb (ls.drop (k + 1)) none (closeB out op cs ++ [⟨2, lv, ct⟩]) 0 [] = pblocks l) := by unfold Hid; rw [← hr']; simp
        clear hr'
        go_wp2_with fail
        refine (closeOpen_any out op cs _ _ w1.heap.size _ (by simp; omega) ((hob.below hb2).alloc _) (fun h => ((hoc h).below hb2 |>.alloc _).rdd) (by omega) (by omega) (by omega)).mono ?_
        rintro e w3 ⟨v3, rfl, ho3, hg3, hb3⟩
        obtain ⟨po, pcap, rfl⟩ := ho3.shape
        have hli : w3.heap[w2.heap.size]? = some (.cells #[.int .i64 2, .int .i64 lv, .string (mk ct)] 33 (0, 0)) := blk_kept ((hob.below hb2).alloc _) hg3 (heap_alloc_new w2 _) (by simp [tBlk])
        have x1 := blk_cell (j := 1) hli rfl
        have x2 := blk_cell (j := 2) hli rfl
        have hbw3 : Below w1.heap.size w1 w3 := (hbel.trans (hb2.mono hz)).trans (((Below.refl _ _).alloc (by omega) _).trans hb3)
        have z3 := hbw3.size
        have z23 := hg3.size
        simp at z23
        go_wp2_with (at_builtin; refine app1 tBlk (.tmp 122) (.tmp 128) w1.heap.size _ (closeB out op cs) ho3 ⟨2, lv, ct⟩ _ rfl rfl rfl rfl rfl rfl (by first | omega | (simp; omega)) (by first | omega | (simp; omega)) ?_)
        intro g4 cap4 w4 ho4 hgr4 hat4 hb4
        go_wp2
        go_roundw
        case rel => exact ⟨k + 1, closeB out op cs ++ [⟨2, lv, ct⟩], 0, [], by omega, by go_num, rfl, by first | omega | (simp; done) | (simp; omega), by first | omega | (simp; done) | (simp; omega), by first | omega | (simp [slen]; done) | (simp [slen]; omega) | (simp [slen, slen_append]; omega), by first | exact ho4 | simpa using ho4, fun h => absurd rfl h, ⟨_, _, _, rfl⟩, hbw3.trans hb4, HR⟩
        case measure => simp [intOf]; omega
      · have HR : Hid (pb (ls.drop (k + 1)) none (closeB out op cs ++ [⟨6, 0, []⟩]) 0 [] = pblocks l) := by unfold Hid; rw [← hr']; simp
        clear hr'
        go_wp2_with fail
        refine (closeOpen_any out op cs _ _ w1.heap.size _ (by simp; omega) ((hob.below hb2).alloc _) (fun h => ((hoc h).below hb2 |>.alloc _).rdd) (by omega) (by omega) (by omega)).mono ?_
        rintro e w3 ⟨v3, rfl, ho3, hg3, hb3⟩
        obtain ⟨po, pcap, rfl⟩ := ho3.shape
        have hli : w3.heap[w2.heap.size]? = some (.cells #[.int .i64 3, .int .i64 lv, .string (mk ct)] 33 (0, 0)) := blk_kept ((hob.below hb2).alloc _) hg3 (heap_alloc_new w2 _) (by simp [tBlk])
        have x1 := blk_cell (j := 1) hli rfl
        have x2 := blk_cell (j := 2) hli rfl
        have hbw3 : Below w1.heap.size w1 w3 := (hbel.trans (hb2.mono hz)).trans (((Below.refl _ _).alloc (by omega) _).trans hb3)
        have z3 := hbw3.size
        have z23 := hg3.size
        simp at z23
        go_wp2_with (at_builtin; refine app1 tBlk (.tmp 136) (.tmp 138) w1.heap.size _ (closeB out op cs) ho3 ⟨6, 0, []⟩ _ rfl rfl rfl rfl rfl rfl (by first | omega | (simp; omega)) (by first | omega | (simp; omega)) ?_)
        intro g4 cap4 w4 ho4 hgr4 hat4 hb4
        go_wp2
        go_roundw
        case rel => exact ⟨k + 1, closeB out op cs ++ [⟨6, 0, []⟩], 0, [], by omega, by go_num, rfl, by first | omega | (simp; done) | (simp; omega), by first | omega | (simp; done) | (simp; omega), by first | omega | (simp [slen]; done) | (simp [slen]; omega) | (simp [slen, slen_append]; omega), by first | exact ho4 | simpa using ho4, fun h => absurd rfl h, ⟨_, _, _, rfl⟩, hbw3.trans hb4, HR⟩
        case measure => simp [intOf]; omega
      · have HR : Hid (pb (ls.drop (k + 1)) none (closeB out op cs) 3 [ct] = pblocks l) := by unfold Hid; rw [← hr']; simp
        clear hr'
        go_wp2_with fail
        refine (closeOpen_any out op cs _ _ w1.heap.size _ (by simp; omega) ((hob.below hb2).alloc _) (fun h => ((hoc h).below hb2 |>.alloc _).rdd) (by omega) (by omega) (by omega)).mono ?_
        rintro e w3 ⟨v3, rfl, ho3, hg3, hb3⟩
        obtain ⟨po, pcap, rfl⟩ := ho3.shape
        have hli : w3.heap[w2.heap.size]? = some (.cells #[.int .i64 4, .int .i64 lv, .string (mk ct)] 33 (0, 0)) := blk_kept ((hob.below hb2).alloc _) hg3 (heap_alloc_new w2 _) (by simp [tBlk])
        have x1 := blk_cell (j := 1) hli rfl
        have x2 := blk_cell (j := 2) hli rfl
        have hbw3 : Below w1.heap.size w1 w3 := (hbel.trans (hb2.mono hz)).trans (((Below.refl _ _).alloc (by omega) _).trans hb3)
        have z3 := hbw3.size
        have z23 := hg3.size
        simp at z23
        go_wp2
        go_roundw
        case rel => exact ⟨k + 1, closeB out op cs, 3, [ct], by omega, by go_num, rfl, by first | omega | (simp; done) | (simp; omega), by first | omega | (simp; done) | (simp; omega), by first | omega | (simp [slen]; done) | (simp [slen]; omega) | (simp [slen, slen_append]; omega), ho3.alloc _, fun _ => own_lit w3 _ ct z3, ⟨_, _, _, rfl⟩, hbw3.trans ((Below.refl _ _).alloc z3 _), HR⟩
        case measure => simp [intOf]; omega
      · rw [if_neg (by decide), if_neg (by decide), if_neg (by decide), if_neg (by decide), if_neg (by decide), if_pos rfl] at hr'
        by_cases h4 : op = 4
        · have h4b : (op == 4) = true := beq_iff_eq.2 h4
          have hop0 : op ≠ 0 := by omega
          rw [if_pos h4] at hr'
          have HR : Hid (pb (ls.drop (k + 1)) none out op (cs ++ [ct]) = pblocks l) := hr'
          clear hr' h4
          have hoc' := hoc hop0
          obtain ⟨co, ccap, hsh⟩ := hoc'.shape
          simp only [Value.slice.injEq] at hsh
          obtain ⟨rfl, rfl, rfl⟩ := hsh
          go_wp2_with (at_builtin; refine app1 tStr (.tmp 153) (.tmp 156) w1.heap.size _ cs ((hoc'.below hb2).alloc _) ct (w2.heap.size + 1) (by simp) rfl rfl rfl rfl rfl (by first | omega | (simp; omega)) (by first | omega | (simp; omega)) ?_)
          intro g4 cap4 w4 ho4 hgr4 hat4 hb4
          go_wp2
          go_roundw
          case rel => exact ⟨k + 1, out, op, cs ++ [ct], by omega, by go_num, rfl, by first | omega | (simp; done) | (simp; omega), by first | omega | (simp; done) | (simp; omega), by first | omega | (simp [slen]; done) | (simp [slen]; omega) | (simp [slen, slen_append]; omega), Own.apart ((hob.below hb2).alloc _) ((hoc'.below hb2).alloc _) hgr4 (by simp [tBlk, tStr]), fun _ => by first | exact ho4 | simpa using ho4, ⟨_, _, _, rfl⟩, (hbel.trans (hb2.mono hz)).trans (((Below.refl _ _).alloc (by omega) _).trans hb4), HR⟩
          case measure => simp [intOf]; omega
        · have h4b : (op == 4) = false := beq_eq_false_iff_ne.2 h4
          rw [if_neg h4] at hr'
          have HR : Hid (pb (ls.drop (k + 1)) none (closeB out op cs) 4 [ct] = pblocks l) := hr'
          clear hr'
          go_wp2_with fail
          refine (closeOpen_any out op cs _ _ w1.heap.size _ (by simp; omega) ((hob.below hb2).alloc _) (fun h => ((hoc h).below hb2 |>.alloc _).rdd) (by omega) (by omega) (by omega)).mono ?_
          rintro e w3 ⟨v3, rfl, ho3, hg3, hb3⟩
          obtain ⟨po, pcap, rfl⟩ := ho3.shape
          have hli : w3.heap[w2.heap.size]? = some (.cells #[.int .i64 5, .int .i64 lv, .string (mk ct)] 33 (0, 0)) := blk_kept ((hob.below hb2).alloc _) hg3 (heap_alloc_new w2 _) (by simp [tBlk])
          have x1 := blk_cell (j := 1) hli rfl
          have x2 := blk_cell (j := 2) hli rfl
          have hbw3 : Below w1.heap.size w1 w3 := (hbel.trans (hb2.mono hz)).trans (((Below.refl _ _).alloc (by omega) _).trans hb3)
          have z3 := hbw3.size
          have z23 := hg3.size
          simp at z23
          go_wp2
          go_roundw
          case rel => exact ⟨k + 1, closeB out op cs, 4, [ct], by omega, by go_num, rfl, by first | omega | (simp; done) | (simp; omega), by first | omega | (simp; done) | (simp; omega), by first | omega | (simp [slen]; done) | (simp [slen]; omega) | (simp [slen, slen_append]; omega), ho3.alloc _, fun _ => own_lit w3 _ ct z3, ⟨_, _, _, rfl⟩, hbw3.trans ((Below.refl _ _).alloc z3 _), HR⟩
          case measure => simp [intOf]; omega
      · rw [if_neg (by decide), if_neg (by decide), if_neg (by decide), if_neg (by decide), if_neg (by decide), if_neg (by decide)] at hr'
        by_cases h1 : op = 1
        · have h1b : (op == 1) = true := beq_iff_eq.2 h1
          have hop0 : op ≠ 0 := by omega
          rw [if_pos (.inl h1)] at hr'
          have HR : Hid (pb (ls.drop (k + 1)) none out op (cs ++ [ct]) = pblocks l) := hr'
          clear hr' h1
          have hoc' := hoc hop0
          obtain ⟨co, ccap, hsh⟩ := hoc'.shape
          simp only [Value.slice.injEq] at hsh
          obtain ⟨rfl, rfl, rfl⟩ := hsh
          go_wp2_with (at_builtin; refine app1 tStr (.tmp 34) (.tmp 37) w1.heap.size _ cs ((hoc'.below hb2).alloc _) ct (w2.heap.size + 1) (by simp) rfl rfl rfl rfl rfl (by first | omega | (simp; omega)) (by first | omega | (simp; omega)) ?_)
          intro g4 cap4 w4 ho4 hgr4 hat4 hb4
          go_wp2
          go_roundw
          case rel => exact ⟨k + 1, out, op, cs ++ [ct], by omega, by go_num, rfl, by first | omega | (simp; done) | (simp; omega), by first | omega | (simp; done) | (simp; omega), by first | omega | (simp [slen]; done) | (simp [slen]; omega) | (simp [slen, slen_append]; omega), Own.apart ((hob.below hb2).alloc _) ((hoc'.below hb2).alloc _) hgr4 (by simp [tBlk, tStr]), fun _ => by first | exact ho4 | simpa using ho4, ⟨_, _, _, rfl⟩, (hbel.trans (hb2.mono hz)).trans (((Below.refl _ _).alloc (by omega) _).trans hb4), HR⟩
          case measure => simp [intOf]; omega
        · have h1b : (op == 1) = false := beq_eq_false_iff_ne.2 h1
          by_cases h3 : op = 3
          · have h3b : (op == 3) = true := beq_iff_eq.2 h3
            have hop0 : op ≠ 0 := by omega
            rw [if_pos (.inr h3)] at hr'
            have HR : Hid (pb (ls.drop (k + 1)) none out op (cs ++ [ct]) = pblocks l) := hr'
            clear hr' h3
            have hoc' := hoc hop0
            obtain ⟨co, ccap, hsh⟩ := hoc'.shape
            simp only [Value.slice.injEq] at hsh
            obtain ⟨rfl, rfl, rfl⟩ := hsh
            go_wp2_with (at_builtin; refine app1 tStr (.tmp 34) (.tmp 37) w1.heap.size _ cs ((hoc'.below hb2).alloc _) ct (w2.heap.size + 1) (by simp) rfl rfl rfl rfl rfl (by first | omega | (simp; omega)) (by first | omega | (simp; omega)) ?_)
            intro g4 cap4 w4 ho4 hgr4 hat4 hb4
            go_wp2
            go_roundw
            case rel => exact ⟨k + 1, out, op, cs ++ [ct], by omega, by go_num, rfl, by first | omega | (simp; done) | (simp; omega), by first | omega | (simp; done) | (simp; omega), by first | omega | (simp [slen]; done) | (simp [slen]; omega) | (simp [slen, slen_append]; omega), Own.apart ((hob.below hb2).alloc _) ((hoc'.below hb2).alloc _) hgr4 (by simp [tBlk, tStr]), fun _ => by first | exact ho4 | simpa using ho4, ⟨_, _, _, rfl⟩, (hbel.trans (hb2.mono hz)).trans (((Below.refl _ _).alloc (by omega) _).trans hb4), HR⟩
            case measure => simp [intOf]; omega
          · have h3b : (op == 3) = false := beq_eq_false_iff_ne.2 h3
            rw [if_neg (by omega)] at hr'
            have HR : Hid (pb (ls.drop (k + 1)) none (closeB out op cs) 1 [ct] = pblocks l) := hr'
            clear hr'
            go_wp2_with fail
            refine (closeOpen_any out op cs _ _ w1.heap.size _ (by simp; omega) ((hob.below hb2).alloc _) (fun h => ((hoc h).below hb2 |>.alloc _).rdd) (by omega) (by omega) (by omega)).mono ?_
            rintro e w3 ⟨v3, rfl, ho3, hg3, hb3⟩
            obtain ⟨po, pcap, rfl⟩ := ho3.shape
            have hli : w3.heap[w2.heap.size]? = some (.cells #[.int .i64 6, .int .i64 lv, .string (mk ct)] 33 (0, 0)) := blk_kept ((hob.below hb2).alloc _) hg3 (heap_alloc_new w2 _) (by simp [tBlk])
            have x1 := blk_cell (j := 1) hli rfl
            have x2 := blk_cell (j := 2) hli rfl
            have hbw3 : Below w1.heap.size w1 w3 := (hbel.trans (hb2.mono hz)).trans (((Below.refl _ _).alloc (by omega) _).trans hb3)
            have z3 := hbw3.size
            have z23 := hg3.size
            simp at z23
            go_wp2
            go_roundw
            case rel => exact ⟨k + 1, closeB out op cs, 1, [ct], by omega, by go_num, rfl, by first | omega | (simp; done) | (simp; omega), by first | omega | (simp; done) | (simp; omega), by first | omega | (simp [slen]; done) | (simp [slen]; omega) | (simp [slen, slen_append]; omega), ho3.alloc _, fun _ => own_lit w3 _ ct z3, ⟨_, _, _, rfl⟩, hbw3.trans ((Below.refl _ _).alloc z3 _), HR⟩
            case measure => simp [intOf]; omega
    · go_wp2_with fail
      refine (closeOpen_any out op cs _ _ w1.heap.size _ hz hob (fun h => (hoc h).rdd) (by omega) (by omega) (by omega)).mono ?_
      rintro e w3 ⟨v3, rfl, ho3, hg3, hb3⟩
      have HF : Hid (closeB out op cs = pblocks l) := by unfold Hid; rw [← hr.out, List.drop_of_length_le (by omega : ls.length ≤ k), pb]
      go_wp2
      go_ret
      exact ⟨_, rfl, by rw [← HF.out]; exact ho3.base (by omega), hbw1.trans ((hbel.trans hb3).mono (by omega))⟩

end Go.Proofs.Ybuaaw
