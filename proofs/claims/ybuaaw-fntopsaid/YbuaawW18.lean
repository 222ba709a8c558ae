import Derived.Test.YbuaawMem3
import Derived.Test.YbuaawPlain7
import Derived.Test.YbuaawW1
namespace Go.Proofs.Ybuaaw
open Go.RowKit
attribute [local go_sem] mk_size mk_toList mk_getElem mk_extract take_len_drop mk_append_lit

theorem pre_len {a b c : List UInt8} (h : a ++ b = c) : a.length ≤ c.length := by rw [← h]; simp

set_option maxRecDepth 100000 in
set_option maxHeartbeats 16000000 in
theorem unparse_any (ps : List Inl) (v : Value) (B : Nat) (w : World) (hB : B ≤ w.heap.size) (h1 : Rdd w B tInl v ps) (hs : ps.length ≤ 4294967296) (ht : tlen ps ≤ 4294967296) :
    Calls Yaac.prog 38 #[v] w fun e w' => e = .returned (.string (mk (unp ps))) ∧ Below w.heap.size w w' := by
  obtain ⟨a1, c1, rfl, _, _⟩ := h1.shape
  have hul : (unp ps).length ≤ 17179869185 := by have := unpGo_len ps 0; unfold unp; omega
  go_enter Yaac.func38, Yaac.ntmps38
  go_wp2
  go_loopw [3, 4, 13] (fun cv sv i wr => ∃ (k : Nat) (cur : List UInt8) (s : Int), k ≤ ps.length ∧ i = .int .i64 k ∧ sv = .int .i64 s ∧ (s = 0 ∨ s = 1) ∧ Own wr w.heap.size tByte cv cur ∧ Below w.heap.size w wr ∧ Hid (cur ++ unpGo (ps.drop k) s = unp ps)) (fun _ _ i _ => ps.length - (intOf i).toNat)
  case atStart => exact ⟨0, [], 0, Nat.zero_le _, rfl, rfl, by decide, Own.nil _ _ _, Below.refl _ _, rfl⟩
  case round =>
    obtain ⟨k, cur, s, hk, rfl, rfl, h01, hown, hbel, hr⟩ := hrel
    obtain ⟨wx, rfl⟩ : ∃ wx : World, wx = wr := ⟨_, rfl⟩
    obtain ⟨co, ccap, rfl⟩ := hown.shape
    have hz := hbel.size
    have hcl := pre_len hr.out
    by_cases hlt : k < ps.length
    · obtain ⟨b1, o1, rfl, hb1, hc1⟩ := (h1.below (hbel.mono hB)).inl k hlt
      have hd := hc1 k hlt
      clear hc1
      have i1 : (k : Int) < (ps.length : Int) := by omega
      have htl := tlen_le ps _ (List.getElem_mem hlt)
      have hr' := hr.out
      rw [List.drop_eq_getElem_cons hlt] at hr'
      have HR : Hid (cur ++ unpGo (ps[k] :: ps.drop (k + 1)) s = unp ps) := hr'
      clear hr' hr
      generalize ps[k] = p at *
      obtain ⟨kd, sty, txt⟩ := p
      obtain ⟨d1, d2, d3⟩ := hd
      simp only at d1 d2 d3 htl
      rcases h01 with rfl | rfl
      · by_cases hk1 : kd = 1
        · have hkb : (kd == 1) = true := beq_iff_eq.2 hk1
          have HE : Hid ((cur ++ [32]) ++ unpGo (ps.drop (k + 1)) 0 = unp ps) := by unfold Hid; rw [← HR.out, unpGo]; simp only [if_pos hk1]; simp
          clear hk1 HR
          go_wp2_with (at_builtin; refine app1 tByte (.tmp 20) (.tmp 21) w.heap.size _ cur (hown.alloc _) 32 (wx.heap.size + 1) (by simp) rfl rfl rfl rfl rfl (by first | omega | (simp; omega)) (by first | omega | (simp; omega)) ?_)
          intro g1 cap1 w1 ho1 hgr1 hat1 hb1'
          go_wp2
          go_roundw
          case rel => exact ⟨k + 1, cur ++ [32], 0, by omega, by go_num, by rfl, by decide, by first | exact ho1 | simpa using ho1, (hbel.trans ((Below.refl _ _).alloc hz _)).trans hb1', HE⟩
          case measure => simp [intOf]; omega
        · have hkb : (kd == 1) = false := beq_eq_false_iff_ne.2 hk1
          by_cases hk2 : kd = 2
          · have hkb2 : (kd == 2) = true := beq_iff_eq.2 hk2
            have HR0 : Hid ((cur ++ [96]) ++ (code txt ++ 96 :: unpGo (ps.drop (k + 1)) 0) = unp ps) := by unfold Hid; rw [← HR.out, unpGo]; simp only [if_neg hk1, if_pos hk2]; simp
            clear hk1 hk2 HR
            go_wp2_with (at_builtin; refine app1 tByte (.tmp 26) (.tmp 27) w.heap.size _ cur (hown.alloc _) 96 (wx.heap.size + 1) (by simp) rfl rfl rfl rfl rfl (by first | omega | (simp; omega)) (by first | omega | (simp; omega)) ?_)
            intro g1 cap1 w1 ho1 hgr1 hat1 hb1'
            have hblk1 : w1.heap[wx.heap.size]? = some (.cells #[.int .i64 kd, .int .i64 sty, .string (mk txt)] 44 (0, 0)) := blk_kept (hown.alloc _) hgr1 (heap_alloc_new wx _) (by simp [tByte])
            go_wp2
            go_loopw [3, 7] (fun cv jv wr => ∃ (j : Nat) (cx : List UInt8), j ≤ txt.length ∧ jv = .int .i64 j ∧ Own wr w.heap.size tByte cv cx ∧ Hid (cx ++ (code (txt.drop j) ++ 96 :: unpGo (ps.drop (k + 1)) 0) = unp ps) ∧ Below w.heap.size w wr ∧ wr.heap[wx.heap.size]? = some (.cells #[.int .i64 kd, .int .i64 sty, .string (mk txt)] 44 (0, 0))) (fun _ jv _ => txt.length - (intOf jv).toNat)
            case atStart => exact ⟨0, cur ++ [96], Nat.zero_le _, rfl, by first | exact ho1 | simpa using ho1, by unfold Hid; rw [List.drop_zero]; exact HR0.out, (hbel.trans ((Below.refl _ _).alloc hz _)).trans hb1', hblk1⟩
            case round =>
              obtain ⟨j, cx, hj, rfl, hcj, HCX, hbj, hblk⟩ := hrel
              obtain ⟨qo, qcap, rfl⟩ := hcj.shape
              have zj := hbj.size
              have xj := blk_cell (j := 2) hblk rfl
              have hqlen := pre_len HCX.out
              by_cases hjl : j < txt.length
              · have ij : (j : Int) < (txt.length : Int) := by omega
                by_cases c1 : txt[j].toNat = 96
                · have t1 : ((txt[j].toNat : Int) != 96) = false := by rw [bne_eq_false_iff_eq]; omega
                  have HX : Hid (cx ++ (code (txt.drop (j + 1)) ++ 96 :: unpGo (ps.drop (k + 1)) 0) = unp ps) := by unfold Hid; rw [← HCX.out, code_at txt j hjl, if_pos c1]; rfl
                  clear c1
                  go_wp2
                  go_roundw
                  case rel => exact ⟨j + 1, cx, by omega, by go_num, hcj, HX, hbj, hblk⟩
                  case measure => simp [intOf]; omega
                · have t1 : ((txt[j].toNat : Int) != 96) = true := by rw [bne_iff_ne]; omega
                  have HX : Hid ((cx ++ [txt[j]]) ++ (code (txt.drop (j + 1)) ++ 96 :: unpGo (ps.drop (k + 1)) 0) = unp ps) := by unfold Hid; rw [← HCX.out, code_at txt j hjl, if_neg c1]; simp
                  go_wp2_with (at_builtin; refine app1 tByte (.tmp 41) (.tmp 46) w.heap.size _ cx hcj txt[j] _ rfl rfl rfl rfl rfl rfl (by first | omega | (simp; omega)) (by first | omega | (simp; omega)) ?_)
                  intro g5 cap5 w5 ho5 hgr5 hat5 hb5
                  go_wp2
                  go_roundw
                  case rel => exact ⟨j + 1, cx ++ [txt[j]], by omega, by go_num, by first | exact ho5 | simpa using ho5, HX, hbj.trans hb5, blk_kept hcj hgr5 hblk (by simp [tByte])⟩
                  case measure => simp [intOf]; omega
              · have HF : Hid ((cx ++ [96]) ++ unpGo (ps.drop (k + 1)) 0 = unp ps) := by unfold Hid; rw [← HCX.out, List.drop_of_length_le (by omega : txt.length ≤ j)]; simp [code]
                go_wp2_with (at_builtin; refine app1 tByte (.tmp 48) (.tmp 49) w.heap.size _ cx hcj 96 _ rfl rfl rfl rfl rfl rfl (by first | omega | (simp; omega)) (by first | omega | (simp; omega)) ?_)
                intro g6 cap6 w6 ho6 hgr6 hat6 hb6
                go_wp2
                go_roundw
                case rel => exact ⟨k + 1, cx ++ [96], 0, by omega, by go_num, by rfl, by decide, by first | exact ho6 | simpa using ho6, hbj.trans hb6, HF⟩
                case measure => simp [intOf]; omega
          · have hkb2 : (kd == 2) = false := beq_eq_false_iff_ne.2 hk2
            by_cases hs0 : sty = 0
            · have hsb : (sty != 0) = false := by simp [hs0]
              have est : st01 sty = 0 := by simp [st01, hs0]
              have HR0 : Hid (cur ++ (esc txt ++ unpGo (ps.drop (k + 1)) 0) = unp ps) := by unfold Hid; rw [← HR.out, unpGo]; simp only [if_neg hk1, if_neg hk2, est]; simp
              clear hs0 est HR hk1 hk2
              go_wp2_with fail
              go_loopw [3, 9] (fun cv jv wr => ∃ (j : Nat) (cx : List UInt8), j ≤ txt.length ∧ jv = .int .i64 j ∧ Own wr w.heap.size tByte cv cx ∧ Hid (cx ++ (esc (txt.drop j) ++ unpGo (ps.drop (k + 1)) 0) = unp ps) ∧ Below w.heap.size w wr ∧ wr.heap[wx.heap.size]? = some (.cells #[.int .i64 kd, .int .i64 sty, .string (mk txt)] 44 (0, 0))) (fun _ jv _ => txt.length - (intOf jv).toNat)
              case atStart => exact ⟨0, cur, Nat.zero_le _, rfl, by first | exact (hown.alloc _) | simpa using (hown.alloc _), by unfold Hid; rw [List.drop_zero]; exact HR0.out, hbel.trans ((Below.refl _ _).alloc hz _), heap_alloc_new wx _⟩
              case round =>
                obtain ⟨j, cx, hj, rfl, hcj, HCX, hbj, hblk⟩ := hrel
                obtain ⟨qo, qcap, rfl⟩ := hcj.shape
                have zj := hbj.size
                have xj := blk_cell (j := 2) hblk rfl
                have hqlen := pre_len HCX.out
                by_cases hjl : j < txt.length
                · have ij : (j : Int) < (txt.length : Int) := by omega
                  by_cases c1 : txt[j].toNat = 92
                  · have t1 : ((txt[j].toNat : Int) == 92) = true := beq_iff_eq.2 (by omega)
                    have HX : Hid ((cx ++ [92] ++ [txt[j]]) ++ (esc (txt.drop (j + 1)) ++ unpGo (ps.drop (k + 1)) 0) = unp ps) := by unfold Hid; rw [← HCX.out, esc_at txt j hjl, if_pos (by simp [escd, c1])]; simp
                    clear c1
                    go_wp2_with ((at_builtin; refine app1 tByte (.tmp 86) (.tmp 87) w.heap.size _ cx hcj 92 _ rfl rfl rfl rfl rfl rfl (by first | omega | (simp; omega)) (by first | omega | (simp; omega)) ?_))
                    intro g5 cap5 w5 ho5 hgr5 hat5 hb5
                    have z5 := hb5.size
                    have hblk5 := blk_kept hcj hgr5 hblk (by simp [tByte])
                    go_wp2_with (at_builtin; refine app1 tByte (.tmp 89) (.tmp 91) w.heap.size _ (cx ++ [92]) ho5 txt[j] _ rfl rfl rfl rfl rfl rfl (by first | omega | (simp; omega)) (by first | omega | (simp; omega)) ?_)
                    intro g6 cap6 w6 ho6 hgr6 hat6 hb6
                    go_wp2
                    go_roundw
                    case rel => exact ⟨j + 1, cx ++ [92] ++ [txt[j]], by omega, by go_num, by first | exact ho6 | simpa using ho6, HX, (hbj.trans hb5).trans hb6, blk_kept ho5 hgr6 hblk5 (by simp [tByte])⟩
                    case measure => simp [intOf]; omega
                  · have t1 : ((txt[j].toNat : Int) == 92) = false := beq_eq_false_iff_ne.2 (by omega)
                    by_cases c2 : txt[j].toNat = 42
                    · have t2 : ((txt[j].toNat : Int) == 42) = true := beq_iff_eq.2 (by omega)
                      have HX : Hid ((cx ++ [92] ++ [txt[j]]) ++ (esc (txt.drop (j + 1)) ++ unpGo (ps.drop (k + 1)) 0) = unp ps) := by unfold Hid; rw [← HCX.out, esc_at txt j hjl, if_pos (by simp [escd, c2])]; simp
                      clear c2
                      go_wp2_with ((at_builtin; refine app1 tByte (.tmp 86) (.tmp 87) w.heap.size _ cx hcj 92 _ rfl rfl rfl rfl rfl rfl (by first | omega | (simp; omega)) (by first | omega | (simp; omega)) ?_))
                      intro g5 cap5 w5 ho5 hgr5 hat5 hb5
                      have z5 := hb5.size
                      have hblk5 := blk_kept hcj hgr5 hblk (by simp [tByte])
                      go_wp2_with (at_builtin; refine app1 tByte (.tmp 89) (.tmp 91) w.heap.size _ (cx ++ [92]) ho5 txt[j] _ rfl rfl rfl rfl rfl rfl (by first | omega | (simp; omega)) (by first | omega | (simp; omega)) ?_)
                      intro g6 cap6 w6 ho6 hgr6 hat6 hb6
                      go_wp2
                      go_roundw
                      case rel => exact ⟨j + 1, cx ++ [92] ++ [txt[j]], by omega, by go_num, by first | exact ho6 | simpa using ho6, HX, (hbj.trans hb5).trans hb6, blk_kept ho5 hgr6 hblk5 (by simp [tByte])⟩
                      case measure => simp [intOf]; omega
                    · have t2 : ((txt[j].toNat : Int) == 42) = false := beq_eq_false_iff_ne.2 (by omega)
                      by_cases c3 : txt[j].toNat = 96
                      · have t3 : ((txt[j].toNat : Int) == 96) = true := beq_iff_eq.2 (by omega)
                        have HX : Hid ((cx ++ [92] ++ [txt[j]]) ++ (esc (txt.drop (j + 1)) ++ unpGo (ps.drop (k + 1)) 0) = unp ps) := by unfold Hid; rw [← HCX.out, esc_at txt j hjl, if_pos (by simp [escd, c3])]; simp
                        clear c3
                        go_wp2_with ((at_builtin; refine app1 tByte (.tmp 86) (.tmp 87) w.heap.size _ cx hcj 92 _ rfl rfl rfl rfl rfl rfl (by first | omega | (simp; omega)) (by first | omega | (simp; omega)) ?_))
                        intro g5 cap5 w5 ho5 hgr5 hat5 hb5
                        have z5 := hb5.size
                        have hblk5 := blk_kept hcj hgr5 hblk (by simp [tByte])
                        go_wp2_with (at_builtin; refine app1 tByte (.tmp 89) (.tmp 91) w.heap.size _ (cx ++ [92]) ho5 txt[j] _ rfl rfl rfl rfl rfl rfl (by first | omega | (simp; omega)) (by first | omega | (simp; omega)) ?_)
                        intro g6 cap6 w6 ho6 hgr6 hat6 hb6
                        go_wp2
                        go_roundw
                        case rel => exact ⟨j + 1, cx ++ [92] ++ [txt[j]], by omega, by go_num, by first | exact ho6 | simpa using ho6, HX, (hbj.trans hb5).trans hb6, blk_kept ho5 hgr6 hblk5 (by simp [tByte])⟩
                        case measure => simp [intOf]; omega
                      · have t3 : ((txt[j].toNat : Int) == 96) = false := beq_eq_false_iff_ne.2 (by omega)
                        cases hsp : isSp txt[j] with
                        | true =>
                          have HX : Hid ((cx ++ [92] ++ [txt[j]]) ++ (esc (txt.drop (j + 1)) ++ unpGo (ps.drop (k + 1)) 0) = unp ps) := by unfold Hid; rw [← HCX.out, esc_at txt j hjl, if_pos (by simp [escd, hsp])]; simp
                          go_wp2_with (first | (go_at_call 60; refine (isSpace_any txt[j] _).mono ?_; rw [hsp]; rintro e w' ⟨rfl, rfl⟩) | (at_builtin; refine app1 tByte (.tmp 86) (.tmp 87) w.heap.size _ cx hcj 92 _ rfl rfl rfl rfl rfl rfl (by first | omega | (simp; omega)) (by first | omega | (simp; omega)) ?_))
                          intro g5 cap5 w5 ho5 hgr5 hat5 hb5
                          have z5 := hb5.size
                          have hblk5 := blk_kept hcj hgr5 hblk (by simp [tByte])
                          go_wp2_with (at_builtin; refine app1 tByte (.tmp 89) (.tmp 91) w.heap.size _ (cx ++ [92]) ho5 txt[j] _ rfl rfl rfl rfl rfl rfl (by first | omega | (simp; omega)) (by first | omega | (simp; omega)) ?_)
                          intro g6 cap6 w6 ho6 hgr6 hat6 hb6
                          go_wp2
                          go_roundw
                          case rel => exact ⟨j + 1, cx ++ [92] ++ [txt[j]], by omega, by go_num, by first | exact ho6 | simpa using ho6, HX, (hbj.trans hb5).trans hb6, blk_kept ho5 hgr6 hblk5 (by simp [tByte])⟩
                          case measure => simp [intOf]; omega
                        | false =>
                          have HX : Hid ((cx ++ [txt[j]]) ++ (esc (txt.drop (j + 1)) ++ unpGo (ps.drop (k + 1)) 0) = unp ps) := by unfold Hid; rw [← HCX.out, esc_at txt j hjl, if_neg (by simp [escd, c1, c2, c3, hsp])]; simp
                          go_wp2_with (first | (go_at_call 60; refine (isSpace_any txt[j] _).mono ?_; rw [hsp]; rintro e w' ⟨rfl, rfl⟩) | (at_builtin; refine app1 tByte (.tmp 89) (.tmp 91) w.heap.size _ cx hcj txt[j] _ rfl rfl rfl rfl rfl rfl (by first | omega | (simp; omega)) (by first | omega | (simp; omega)) ?_))
                          intro g5 cap5 w5 ho5 hgr5 hat5 hb5
                          go_wp2
                          go_roundw
                          case rel => exact ⟨j + 1, cx ++ [txt[j]], by omega, by go_num, by first | exact ho5 | simpa using ho5, HX, hbj.trans hb5, blk_kept hcj hgr5 hblk (by simp [tByte])⟩
                          case measure => simp [intOf]; omega
                · have HF : Hid (cx ++ unpGo (ps.drop (k + 1)) 0 = unp ps) := by unfold Hid; rw [← HCX.out, List.drop_of_length_le (by omega : txt.length ≤ j)]; rfl
                  go_wp2
                  go_roundw
                  case rel => exact ⟨k + 1, cx, 0, by omega, by go_num, by rfl, by decide, hcj, hbj, HF⟩
                  case measure => simp [intOf]; omega
            · have hsb : (sty != 0) = true := by simp [hs0]
              have est : st01 sty = 1 := by simp [st01, hs0]
              have HR0 : Hid ((cur ++ [42]) ++ (esc txt ++ unpGo (ps.drop (k + 1)) 1) = unp ps) := by unfold Hid; rw [← HR.out, unpGo]; simp only [if_neg hk1, if_neg hk2, est]; simp
              clear hs0 est HR hk1 hk2
              go_wp2_with (at_builtin; refine app1 tByte (.tmp 57) (.tmp 58) w.heap.size _ cur (hown.alloc _) 42 (wx.heap.size + 1) (by simp) rfl rfl rfl rfl rfl (by first | omega | (simp; omega)) (by first | omega | (simp; omega)) ?_)
              intro g1 cap1 w1 ho1 hgr1 hat1 hb1'
              have hblk1 : w1.heap[wx.heap.size]? = some (.cells #[.int .i64 kd, .int .i64 sty, .string (mk txt)] 44 (0, 0)) := blk_kept (hown.alloc _) hgr1 (heap_alloc_new wx _) (by simp [tByte])
              have x2 := blk_cell (j := 2) hblk1 rfl
              go_wp2_with fail
              go_loopw [3, 9] (fun cv jv wr => ∃ (j : Nat) (cx : List UInt8), j ≤ txt.length ∧ jv = .int .i64 j ∧ Own wr w.heap.size tByte cv cx ∧ Hid (cx ++ (esc (txt.drop j) ++ unpGo (ps.drop (k + 1)) 1) = unp ps) ∧ Below w.heap.size w wr ∧ wr.heap[wx.heap.size]? = some (.cells #[.int .i64 kd, .int .i64 sty, .string (mk txt)] 44 (0, 0))) (fun _ jv _ => txt.length - (intOf jv).toNat)
              case atStart => exact ⟨0, (cur ++ [42]), Nat.zero_le _, rfl, by first | exact ho1 | simpa using ho1, by unfold Hid; rw [List.drop_zero]; exact HR0.out, (hbel.trans ((Below.refl _ _).alloc hz _)).trans hb1', hblk1⟩
              case round =>
                obtain ⟨j, cx, hj, rfl, hcj, HCX, hbj, hblk⟩ := hrel
                obtain ⟨qo, qcap, rfl⟩ := hcj.shape
                have zj := hbj.size
                have xj := blk_cell (j := 2) hblk rfl
                have hqlen := pre_len HCX.out
                by_cases hjl : j < txt.length
                · have ij : (j : Int) < (txt.length : Int) := by omega
                  by_cases c1 : txt[j].toNat = 92
                  · have t1 : ((txt[j].toNat : Int) == 92) = true := beq_iff_eq.2 (by omega)
                    have HX : Hid ((cx ++ [92] ++ [txt[j]]) ++ (esc (txt.drop (j + 1)) ++ unpGo (ps.drop (k + 1)) 1) = unp ps) := by unfold Hid; rw [← HCX.out, esc_at txt j hjl, if_pos (by simp [escd, c1])]; simp
                    clear c1
                    go_wp2_with ((at_builtin; refine app1 tByte (.tmp 86) (.tmp 87) w.heap.size _ cx hcj 92 _ rfl rfl rfl rfl rfl rfl (by first | omega | (simp; omega)) (by first | omega | (simp; omega)) ?_))
                    intro g5 cap5 w5 ho5 hgr5 hat5 hb5
                    have z5 := hb5.size
                    have hblk5 := blk_kept hcj hgr5 hblk (by simp [tByte])
                    go_wp2_with (at_builtin; refine app1 tByte (.tmp 89) (.tmp 91) w.heap.size _ (cx ++ [92]) ho5 txt[j] _ rfl rfl rfl rfl rfl rfl (by first | omega | (simp; omega)) (by first | omega | (simp; omega)) ?_)
                    intro g6 cap6 w6 ho6 hgr6 hat6 hb6
                    go_wp2
                    go_roundw
                    case rel => exact ⟨j + 1, cx ++ [92] ++ [txt[j]], by omega, by go_num, by first | exact ho6 | simpa using ho6, HX, (hbj.trans hb5).trans hb6, blk_kept ho5 hgr6 hblk5 (by simp [tByte])⟩
                    case measure => simp [intOf]; omega
                  · have t1 : ((txt[j].toNat : Int) == 92) = false := beq_eq_false_iff_ne.2 (by omega)
                    by_cases c2 : txt[j].toNat = 42
                    · have t2 : ((txt[j].toNat : Int) == 42) = true := beq_iff_eq.2 (by omega)
                      have HX : Hid ((cx ++ [92] ++ [txt[j]]) ++ (esc (txt.drop (j + 1)) ++ unpGo (ps.drop (k + 1)) 1) = unp ps) := by unfold Hid; rw [← HCX.out, esc_at txt j hjl, if_pos (by simp [escd, c2])]; simp
                      clear c2
                      go_wp2_with ((at_builtin; refine app1 tByte (.tmp 86) (.tmp 87) w.heap.size _ cx hcj 92 _ rfl rfl rfl rfl rfl rfl (by first | omega | (simp; omega)) (by first | omega | (simp; omega)) ?_))
                      intro g5 cap5 w5 ho5 hgr5 hat5 hb5
                      have z5 := hb5.size
                      have hblk5 := blk_kept hcj hgr5 hblk (by simp [tByte])
                      go_wp2_with (at_builtin; refine app1 tByte (.tmp 89) (.tmp 91) w.heap.size _ (cx ++ [92]) ho5 txt[j] _ rfl rfl rfl rfl rfl rfl (by first | omega | (simp; omega)) (by first | omega | (simp; omega)) ?_)
                      intro g6 cap6 w6 ho6 hgr6 hat6 hb6
                      go_wp2
                      go_roundw
                      case rel => exact ⟨j + 1, cx ++ [92] ++ [txt[j]], by omega, by go_num, by first | exact ho6 | simpa using ho6, HX, (hbj.trans hb5).trans hb6, blk_kept ho5 hgr6 hblk5 (by simp [tByte])⟩
                      case measure => simp [intOf]; omega
                    · have t2 : ((txt[j].toNat : Int) == 42) = false := beq_eq_false_iff_ne.2 (by omega)
                      by_cases c3 : txt[j].toNat = 96
                      · have t3 : ((txt[j].toNat : Int) == 96) = true := beq_iff_eq.2 (by omega)
                        have HX : Hid ((cx ++ [92] ++ [txt[j]]) ++ (esc (txt.drop (j + 1)) ++ unpGo (ps.drop (k + 1)) 1) = unp ps) := by unfold Hid; rw [← HCX.out, esc_at txt j hjl, if_pos (by simp [escd, c3])]; simp
                        clear c3
                        go_wp2_with ((at_builtin; refine app1 tByte (.tmp 86) (.tmp 87) w.heap.size _ cx hcj 92 _ rfl rfl rfl rfl rfl rfl (by first | omega | (simp; omega)) (by first | omega | (simp; omega)) ?_))
                        intro g5 cap5 w5 ho5 hgr5 hat5 hb5
                        have z5 := hb5.size
                        have hblk5 := blk_kept hcj hgr5 hblk (by simp [tByte])
                        go_wp2_with (at_builtin; refine app1 tByte (.tmp 89) (.tmp 91) w.heap.size _ (cx ++ [92]) ho5 txt[j] _ rfl rfl rfl rfl rfl rfl (by first | omega | (simp; omega)) (by first | omega | (simp; omega)) ?_)
                        intro g6 cap6 w6 ho6 hgr6 hat6 hb6
                        go_wp2
                        go_roundw
                        case rel => exact ⟨j + 1, cx ++ [92] ++ [txt[j]], by omega, by go_num, by first | exact ho6 | simpa using ho6, HX, (hbj.trans hb5).trans hb6, blk_kept ho5 hgr6 hblk5 (by simp [tByte])⟩
                        case measure => simp [intOf]; omega
                      · have t3 : ((txt[j].toNat : Int) == 96) = false := beq_eq_false_iff_ne.2 (by omega)
                        cases hsp : isSp txt[j] with
                        | true =>
                          have HX : Hid ((cx ++ [92] ++ [txt[j]]) ++ (esc (txt.drop (j + 1)) ++ unpGo (ps.drop (k + 1)) 1) = unp ps) := by unfold Hid; rw [← HCX.out, esc_at txt j hjl, if_pos (by simp [escd, hsp])]; simp
                          go_wp2_with (first | (go_at_call 60; refine (isSpace_any txt[j] _).mono ?_; rw [hsp]; rintro e w' ⟨rfl, rfl⟩) | (at_builtin; refine app1 tByte (.tmp 86) (.tmp 87) w.heap.size _ cx hcj 92 _ rfl rfl rfl rfl rfl rfl (by first | omega | (simp; omega)) (by first | omega | (simp; omega)) ?_))
                          intro g5 cap5 w5 ho5 hgr5 hat5 hb5
                          have z5 := hb5.size
                          have hblk5 := blk_kept hcj hgr5 hblk (by simp [tByte])
                          go_wp2_with (at_builtin; refine app1 tByte (.tmp 89) (.tmp 91) w.heap.size _ (cx ++ [92]) ho5 txt[j] _ rfl rfl rfl rfl rfl rfl (by first | omega | (simp; omega)) (by first | omega | (simp; omega)) ?_)
                          intro g6 cap6 w6 ho6 hgr6 hat6 hb6
                          go_wp2
                          go_roundw
                          case rel => exact ⟨j + 1, cx ++ [92] ++ [txt[j]], by omega, by go_num, by first | exact ho6 | simpa using ho6, HX, (hbj.trans hb5).trans hb6, blk_kept ho5 hgr6 hblk5 (by simp [tByte])⟩
                          case measure => simp [intOf]; omega
                        | false =>
                          have HX : Hid ((cx ++ [txt[j]]) ++ (esc (txt.drop (j + 1)) ++ unpGo (ps.drop (k + 1)) 1) = unp ps) := by unfold Hid; rw [← HCX.out, esc_at txt j hjl, if_neg (by simp [escd, c1, c2, c3, hsp])]; simp
                          go_wp2_with (first | (go_at_call 60; refine (isSpace_any txt[j] _).mono ?_; rw [hsp]; rintro e w' ⟨rfl, rfl⟩) | (at_builtin; refine app1 tByte (.tmp 89) (.tmp 91) w.heap.size _ cx hcj txt[j] _ rfl rfl rfl rfl rfl rfl (by first | omega | (simp; omega)) (by first | omega | (simp; omega)) ?_))
                          intro g5 cap5 w5 ho5 hgr5 hat5 hb5
                          go_wp2
                          go_roundw
                          case rel => exact ⟨j + 1, cx ++ [txt[j]], by omega, by go_num, by first | exact ho5 | simpa using ho5, HX, hbj.trans hb5, blk_kept hcj hgr5 hblk (by simp [tByte])⟩
                          case measure => simp [intOf]; omega
                · have HF : Hid (cx ++ unpGo (ps.drop (k + 1)) 1 = unp ps) := by unfold Hid; rw [← HCX.out, List.drop_of_length_le (by omega : txt.length ≤ j)]; rfl
                  go_wp2
                  go_roundw
                  case rel => exact ⟨k + 1, cx, 1, by omega, by go_num, by rfl, by decide, hcj, hbj, HF⟩
                  case measure => simp [intOf]; omega
      · by_cases hk1 : kd = 1
        · have hkb : (kd == 1) = true := beq_iff_eq.2 hk1
          have HE : Hid ((cur ++ [32]) ++ unpGo (ps.drop (k + 1)) 1 = unp ps) := by unfold Hid; rw [← HR.out, unpGo]; simp only [if_pos hk1]; simp
          clear hk1 HR
          go_wp2_with (at_builtin; refine app1 tByte (.tmp 20) (.tmp 21) w.heap.size _ cur (hown.alloc _) 32 (wx.heap.size + 1) (by simp) rfl rfl rfl rfl rfl (by first | omega | (simp; omega)) (by first | omega | (simp; omega)) ?_)
          intro g1 cap1 w1 ho1 hgr1 hat1 hb1'
          go_wp2
          go_roundw
          case rel => exact ⟨k + 1, cur ++ [32], 1, by omega, by go_num, by rfl, by decide, by first | exact ho1 | simpa using ho1, (hbel.trans ((Below.refl _ _).alloc hz _)).trans hb1', HE⟩
          case measure => simp [intOf]; omega
        · have hkb : (kd == 1) = false := beq_eq_false_iff_ne.2 hk1
          by_cases hk2 : kd = 2
          · have hkb2 : (kd == 2) = true := beq_iff_eq.2 hk2
            have HR0 : Hid ((cur ++ [96]) ++ (code txt ++ 96 :: unpGo (ps.drop (k + 1)) 1) = unp ps) := by unfold Hid; rw [← HR.out, unpGo]; simp only [if_neg hk1, if_pos hk2]; simp
            clear hk1 hk2 HR
            go_wp2_with (at_builtin; refine app1 tByte (.tmp 26) (.tmp 27) w.heap.size _ cur (hown.alloc _) 96 (wx.heap.size + 1) (by simp) rfl rfl rfl rfl rfl (by first | omega | (simp; omega)) (by first | omega | (simp; omega)) ?_)
            intro g1 cap1 w1 ho1 hgr1 hat1 hb1'
            have hblk1 : w1.heap[wx.heap.size]? = some (.cells #[.int .i64 kd, .int .i64 sty, .string (mk txt)] 44 (0, 0)) := blk_kept (hown.alloc _) hgr1 (heap_alloc_new wx _) (by simp [tByte])
            go_wp2
            go_loopw [3, 7] (fun cv jv wr => ∃ (j : Nat) (cx : List UInt8), j ≤ txt.length ∧ jv = .int .i64 j ∧ Own wr w.heap.size tByte cv cx ∧ Hid (cx ++ (code (txt.drop j) ++ 96 :: unpGo (ps.drop (k + 1)) 1) = unp ps) ∧ Below w.heap.size w wr ∧ wr.heap[wx.heap.size]? = some (.cells #[.int .i64 kd, .int .i64 sty, .string (mk txt)] 44 (0, 0))) (fun _ jv _ => txt.length - (intOf jv).toNat)
            case atStart => exact ⟨0, cur ++ [96], Nat.zero_le _, rfl, by first | exact ho1 | simpa using ho1, by unfold Hid; rw [List.drop_zero]; exact HR0.out, (hbel.trans ((Below.refl _ _).alloc hz _)).trans hb1', hblk1⟩
            case round =>
              obtain ⟨j, cx, hj, rfl, hcj, HCX, hbj, hblk⟩ := hrel
              obtain ⟨qo, qcap, rfl⟩ := hcj.shape
              have zj := hbj.size
              have xj := blk_cell (j := 2) hblk rfl
              have hqlen := pre_len HCX.out
              by_cases hjl : j < txt.length
              · have ij : (j : Int) < (txt.length : Int) := by omega
                by_cases c1 : txt[j].toNat = 96
                · have t1 : ((txt[j].toNat : Int) != 96) = false := by rw [bne_eq_false_iff_eq]; omega
                  have HX : Hid (cx ++ (code (txt.drop (j + 1)) ++ 96 :: unpGo (ps.drop (k + 1)) 1) = unp ps) := by unfold Hid; rw [← HCX.out, code_at txt j hjl, if_pos c1]; rfl
                  clear c1
                  go_wp2
                  go_roundw
                  case rel => exact ⟨j + 1, cx, by omega, by go_num, hcj, HX, hbj, hblk⟩
                  case measure => simp [intOf]; omega
                · have t1 : ((txt[j].toNat : Int) != 96) = true := by rw [bne_iff_ne]; omega
                  have HX : Hid ((cx ++ [txt[j]]) ++ (code (txt.drop (j + 1)) ++ 96 :: unpGo (ps.drop (k + 1)) 1) = unp ps) := by unfold Hid; rw [← HCX.out, code_at txt j hjl, if_neg c1]; simp
                  go_wp2_with (at_builtin; refine app1 tByte (.tmp 41) (.tmp 46) w.heap.size _ cx hcj txt[j] _ rfl rfl rfl rfl rfl rfl (by first | omega | (simp; omega)) (by first | omega | (simp; omega)) ?_)
                  intro g5 cap5 w5 ho5 hgr5 hat5 hb5
                  go_wp2
                  go_roundw
                  case rel => exact ⟨j + 1, cx ++ [txt[j]], by omega, by go_num, by first | exact ho5 | simpa using ho5, HX, hbj.trans hb5, blk_kept hcj hgr5 hblk (by simp [tByte])⟩
                  case measure => simp [intOf]; omega
              · have HF : Hid ((cx ++ [96]) ++ unpGo (ps.drop (k + 1)) 1 = unp ps) := by unfold Hid; rw [← HCX.out, List.drop_of_length_le (by omega : txt.length ≤ j)]; simp [code]
                go_wp2_with (at_builtin; refine app1 tByte (.tmp 48) (.tmp 49) w.heap.size _ cx hcj 96 _ rfl rfl rfl rfl rfl rfl (by first | omega | (simp; omega)) (by first | omega | (simp; omega)) ?_)
                intro g6 cap6 w6 ho6 hgr6 hat6 hb6
                go_wp2
                go_roundw
                case rel => exact ⟨k + 1, cx ++ [96], 1, by omega, by go_num, by rfl, by decide, by first | exact ho6 | simpa using ho6, hbj.trans hb6, HF⟩
                case measure => simp [intOf]; omega
          · have hkb2 : (kd == 2) = false := beq_eq_false_iff_ne.2 hk2
            by_cases hs0 : sty = 0
            · have hsb : (sty != 0) = false := by simp [hs0]
              have est : st01 sty = 0 := by simp [st01, hs0]
              have HR0 : Hid ((cur ++ [42]) ++ (esc txt ++ unpGo (ps.drop (k + 1)) 0) = unp ps) := by unfold Hid; rw [← HR.out, unpGo]; simp only [if_neg hk1, if_neg hk2, est]; simp
              clear hs0 est HR hk1 hk2
              go_wp2_with (at_builtin; refine app1 tByte (.tmp 57) (.tmp 58) w.heap.size _ cur (hown.alloc _) 42 (wx.heap.size + 1) (by simp) rfl rfl rfl rfl rfl (by first | omega | (simp; omega)) (by first | omega | (simp; omega)) ?_)
              intro g1 cap1 w1 ho1 hgr1 hat1 hb1'
              have hblk1 : w1.heap[wx.heap.size]? = some (.cells #[.int .i64 kd, .int .i64 sty, .string (mk txt)] 44 (0, 0)) := blk_kept (hown.alloc _) hgr1 (heap_alloc_new wx _) (by simp [tByte])
              have x2 := blk_cell (j := 2) hblk1 rfl
              go_wp2_with fail
              go_loopw [3, 9] (fun cv jv wr => ∃ (j : Nat) (cx : List UInt8), j ≤ txt.length ∧ jv = .int .i64 j ∧ Own wr w.heap.size tByte cv cx ∧ Hid (cx ++ (esc (txt.drop j) ++ unpGo (ps.drop (k + 1)) 0) = unp ps) ∧ Below w.heap.size w wr ∧ wr.heap[wx.heap.size]? = some (.cells #[.int .i64 kd, .int .i64 sty, .string (mk txt)] 44 (0, 0))) (fun _ jv _ => txt.length - (intOf jv).toNat)
              case atStart => exact ⟨0, (cur ++ [42]), Nat.zero_le _, rfl, by first | exact ho1 | simpa using ho1, by unfold Hid; rw [List.drop_zero]; exact HR0.out, (hbel.trans ((Below.refl _ _).alloc hz _)).trans hb1', hblk1⟩
              case round =>
                obtain ⟨j, cx, hj, rfl, hcj, HCX, hbj, hblk⟩ := hrel
                obtain ⟨qo, qcap, rfl⟩ := hcj.shape
                have zj := hbj.size
                have xj := blk_cell (j := 2) hblk rfl
                have hqlen := pre_len HCX.out
                by_cases hjl : j < txt.length
                · have ij : (j : Int) < (txt.length : Int) := by omega
                  by_cases c1 : txt[j].toNat = 92
                  · have t1 : ((txt[j].toNat : Int) == 92) = true := beq_iff_eq.2 (by omega)
                    have HX : Hid ((cx ++ [92] ++ [txt[j]]) ++ (esc (txt.drop (j + 1)) ++ unpGo (ps.drop (k + 1)) 0) = unp ps) := by unfold Hid; rw [← HCX.out, esc_at txt j hjl, if_pos (by simp [escd, c1])]; simp
                    clear c1
                    go_wp2_with ((at_builtin; refine app1 tByte (.tmp 86) (.tmp 87) w.heap.size _ cx hcj 92 _ rfl rfl rfl rfl rfl rfl (by first | omega | (simp; omega)) (by first | omega | (simp; omega)) ?_))
                    intro g5 cap5 w5 ho5 hgr5 hat5 hb5
                    have z5 := hb5.size
                    have hblk5 := blk_kept hcj hgr5 hblk (by simp [tByte])
                    go_wp2_with (at_builtin; refine app1 tByte (.tmp 89) (.tmp 91) w.heap.size _ (cx ++ [92]) ho5 txt[j] _ rfl rfl rfl rfl rfl rfl (by first | omega | (simp; omega)) (by first | omega | (simp; omega)) ?_)
                    intro g6 cap6 w6 ho6 hgr6 hat6 hb6
                    go_wp2
                    go_roundw
                    case rel => exact ⟨j + 1, cx ++ [92] ++ [txt[j]], by omega, by go_num, by first | exact ho6 | simpa using ho6, HX, (hbj.trans hb5).trans hb6, blk_kept ho5 hgr6 hblk5 (by simp [tByte])⟩
                    case measure => simp [intOf]; omega
                  · have t1 : ((txt[j].toNat : Int) == 92) = false := beq_eq_false_iff_ne.2 (by omega)
                    by_cases c2 : txt[j].toNat = 42
                    · have t2 : ((txt[j].toNat : Int) == 42) = true := beq_iff_eq.2 (by omega)
                      have HX : Hid ((cx ++ [92] ++ [txt[j]]) ++ (esc (txt.drop (j + 1)) ++ unpGo (ps.drop (k + 1)) 0) = unp ps) := by unfold Hid; rw [← HCX.out, esc_at txt j hjl, if_pos (by simp [escd, c2])]; simp
                      clear c2
                      go_wp2_with ((at_builtin; refine app1 tByte (.tmp 86) (.tmp 87) w.heap.size _ cx hcj 92 _ rfl rfl rfl rfl rfl rfl (by first | omega | (simp; omega)) (by first | omega | (simp; omega)) ?_))
                      intro g5 cap5 w5 ho5 hgr5 hat5 hb5
                      have z5 := hb5.size
                      have hblk5 := blk_kept hcj hgr5 hblk (by simp [tByte])
                      go_wp2_with (at_builtin; refine app1 tByte (.tmp 89) (.tmp 91) w.heap.size _ (cx ++ [92]) ho5 txt[j] _ rfl rfl rfl rfl rfl rfl (by first | omega | (simp; omega)) (by first | omega | (simp; omega)) ?_)
                      intro g6 cap6 w6 ho6 hgr6 hat6 hb6
                      go_wp2
                      go_roundw
                      case rel => exact ⟨j + 1, cx ++ [92] ++ [txt[j]], by omega, by go_num, by first | exact ho6 | simpa using ho6, HX, (hbj.trans hb5).trans hb6, blk_kept ho5 hgr6 hblk5 (by simp [tByte])⟩
                      case measure => simp [intOf]; omega
                    · have t2 : ((txt[j].toNat : Int) == 42) = false := beq_eq_false_iff_ne.2 (by omega)
                      by_cases c3 : txt[j].toNat = 96
                      · have t3 : ((txt[j].toNat : Int) == 96) = true := beq_iff_eq.2 (by omega)
                        have HX : Hid ((cx ++ [92] ++ [txt[j]]) ++ (esc (txt.drop (j + 1)) ++ unpGo (ps.drop (k + 1)) 0) = unp ps) := by unfold Hid; rw [← HCX.out, esc_at txt j hjl, if_pos (by simp [escd, c3])]; simp
                        clear c3
                        go_wp2_with ((at_builtin; refine app1 tByte (.tmp 86) (.tmp 87) w.heap.size _ cx hcj 92 _ rfl rfl rfl rfl rfl rfl (by first | omega | (simp; omega)) (by first | omega | (simp; omega)) ?_))
                        intro g5 cap5 w5 ho5 hgr5 hat5 hb5
                        have z5 := hb5.size
                        have hblk5 := blk_kept hcj hgr5 hblk (by simp [tByte])
                        go_wp2_with (at_builtin; refine app1 tByte (.tmp 89) (.tmp 91) w.heap.size _ (cx ++ [92]) ho5 txt[j] _ rfl rfl rfl rfl rfl rfl (by first | omega | (simp; omega)) (by first | omega | (simp; omega)) ?_)
                        intro g6 cap6 w6 ho6 hgr6 hat6 hb6
                        go_wp2
                        go_roundw
                        case rel => exact ⟨j + 1, cx ++ [92] ++ [txt[j]], by omega, by go_num, by first | exact ho6 | simpa using ho6, HX, (hbj.trans hb5).trans hb6, blk_kept ho5 hgr6 hblk5 (by simp [tByte])⟩
                        case measure => simp [intOf]; omega
                      · have t3 : ((txt[j].toNat : Int) == 96) = false := beq_eq_false_iff_ne.2 (by omega)
                        cases hsp : isSp txt[j] with
                        | true =>
                          have HX : Hid ((cx ++ [92] ++ [txt[j]]) ++ (esc (txt.drop (j + 1)) ++ unpGo (ps.drop (k + 1)) 0) = unp ps) := by unfold Hid; rw [← HCX.out, esc_at txt j hjl, if_pos (by simp [escd, hsp])]; simp
                          go_wp2_with (first | (go_at_call 60; refine (isSpace_any txt[j] _).mono ?_; rw [hsp]; rintro e w' ⟨rfl, rfl⟩) | (at_builtin; refine app1 tByte (.tmp 86) (.tmp 87) w.heap.size _ cx hcj 92 _ rfl rfl rfl rfl rfl rfl (by first | omega | (simp; omega)) (by first | omega | (simp; omega)) ?_))
                          intro g5 cap5 w5 ho5 hgr5 hat5 hb5
                          have z5 := hb5.size
                          have hblk5 := blk_kept hcj hgr5 hblk (by simp [tByte])
                          go_wp2_with (at_builtin; refine app1 tByte (.tmp 89) (.tmp 91) w.heap.size _ (cx ++ [92]) ho5 txt[j] _ rfl rfl rfl rfl rfl rfl (by first | omega | (simp; omega)) (by first | omega | (simp; omega)) ?_)
                          intro g6 cap6 w6 ho6 hgr6 hat6 hb6
                          go_wp2
                          go_roundw
                          case rel => exact ⟨j + 1, cx ++ [92] ++ [txt[j]], by omega, by go_num, by first | exact ho6 | simpa using ho6, HX, (hbj.trans hb5).trans hb6, blk_kept ho5 hgr6 hblk5 (by simp [tByte])⟩
                          case measure => simp [intOf]; omega
                        | false =>
                          have HX : Hid ((cx ++ [txt[j]]) ++ (esc (txt.drop (j + 1)) ++ unpGo (ps.drop (k + 1)) 0) = unp ps) := by unfold Hid; rw [← HCX.out, esc_at txt j hjl, if_neg (by simp [escd, c1, c2, c3, hsp])]; simp
                          go_wp2_with (first | (go_at_call 60; refine (isSpace_any txt[j] _).mono ?_; rw [hsp]; rintro e w' ⟨rfl, rfl⟩) | (at_builtin; refine app1 tByte (.tmp 89) (.tmp 91) w.heap.size _ cx hcj txt[j] _ rfl rfl rfl rfl rfl rfl (by first | omega | (simp; omega)) (by first | omega | (simp; omega)) ?_))
                          intro g5 cap5 w5 ho5 hgr5 hat5 hb5
                          go_wp2
                          go_roundw
                          case rel => exact ⟨j + 1, cx ++ [txt[j]], by omega, by go_num, by first | exact ho5 | simpa using ho5, HX, hbj.trans hb5, blk_kept hcj hgr5 hblk (by simp [tByte])⟩
                          case measure => simp [intOf]; omega
                · have HF : Hid (cx ++ unpGo (ps.drop (k + 1)) 0 = unp ps) := by unfold Hid; rw [← HCX.out, List.drop_of_length_le (by omega : txt.length ≤ j)]; rfl
                  go_wp2
                  go_roundw
                  case rel => exact ⟨k + 1, cx, 0, by omega, by go_num, by rfl, by decide, hcj, hbj, HF⟩
                  case measure => simp [intOf]; omega
            · have hsb : (sty != 0) = true := by simp [hs0]
              have est : st01 sty = 1 := by simp [st01, hs0]
              have HR0 : Hid (cur ++ (esc txt ++ unpGo (ps.drop (k + 1)) 1) = unp ps) := by unfold Hid; rw [← HR.out, unpGo]; simp only [if_neg hk1, if_neg hk2, est]; simp
              clear hs0 est HR hk1 hk2
              go_wp2_with fail
              go_loopw [3, 9] (fun cv jv wr => ∃ (j : Nat) (cx : List UInt8), j ≤ txt.length ∧ jv = .int .i64 j ∧ Own wr w.heap.size tByte cv cx ∧ Hid (cx ++ (esc (txt.drop j) ++ unpGo (ps.drop (k + 1)) 1) = unp ps) ∧ Below w.heap.size w wr ∧ wr.heap[wx.heap.size]? = some (.cells #[.int .i64 kd, .int .i64 sty, .string (mk txt)] 44 (0, 0))) (fun _ jv _ => txt.length - (intOf jv).toNat)
              case atStart => exact ⟨0, cur, Nat.zero_le _, rfl, by first | exact (hown.alloc _) | simpa using (hown.alloc _), by unfold Hid; rw [List.drop_zero]; exact HR0.out, hbel.trans ((Below.refl _ _).alloc hz _), heap_alloc_new wx _⟩
              case round =>
                obtain ⟨j, cx, hj, rfl, hcj, HCX, hbj, hblk⟩ := hrel
                obtain ⟨qo, qcap, rfl⟩ := hcj.shape
                have zj := hbj.size
                have xj := blk_cell (j := 2) hblk rfl
                have hqlen := pre_len HCX.out
                by_cases hjl : j < txt.length
                · have ij : (j : Int) < (txt.length : Int) := by omega
                  by_cases c1 : txt[j].toNat = 92
                  · have t1 : ((txt[j].toNat : Int) == 92) = true := beq_iff_eq.2 (by omega)
                    have HX : Hid ((cx ++ [92] ++ [txt[j]]) ++ (esc (txt.drop (j + 1)) ++ unpGo (ps.drop (k + 1)) 1) = unp ps) := by unfold Hid; rw [← HCX.out, esc_at txt j hjl, if_pos (by simp [escd, c1])]; simp
                    clear c1
                    go_wp2_with ((at_builtin; refine app1 tByte (.tmp 86) (.tmp 87) w.heap.size _ cx hcj 92 _ rfl rfl rfl rfl rfl rfl (by first | omega | (simp; omega)) (by first | omega | (simp; omega)) ?_))
                    intro g5 cap5 w5 ho5 hgr5 hat5 hb5
                    have z5 := hb5.size
                    have hblk5 := blk_kept hcj hgr5 hblk (by simp [tByte])
                    go_wp2_with (at_builtin; refine app1 tByte (.tmp 89) (.tmp 91) w.heap.size _ (cx ++ [92]) ho5 txt[j] _ rfl rfl rfl rfl rfl rfl (by first | omega | (simp; omega)) (by first | omega | (simp; omega)) ?_)
                    intro g6 cap6 w6 ho6 hgr6 hat6 hb6
                    go_wp2
                    go_roundw
                    case rel => exact ⟨j + 1, cx ++ [92] ++ [txt[j]], by omega, by go_num, by first | exact ho6 | simpa using ho6, HX, (hbj.trans hb5).trans hb6, blk_kept ho5 hgr6 hblk5 (by simp [tByte])⟩
                    case measure => simp [intOf]; omega
                  · have t1 : ((txt[j].toNat : Int) == 92) = false := beq_eq_false_iff_ne.2 (by omega)
                    by_cases c2 : txt[j].toNat = 42
                    · have t2 : ((txt[j].toNat : Int) == 42) = true := beq_iff_eq.2 (by omega)
                      have HX : Hid ((cx ++ [92] ++ [txt[j]]) ++ (esc (txt.drop (j + 1)) ++ unpGo (ps.drop (k + 1)) 1) = unp ps) := by unfold Hid; rw [← HCX.out, esc_at txt j hjl, if_pos (by simp [escd, c2])]; simp
                      clear c2
                      go_wp2_with ((at_builtin; refine app1 tByte (.tmp 86) (.tmp 87) w.heap.size _ cx hcj 92 _ rfl rfl rfl rfl rfl rfl (by first | omega | (simp; omega)) (by first | omega | (simp; omega)) ?_))
                      intro g5 cap5 w5 ho5 hgr5 hat5 hb5
                      have z5 := hb5.size
                      have hblk5 := blk_kept hcj hgr5 hblk (by simp [tByte])
                      go_wp2_with (at_builtin; refine app1 tByte (.tmp 89) (.tmp 91) w.heap.size _ (cx ++ [92]) ho5 txt[j] _ rfl rfl rfl rfl rfl rfl (by first | omega | (simp; omega)) (by first | omega | (simp; omega)) ?_)
                      intro g6 cap6 w6 ho6 hgr6 hat6 hb6
                      go_wp2
                      go_roundw
                      case rel => exact ⟨j + 1, cx ++ [92] ++ [txt[j]], by omega, by go_num, by first | exact ho6 | simpa using ho6, HX, (hbj.trans hb5).trans hb6, blk_kept ho5 hgr6 hblk5 (by simp [tByte])⟩
                      case measure => simp [intOf]; omega
                    · have t2 : ((txt[j].toNat : Int) == 42) = false := beq_eq_false_iff_ne.2 (by omega)
                      by_cases c3 : txt[j].toNat = 96
                      · have t3 : ((txt[j].toNat : Int) == 96) = true := beq_iff_eq.2 (by omega)
                        have HX : Hid ((cx ++ [92] ++ [txt[j]]) ++ (esc (txt.drop (j + 1)) ++ unpGo (ps.drop (k + 1)) 1) = unp ps) := by unfold Hid; rw [← HCX.out, esc_at txt j hjl, if_pos (by simp [escd, c3])]; simp
                        clear c3
                        go_wp2_with ((at_builtin; refine app1 tByte (.tmp 86) (.tmp 87) w.heap.size _ cx hcj 92 _ rfl rfl rfl rfl rfl rfl (by first | omega | (simp; omega)) (by first | omega | (simp; omega)) ?_))
                        intro g5 cap5 w5 ho5 hgr5 hat5 hb5
                        have z5 := hb5.size
                        have hblk5 := blk_kept hcj hgr5 hblk (by simp [tByte])
                        go_wp2_with (at_builtin; refine app1 tByte (.tmp 89) (.tmp 91) w.heap.size _ (cx ++ [92]) ho5 txt[j] _ rfl rfl rfl rfl rfl rfl (by first | omega | (simp; omega)) (by first | omega | (simp; omega)) ?_)
                        intro g6 cap6 w6 ho6 hgr6 hat6 hb6
                        go_wp2
                        go_roundw
                        case rel => exact ⟨j + 1, cx ++ [92] ++ [txt[j]], by omega, by go_num, by first | exact ho6 | simpa using ho6, HX, (hbj.trans hb5).trans hb6, blk_kept ho5 hgr6 hblk5 (by simp [tByte])⟩
                        case measure => simp [intOf]; omega
                      · have t3 : ((txt[j].toNat : Int) == 96) = false := beq_eq_false_iff_ne.2 (by omega)
                        cases hsp : isSp txt[j] with
                        | true =>
                          have HX : Hid ((cx ++ [92] ++ [txt[j]]) ++ (esc (txt.drop (j + 1)) ++ unpGo (ps.drop (k + 1)) 1) = unp ps) := by unfold Hid; rw [← HCX.out, esc_at txt j hjl, if_pos (by simp [escd, hsp])]; simp
                          go_wp2_with (first | (go_at_call 60; refine (isSpace_any txt[j] _).mono ?_; rw [hsp]; rintro e w' ⟨rfl, rfl⟩) | (at_builtin; refine app1 tByte (.tmp 86) (.tmp 87) w.heap.size _ cx hcj 92 _ rfl rfl rfl rfl rfl rfl (by first | omega | (simp; omega)) (by first | omega | (simp; omega)) ?_))
                          intro g5 cap5 w5 ho5 hgr5 hat5 hb5
                          have z5 := hb5.size
                          have hblk5 := blk_kept hcj hgr5 hblk (by simp [tByte])
                          go_wp2_with (at_builtin; refine app1 tByte (.tmp 89) (.tmp 91) w.heap.size _ (cx ++ [92]) ho5 txt[j] _ rfl rfl rfl rfl rfl rfl (by first | omega | (simp; omega)) (by first | omega | (simp; omega)) ?_)
                          intro g6 cap6 w6 ho6 hgr6 hat6 hb6
                          go_wp2
                          go_roundw
                          case rel => exact ⟨j + 1, cx ++ [92] ++ [txt[j]], by omega, by go_num, by first | exact ho6 | simpa using ho6, HX, (hbj.trans hb5).trans hb6, blk_kept ho5 hgr6 hblk5 (by simp [tByte])⟩
                          case measure => simp [intOf]; omega
                        | false =>
                          have HX : Hid ((cx ++ [txt[j]]) ++ (esc (txt.drop (j + 1)) ++ unpGo (ps.drop (k + 1)) 1) = unp ps) := by unfold Hid; rw [← HCX.out, esc_at txt j hjl, if_neg (by simp [escd, c1, c2, c3, hsp])]; simp
                          go_wp2_with (first | (go_at_call 60; refine (isSpace_any txt[j] _).mono ?_; rw [hsp]; rintro e w' ⟨rfl, rfl⟩) | (at_builtin; refine app1 tByte (.tmp 89) (.tmp 91) w.heap.size _ cx hcj txt[j] _ rfl rfl rfl rfl rfl rfl (by first | omega | (simp; omega)) (by first | omega | (simp; omega)) ?_))
                          intro g5 cap5 w5 ho5 hgr5 hat5 hb5
                          go_wp2
                          go_roundw
                          case rel => exact ⟨j + 1, cx ++ [txt[j]], by omega, by go_num, by first | exact ho5 | simpa using ho5, HX, hbj.trans hb5, blk_kept hcj hgr5 hblk (by simp [tByte])⟩
                          case measure => simp [intOf]; omega
                · have HF : Hid (cx ++ unpGo (ps.drop (k + 1)) 1 = unp ps) := by unfold Hid; rw [← HCX.out, List.drop_of_length_le (by omega : txt.length ≤ j)]; rfl
                  go_wp2
                  go_roundw
                  case rel => exact ⟨k + 1, cx, 1, by omega, by go_num, by rfl, by decide, hcj, hbj, HF⟩
                  case measure => simp [intOf]; omega
    · rcases h01 with rfl | rfl
      · have hcv := conv_own hown
        have HF : Hid (cur = unp ps) := by unfold Hid; rw [← hr.out, List.drop_of_length_le (by omega), unpGo]; simp
        clear hr
        go_wp2
        go_ret
        exact ⟨ret_str HF.out, hbel⟩
      · have HF : Hid (cur ++ [42] = unp ps) := by unfold Hid; rw [← hr.out, List.drop_of_length_le (by omega), unpGo]; simp
        clear hr
        go_wp2_with (at_builtin; refine app1 tByte (.tmp 96) (.tmp 97) w.heap.size _ cur hown 42 wx.heap.size rfl rfl rfl rfl rfl rfl (by first | omega | (simp; omega)) (by first | omega | (simp; omega)) ?_)
        intro g1 cap1 w1 ho1 hgr1 hat1 hb1'
        have hcv := conv_own ho1
        go_wp2
        go_ret
        exact ⟨ret_str HF.out, hbel.trans hb1'⟩

end Go.Proofs.Ybuaaw
