import Derived.Test.YbuaawMem3
import Derived.Test.YbuaawPlain4
import Derived.Test.YbuaawW10
namespace Go.Proofs.Ybuaaw
open Go.RowKit
attribute [local go_sem] mk_size mk_toList mk_getElem mk_extract take_len_drop mk_append_lit

set_option maxRecDepth 100000 in
set_option maxHeartbeats 8000000 in
theorem renderLines_any (fs : List Frg) (v : Value) (B : Nat) (w : World) (hB : B ≤ w.heap.size) (h1 : Rdd w B tFrg v fs) (hs : fs.length ≤ 2147483648) (ht : flen fs ≤ 2147483648) :
    Calls Yaac.prog 44 #[v] w fun e w' => ∃ v', e = .returned v' ∧ Own w' w.heap.size tStr v' (rlines fs) ∧ Below w.heap.size w w' := by
  obtain ⟨a1, c1, rfl, _, _⟩ := h1.shape
  by_cases hn : fs.length = 0
  · have e0 : fs = [] := List.eq_nil_of_length_eq_zero hn
    subst e0
    go_enter Yaac.func44, Yaac.ntmps44
    go_wp2
    go_ret
    exact ⟨_, rfl, Own.nil _ _ _, Below.refl _ _⟩
  · have hn' : ((fs.length : Int) == 0) = false := beq_eq_false_iff_ne.2 (by omega)
    have HRL : Hid (rlines fs = rlGo fs 0 [] []) := rlines_ne fs hn
    go_enter Yaac.func44, Yaac.ntmps44
    go_wp2
    go_loopw [3, 4, 15] (fun lv cv i wr => ∃ (k : Nat) (lines : List (List UInt8)) (cur : List UInt8), k ≤ fs.length ∧ i = .int .i64 k ∧ lines.length ≤ k ∧ cur.length + flen (fs.drop k) + (fs.length - k) ≤ flen fs + fs.length ∧
        Own wr w.heap.size tStr lv lines ∧ Own wr w.heap.size tByte cv cur ∧ Below w.heap.size w wr ∧ Hid (rlGo (fs.drop k) k lines cur = rlGo fs 0 [] [])) (fun _ _ i _ => fs.length - (intOf i).toNat)
    case atStart => exact ⟨0, [], [], Nat.zero_le _, rfl, by simp, by simp, Own.nil _ _ _, Own.nil _ _ _, Below.refl _ _, rfl⟩
    case round =>
      obtain ⟨k, lines, cur, hk, rfl, hll, hcl, holin, hocur, hbel, hr⟩ := hrel
      obtain ⟨wx, rfl⟩ : ∃ wx : World, wx = wr := ⟨_, rfl⟩
      obtain ⟨lo, lcap, rfl⟩ := holin.shape
      obtain ⟨co, ccap, rfl⟩ := hocur.shape
      have hz := hbel.size
      by_cases hlt : k < fs.length
      · obtain ⟨b1, o1, rfl, hb1, hc1⟩ := (h1.below (hbel.mono hB)).frg k hlt
        obtain ⟨d1, d2, d3, d4⟩ := hc1 k hlt
        clear hc1
        have i1 : (k : Int) < (fs.length : Int) := by omega
        rw [flen_at fs k hlt] at hcl
        have hcv : ∀ o, (convert 66 9 (.slice co cur.length ccap)).run Yaac.prog (wx.alloc o) = .ok (.string (mk cur)) (wx.alloc o) := fun o => conv_own (hocur.alloc o)
        by_cases hnb : k ≠ 0 ∧ (fs[k].brk = 2 ∨ fs[k].brk = 1)
        · obtain ⟨hk0, hbr⟩ := hnb
          have i0 : (0 : Int) < (k : Int) := by omega
          by_cases hb2 : fs[k].brk = 2
          · have hbb : (fs[k].brk == 2) = true := beq_iff_eq.2 hb2
            have HE : Hid (rlGo (fs.drop (k + 1)) (k + 1) (lines ++ [cur]) ([] ++ shown fs[k].kind fs[k].style fs[k].text) = rlGo fs 0 [] []) := by rw [← hr.out, rlGo_brk2 fs k lines cur hlt hk0 hb2]; exact rfl
            clear hr hb2 hbr
            go_wp2_with (at_builtin; refine app1 tStr (.tmp 25) (.tmp 28) w.heap.size _ lines (holin.alloc _) cur (wx.heap.size + 1) (by simp) rfl rfl rfl rfl rfl (by omega) (by simp; omega) ?_)
            intro g1 cap1 w1 ho1 hgr1 hat1 hbb1
            have hblk1 : w1.heap[wx.heap.size]? = some (.cells #[.int .i64 fs[k].brk, .int .i64 fs[k].kind, .int .i64 fs[k].style, .string (mk fs[k].text)] 51 (0, 0)) := blk_kept (holin.alloc _) hgr1 (heap_alloc_new wx _) (by simp [tStr])
            have x1 := blk_cell (j := 1) hblk1 rfl
            have x2 := blk_cell (j := 2) hblk1 rfl
            have x3 := blk_cell (j := 3) hblk1 rfl
            have z1 := hbb1.size
            simp at z1
            by_cases hk2 : fs[k].kind = 2
            · have hk2b : (fs[k].kind == 2) = true := beq_iff_eq.2 hk2
              have hsw : shown fs[k].kind fs[k].style fs[k].text = fs[k].text := by unfold shown; rw [if_pos (.inl hk2)]
              rw [hsw] at HE
              clear hsw hk2
              go_wp2_with (at_builtin; refine appS (.tmp 44) (.tmp 46) w.heap.size _ ([] : List UInt8) (Own.nil w1 w.heap.size tByte) fs[k].text rfl rfl rfl rfl (by first | omega | (simp; omega)) (by first | omega | (simp; omega)) ?_)
              intro ao4 cap4 w4 ho4 hgr4 hb4
              have hl4 := Own.apart ho1 (Own.nil w1 w.heap.size tByte) hgr4 (by simp [tByte, tStr])
              go_wp2
              go_roundw
              case rel => exact ⟨k + 1, lines ++ [cur], ([] : List UInt8) ++ fs[k].text, by omega, by go_num, by first | omega | (simp; omega), by simp; omega, hl4, by first | exact ho4 | simpa using ho4, ((hbel.trans ((Below.refl _ _).alloc hz _)).trans hbb1).trans hb4, HE⟩
              case measure => simp [intOf]; omega
            · have hk2b : (fs[k].kind == 2) = false := beq_eq_false_iff_ne.2 hk2
              by_cases hs0 : fs[k].style = 0
              · have hsb : (fs[k].style == 0) = true := beq_iff_eq.2 hs0
                have hsw : shown fs[k].kind fs[k].style fs[k].text = fs[k].text := by unfold shown; rw [if_pos (.inr hs0)]
                rw [hsw] at HE
                clear hsw hs0
                go_wp2_with (at_builtin; refine appS (.tmp 44) (.tmp 46) w.heap.size _ ([] : List UInt8) (Own.nil w1 w.heap.size tByte) fs[k].text rfl rfl rfl rfl (by first | omega | (simp; omega)) (by first | omega | (simp; omega)) ?_)
                intro ao4 cap4 w4 ho4 hgr4 hb4
                have hl4 := Own.apart ho1 (Own.nil w1 w.heap.size tByte) hgr4 (by simp [tByte, tStr])
                go_wp2
                go_roundw
                case rel => exact ⟨k + 1, lines ++ [cur], ([] : List UInt8) ++ fs[k].text, by omega, by go_num, by first | omega | (simp; omega), by simp; omega, hl4, by first | exact ho4 | simpa using ho4, ((hbel.trans ((Below.refl _ _).alloc hz _)).trans hbb1).trans hb4, HE⟩
                case measure => simp [intOf]; omega
              · have hsb : (fs[k].style == 0) = false := beq_eq_false_iff_ne.2 hs0
                have hsw : shown fs[k].kind fs[k].style fs[k].text = fs[k].text.map up := by unfold shown; rw [if_neg (by omega)]
                rw [hsw] at HE
                clear hsw
                go_wp2
                go_loopw [4, 7] (fun cv jv wr => ∃ (j : Nat) (cx : List UInt8), j ≤ fs[k].text.length ∧ jv = .int .i64 j ∧ Own wr w.heap.size tStr (.slice (some ⟨g1, 0, none⟩) (lines.length + 1) cap1) (lines ++ [cur]) ∧ Own wr w.heap.size tByte cv cx ∧ Hid (cx = ([] : List UInt8) ++ (fs[k].text.take j).map up) ∧ Below w.heap.size w wr ∧ wr.heap[wx.heap.size]? = some (.cells #[.int .i64 fs[k].brk, .int .i64 fs[k].kind, .int .i64 fs[k].style, .string (mk fs[k].text)] 51 (0, 0))) (fun _ jv _ => fs[k].text.length - (intOf jv).toNat)
                case atStart => exact ⟨0, ([] : List UInt8), Nat.zero_le _, rfl, ho1, by first | exact (Own.nil w1 w.heap.size tByte) | simpa using (Own.nil w1 w.heap.size tByte), by simp [Hid], (hbel.trans ((Below.refl _ _).alloc hz _)).trans hbb1, hblk1⟩
                case round =>
                  obtain ⟨j, cx, hj, rfl, hlj, hcj, HCX, hbj, hblk⟩ := hrel
                  obtain ⟨qo, qcap, rfl⟩ := hcj.shape
                  have zj := hbj.size
                  have xj := blk_cell (j := 3) hblk rfl
                  have hqlen : cx.length < 1099511627776 := by have h := congrArg List.length HCX.out; simp at h; omega
                  by_cases hjl : j < fs[k].text.length
                  · have ij : (j : Int) < (fs[k].text.length : Int) := by omega
                    by_cases hu : 97 ≤ fs[k].text[j].toNat ∧ fs[k].text[j].toNat ≤ 122
                    · have u1 : (97 : Int) ≤ (fs[k].text[j].toNat : Int) := by omega
                      have u2 : (fs[k].text[j].toNat : Int) ≤ 122 := by omega
                      have HU : Hid (((up fs[k].text[j]).toNat : Int) = (fs[k].text[j].toNat : Int) - 32) := up_yes _ hu
                      clear hu
                      go_wp2_with (at_builtin; refine app1 tByte (.tmp 67) (.tmp 69) w.heap.size _ cx hcj (up fs[k].text[j]) wr.heap.size rfl (by simp [tByte, HU.out]) rfl rfl rfl rfl (by omega) (by omega) ?_)
                      intro g5 cap5 w5 ho5 hgr5 hat5 hb5
                      go_wp2
                      go_roundw
                      case rel => exact ⟨j + 1, cx ++ [up fs[k].text[j]], by omega, by go_num, hlj.apart hcj hgr5 (by simp [tByte, tStr]), ho5, by rw [HCX.out, map_take_snoc _ j hjl, ← List.append_assoc]; exact rfl, hbj.trans hb5, blk_kept hcj hgr5 hblk (by simp [tByte])⟩
                      case measure => simp [intOf]; omega
                    · have HU : Hid (up fs[k].text[j] = fs[k].text[j]) := up_no _ hu
                      by_cases hu1 : 97 ≤ fs[k].text[j].toNat
                      · have u1 : (97 : Int) ≤ (fs[k].text[j].toNat : Int) := by omega
                        have u2 : ¬ (fs[k].text[j].toNat : Int) ≤ 122 := by omega
                        clear hu
                        go_wp2_with (at_builtin; refine app1 tByte (.tmp 67) (.tmp 69) w.heap.size _ cx hcj (up fs[k].text[j]) wr.heap.size rfl (by simp [tByte, HU.out]) rfl rfl rfl rfl (by omega) (by omega) ?_)
                        intro g5 cap5 w5 ho5 hgr5 hat5 hb5
                        go_wp2
                        go_roundw
                        case rel => exact ⟨j + 1, cx ++ [up fs[k].text[j]], by omega, by go_num, hlj.apart hcj hgr5 (by simp [tByte, tStr]), ho5, by rw [HCX.out, map_take_snoc _ j hjl, ← List.append_assoc]; exact rfl, hbj.trans hb5, blk_kept hcj hgr5 hblk (by simp [tByte])⟩
                        case measure => simp [intOf]; omega
                      · have u1 : ¬ (97 : Int) ≤ (fs[k].text[j].toNat : Int) := by omega
                        clear hu
                        go_wp2_with (at_builtin; refine app1 tByte (.tmp 67) (.tmp 69) w.heap.size _ cx hcj (up fs[k].text[j]) wr.heap.size rfl (by simp [tByte, HU.out]) rfl rfl rfl rfl (by omega) (by omega) ?_)
                        intro g5 cap5 w5 ho5 hgr5 hat5 hb5
                        go_wp2
                        go_roundw
                        case rel => exact ⟨j + 1, cx ++ [up fs[k].text[j]], by omega, by go_num, hlj.apart hcj hgr5 (by simp [tByte, tStr]), ho5, by rw [HCX.out, map_take_snoc _ j hjl, ← List.append_assoc]; exact rfl, hbj.trans hb5, blk_kept hcj hgr5 hblk (by simp [tByte])⟩
                        case measure => simp [intOf]; omega
                  · have ej : j = fs[k].text.length := by omega
                    have hce := HCX.out
                    rw [ej, List.take_length] at hce
                    have HCE : Hid (cx = ([] : List UInt8) ++ fs[k].text.map up) := hce
                    clear hce ej
                    go_wp2
                    go_roundw
                    case rel => exact ⟨k + 1, lines ++ [cur], ([] : List UInt8) ++ fs[k].text.map up, by omega, by go_num, by first | omega | (simp; omega), by simp; omega, hlj, by rw [← HCE.out]; exact hcj, hbj, HE⟩
                    case measure => simp [intOf]; omega
          · have hb1' : fs[k].brk = 1 := by omega
            have hbb : (fs[k].brk == 2) = false := beq_eq_false_iff_ne.2 hb2
            have hbb1 : (fs[k].brk == 1) = true := beq_iff_eq.2 hb1'
            have HE : Hid (rlGo (fs.drop (k + 1)) (k + 1) lines (cur ++ [32] ++ shown fs[k].kind fs[k].style fs[k].text) = rlGo fs 0 [] []) := by rw [← hr.out, rlGo_brk1 fs k lines cur hlt hk0 hb1']; exact rfl
            clear hr hb1' hbr
            go_wp2_with (at_builtin; refine app1 tByte (.tmp 33) (.tmp 34) w.heap.size _ cur (hocur.alloc _) 32 (wx.heap.size + 1) (by simp) rfl rfl rfl rfl rfl (by omega) (by simp; omega) ?_)
            intro g1 cap1 w1 ho1 hgr1 hat1 hbb1'
            have hblk1 : w1.heap[wx.heap.size]? = some (.cells #[.int .i64 fs[k].brk, .int .i64 fs[k].kind, .int .i64 fs[k].style, .string (mk fs[k].text)] 51 (0, 0)) := blk_kept (hocur.alloc _) hgr1 (heap_alloc_new wx _) (by simp [tByte])
            have x1 := blk_cell (j := 1) hblk1 rfl
            have x2 := blk_cell (j := 2) hblk1 rfl
            have x3 := blk_cell (j := 3) hblk1 rfl
            have hl1 := (holin.alloc _).apart (hocur.alloc _) hgr1 (by simp [tByte, tStr])
            have z1 := hbb1'.size
            simp at z1
            by_cases hk2 : fs[k].kind = 2
            · have hk2b : (fs[k].kind == 2) = true := beq_iff_eq.2 hk2
              have hsw : shown fs[k].kind fs[k].style fs[k].text = fs[k].text := by unfold shown; rw [if_pos (.inl hk2)]
              rw [hsw] at HE
              clear hsw hk2
              go_wp2_with (at_builtin; refine appS (.tmp 44) (.tmp 46) w.heap.size _ (cur ++ [32]) ho1 fs[k].text rfl rfl rfl rfl (by first | omega | (simp; omega)) (by first | omega | (simp; omega)) ?_)
              intro ao4 cap4 w4 ho4 hgr4 hb4
              have hl4 := Own.apart hl1 ho1 hgr4 (by simp [tByte, tStr])
              go_wp2
              go_roundw
              case rel => exact ⟨k + 1, lines, (cur ++ [32]) ++ fs[k].text, by omega, by go_num, by first | omega | (simp; omega), by simp; omega, hl4, by first | exact ho4 | simpa using ho4, ((hbel.trans ((Below.refl _ _).alloc hz _)).trans hbb1').trans hb4, HE⟩
              case measure => simp [intOf]; omega
            · have hk2b : (fs[k].kind == 2) = false := beq_eq_false_iff_ne.2 hk2
              by_cases hs0 : fs[k].style = 0
              · have hsb : (fs[k].style == 0) = true := beq_iff_eq.2 hs0
                have hsw : shown fs[k].kind fs[k].style fs[k].text = fs[k].text := by unfold shown; rw [if_pos (.inr hs0)]
                rw [hsw] at HE
                clear hsw hs0
                go_wp2_with (at_builtin; refine appS (.tmp 44) (.tmp 46) w.heap.size _ (cur ++ [32]) ho1 fs[k].text rfl rfl rfl rfl (by first | omega | (simp; omega)) (by first | omega | (simp; omega)) ?_)
                intro ao4 cap4 w4 ho4 hgr4 hb4
                have hl4 := Own.apart hl1 ho1 hgr4 (by simp [tByte, tStr])
                go_wp2
                go_roundw
                case rel => exact ⟨k + 1, lines, (cur ++ [32]) ++ fs[k].text, by omega, by go_num, by first | omega | (simp; omega), by simp; omega, hl4, by first | exact ho4 | simpa using ho4, ((hbel.trans ((Below.refl _ _).alloc hz _)).trans hbb1').trans hb4, HE⟩
                case measure => simp [intOf]; omega
              · have hsb : (fs[k].style == 0) = false := beq_eq_false_iff_ne.2 hs0
                have hsw : shown fs[k].kind fs[k].style fs[k].text = fs[k].text.map up := by unfold shown; rw [if_neg (by omega)]
                rw [hsw] at HE
                clear hsw
                go_wp2
                go_loopw [4, 7] (fun cv jv wr => ∃ (j : Nat) (cx : List UInt8), j ≤ fs[k].text.length ∧ jv = .int .i64 j ∧ Own wr w.heap.size tStr (.slice lo lines.length lcap) (lines) ∧ Own wr w.heap.size tByte cv cx ∧ Hid (cx = (cur ++ [32]) ++ (fs[k].text.take j).map up) ∧ Below w.heap.size w wr ∧ wr.heap[wx.heap.size]? = some (.cells #[.int .i64 fs[k].brk, .int .i64 fs[k].kind, .int .i64 fs[k].style, .string (mk fs[k].text)] 51 (0, 0))) (fun _ jv _ => fs[k].text.length - (intOf jv).toNat)
                case atStart => exact ⟨0, (cur ++ [32]), Nat.zero_le _, rfl, hl1, by first | exact ho1 | simpa using ho1, by simp [Hid], (hbel.trans ((Below.refl _ _).alloc hz _)).trans hbb1', hblk1⟩
                case round =>
                  obtain ⟨j, cx, hj, rfl, hlj, hcj, HCX, hbj, hblk⟩ := hrel
                  obtain ⟨qo, qcap, rfl⟩ := hcj.shape
                  have zj := hbj.size
                  have xj := blk_cell (j := 3) hblk rfl
                  have hqlen : cx.length < 1099511627776 := by have h := congrArg List.length HCX.out; simp at h; omega
                  by_cases hjl : j < fs[k].text.length
                  · have ij : (j : Int) < (fs[k].text.length : Int) := by omega
                    by_cases hu : 97 ≤ fs[k].text[j].toNat ∧ fs[k].text[j].toNat ≤ 122
                    · have u1 : (97 : Int) ≤ (fs[k].text[j].toNat : Int) := by omega
                      have u2 : (fs[k].text[j].toNat : Int) ≤ 122 := by omega
                      have HU : Hid (((up fs[k].text[j]).toNat : Int) = (fs[k].text[j].toNat : Int) - 32) := up_yes _ hu
                      clear hu
                      go_wp2_with (at_builtin; refine app1 tByte (.tmp 67) (.tmp 69) w.heap.size _ cx hcj (up fs[k].text[j]) wr.heap.size rfl (by simp [tByte, HU.out]) rfl rfl rfl rfl (by omega) (by omega) ?_)
                      intro g5 cap5 w5 ho5 hgr5 hat5 hb5
                      go_wp2
                      go_roundw
                      case rel => exact ⟨j + 1, cx ++ [up fs[k].text[j]], by omega, by go_num, hlj.apart hcj hgr5 (by simp [tByte, tStr]), ho5, by rw [HCX.out, map_take_snoc _ j hjl, ← List.append_assoc]; exact rfl, hbj.trans hb5, blk_kept hcj hgr5 hblk (by simp [tByte])⟩
                      case measure => simp [intOf]; omega
                    · have HU : Hid (up fs[k].text[j] = fs[k].text[j]) := up_no _ hu
                      by_cases hu1 : 97 ≤ fs[k].text[j].toNat
                      · have u1 : (97 : Int) ≤ (fs[k].text[j].toNat : Int) := by omega
                        have u2 : ¬ (fs[k].text[j].toNat : Int) ≤ 122 := by omega
                        clear hu
                        go_wp2_with (at_builtin; refine app1 tByte (.tmp 67) (.tmp 69) w.heap.size _ cx hcj (up fs[k].text[j]) wr.heap.size rfl (by simp [tByte, HU.out]) rfl rfl rfl rfl (by omega) (by omega) ?_)
                        intro g5 cap5 w5 ho5 hgr5 hat5 hb5
                        go_wp2
                        go_roundw
                        case rel => exact ⟨j + 1, cx ++ [up fs[k].text[j]], by omega, by go_num, hlj.apart hcj hgr5 (by simp [tByte, tStr]), ho5, by rw [HCX.out, map_take_snoc _ j hjl, ← List.append_assoc]; exact rfl, hbj.trans hb5, blk_kept hcj hgr5 hblk (by simp [tByte])⟩
                        case measure => simp [intOf]; omega
                      · have u1 : ¬ (97 : Int) ≤ (fs[k].text[j].toNat : Int) := by omega
                        clear hu
                        go_wp2_with (at_builtin; refine app1 tByte (.tmp 67) (.tmp 69) w.heap.size _ cx hcj (up fs[k].text[j]) wr.heap.size rfl (by simp [tByte, HU.out]) rfl rfl rfl rfl (by omega) (by omega) ?_)
                        intro g5 cap5 w5 ho5 hgr5 hat5 hb5
                        go_wp2
                        go_roundw
                        case rel => exact ⟨j + 1, cx ++ [up fs[k].text[j]], by omega, by go_num, hlj.apart hcj hgr5 (by simp [tByte, tStr]), ho5, by rw [HCX.out, map_take_snoc _ j hjl, ← List.append_assoc]; exact rfl, hbj.trans hb5, blk_kept hcj hgr5 hblk (by simp [tByte])⟩
                        case measure => simp [intOf]; omega
                  · have ej : j = fs[k].text.length := by omega
                    have hce := HCX.out
                    rw [ej, List.take_length] at hce
                    have HCE : Hid (cx = (cur ++ [32]) ++ fs[k].text.map up) := hce
                    clear hce ej
                    go_wp2
                    go_roundw
                    case rel => exact ⟨k + 1, lines, (cur ++ [32]) ++ fs[k].text.map up, by omega, by go_num, by first | omega | (simp; omega), by simp; omega, hlj, by rw [← HCE.out]; exact hcj, hbj, HE⟩
                    case measure => simp [intOf]; omega
        · have HE : Hid (rlGo (fs.drop (k + 1)) (k + 1) lines (cur ++ shown fs[k].kind fs[k].style fs[k].text) = rlGo fs 0 [] []) := by rw [← hr.out, rlGo_none fs k lines cur hlt hnb]; exact rfl
          clear hr
          by_cases hk0 : k = 0
          · have i0 : ¬ (0 : Int) < (k : Int) := by omega
            clear hk0 hnb
            by_cases hk2 : fs[k].kind = 2
            · have hk2b : (fs[k].kind == 2) = true := beq_iff_eq.2 hk2
              have hsw : shown fs[k].kind fs[k].style fs[k].text = fs[k].text := by unfold shown; rw [if_pos (.inl hk2)]
              rw [hsw] at HE
              clear hsw hk2
              go_wp2_with (at_builtin; refine appS (.tmp 44) (.tmp 46) w.heap.size _ cur (hocur.alloc _) fs[k].text rfl rfl rfl rfl (by first | omega | (simp; omega)) (by first | omega | (simp; omega)) ?_)
              intro ao4 cap4 w4 ho4 hgr4 hb4
              have hl4 := Own.apart (holin.alloc _) (hocur.alloc _) hgr4 (by simp [tByte, tStr])
              go_wp2
              go_roundw
              case rel => exact ⟨k + 1, lines, cur ++ fs[k].text, by omega, by go_num, by first | omega | (simp; omega), by simp; omega, hl4, by first | exact ho4 | simpa using ho4, (hbel.trans ((Below.refl _ _).alloc hz _)).trans hb4, HE⟩
              case measure => simp [intOf]; omega
            · have hk2b : (fs[k].kind == 2) = false := beq_eq_false_iff_ne.2 hk2
              by_cases hs0 : fs[k].style = 0
              · have hsb : (fs[k].style == 0) = true := beq_iff_eq.2 hs0
                have hsw : shown fs[k].kind fs[k].style fs[k].text = fs[k].text := by unfold shown; rw [if_pos (.inr hs0)]
                rw [hsw] at HE
                clear hsw hs0
                go_wp2_with (at_builtin; refine appS (.tmp 44) (.tmp 46) w.heap.size _ cur (hocur.alloc _) fs[k].text rfl rfl rfl rfl (by first | omega | (simp; omega)) (by first | omega | (simp; omega)) ?_)
                intro ao4 cap4 w4 ho4 hgr4 hb4
                have hl4 := Own.apart (holin.alloc _) (hocur.alloc _) hgr4 (by simp [tByte, tStr])
                go_wp2
                go_roundw
                case rel => exact ⟨k + 1, lines, cur ++ fs[k].text, by omega, by go_num, by first | omega | (simp; omega), by simp; omega, hl4, by first | exact ho4 | simpa using ho4, (hbel.trans ((Below.refl _ _).alloc hz _)).trans hb4, HE⟩
                case measure => simp [intOf]; omega
              · have hsb : (fs[k].style == 0) = false := beq_eq_false_iff_ne.2 hs0
                have hsw : shown fs[k].kind fs[k].style fs[k].text = fs[k].text.map up := by unfold shown; rw [if_neg (by omega)]
                rw [hsw] at HE
                clear hsw
                go_wp2
                go_loopw [4, 7] (fun cv jv wr => ∃ (j : Nat) (cx : List UInt8), j ≤ fs[k].text.length ∧ jv = .int .i64 j ∧ Own wr w.heap.size tStr (.slice lo lines.length lcap) (lines) ∧ Own wr w.heap.size tByte cv cx ∧ Hid (cx = cur ++ (fs[k].text.take j).map up) ∧ Below w.heap.size w wr ∧ wr.heap[wx.heap.size]? = some (.cells #[.int .i64 fs[k].brk, .int .i64 fs[k].kind, .int .i64 fs[k].style, .string (mk fs[k].text)] 51 (0, 0))) (fun _ jv _ => fs[k].text.length - (intOf jv).toNat)
                case atStart => exact ⟨0, cur, Nat.zero_le _, rfl, (holin.alloc _), by first | exact (hocur.alloc _) | simpa using (hocur.alloc _), by simp [Hid], hbel.trans ((Below.refl _ _).alloc hz _), heap_alloc_new wx _⟩
                case round =>
                  obtain ⟨j, cx, hj, rfl, hlj, hcj, HCX, hbj, hblk⟩ := hrel
                  obtain ⟨qo, qcap, rfl⟩ := hcj.shape
                  have zj := hbj.size
                  have xj := blk_cell (j := 3) hblk rfl
                  have hqlen : cx.length < 1099511627776 := by have h := congrArg List.length HCX.out; simp at h; omega
                  by_cases hjl : j < fs[k].text.length
                  · have ij : (j : Int) < (fs[k].text.length : Int) := by omega
                    by_cases hu : 97 ≤ fs[k].text[j].toNat ∧ fs[k].text[j].toNat ≤ 122
                    · have u1 : (97 : Int) ≤ (fs[k].text[j].toNat : Int) := by omega
                      have u2 : (fs[k].text[j].toNat : Int) ≤ 122 := by omega
                      have HU : Hid (((up fs[k].text[j]).toNat : Int) = (fs[k].text[j].toNat : Int) - 32) := up_yes _ hu
                      clear hu
                      go_wp2_with (at_builtin; refine app1 tByte (.tmp 67) (.tmp 69) w.heap.size _ cx hcj (up fs[k].text[j]) wr.heap.size rfl (by simp [tByte, HU.out]) rfl rfl rfl rfl (by omega) (by omega) ?_)
                      intro g5 cap5 w5 ho5 hgr5 hat5 hb5
                      go_wp2
                      go_roundw
                      case rel => exact ⟨j + 1, cx ++ [up fs[k].text[j]], by omega, by go_num, hlj.apart hcj hgr5 (by simp [tByte, tStr]), ho5, by rw [HCX.out, map_take_snoc _ j hjl, ← List.append_assoc]; exact rfl, hbj.trans hb5, blk_kept hcj hgr5 hblk (by simp [tByte])⟩
                      case measure => simp [intOf]; omega
                    · have HU : Hid (up fs[k].text[j] = fs[k].text[j]) := up_no _ hu
                      by_cases hu1 : 97 ≤ fs[k].text[j].toNat
                      · have u1 : (97 : Int) ≤ (fs[k].text[j].toNat : Int) := by omega
                        have u2 : ¬ (fs[k].text[j].toNat : Int) ≤ 122 := by omega
                        clear hu
                        go_wp2_with (at_builtin; refine app1 tByte (.tmp 67) (.tmp 69) w.heap.size _ cx hcj (up fs[k].text[j]) wr.heap.size rfl (by simp [tByte, HU.out]) rfl rfl rfl rfl (by omega) (by omega) ?_)
                        intro g5 cap5 w5 ho5 hgr5 hat5 hb5
                        go_wp2
                        go_roundw
                        case rel => exact ⟨j + 1, cx ++ [up fs[k].text[j]], by omega, by go_num, hlj.apart hcj hgr5 (by simp [tByte, tStr]), ho5, by rw [HCX.out, map_take_snoc _ j hjl, ← List.append_assoc]; exact rfl, hbj.trans hb5, blk_kept hcj hgr5 hblk (by simp [tByte])⟩
                        case measure => simp [intOf]; omega
                      · have u1 : ¬ (97 : Int) ≤ (fs[k].text[j].toNat : Int) := by omega
                        clear hu
                        go_wp2_with (at_builtin; refine app1 tByte (.tmp 67) (.tmp 69) w.heap.size _ cx hcj (up fs[k].text[j]) wr.heap.size rfl (by simp [tByte, HU.out]) rfl rfl rfl rfl (by omega) (by omega) ?_)
                        intro g5 cap5 w5 ho5 hgr5 hat5 hb5
                        go_wp2
                        go_roundw
                        case rel => exact ⟨j + 1, cx ++ [up fs[k].text[j]], by omega, by go_num, hlj.apart hcj hgr5 (by simp [tByte, tStr]), ho5, by rw [HCX.out, map_take_snoc _ j hjl, ← List.append_assoc]; exact rfl, hbj.trans hb5, blk_kept hcj hgr5 hblk (by simp [tByte])⟩
                        case measure => simp [intOf]; omega
                  · have ej : j = fs[k].text.length := by omega
                    have hce := HCX.out
                    rw [ej, List.take_length] at hce
                    have HCE : Hid (cx = cur ++ fs[k].text.map up) := hce
                    clear hce ej
                    go_wp2
                    go_roundw
                    case rel => exact ⟨k + 1, lines, cur ++ fs[k].text.map up, by omega, by go_num, by first | omega | (simp; omega), by simp; omega, hlj, by rw [← HCE.out]; exact hcj, hbj, HE⟩
                    case measure => simp [intOf]; omega
          · have i0 : (0 : Int) < (k : Int) := by omega
            have i0n : 0 < k := by omega
            have i0b : decide ((0 : Int) < (k : Int)) = true := decide_eq_true i0
            have hbb : (fs[k].brk == 2) = false := beq_eq_false_iff_ne.2 (fun c => hnb ⟨hk0, .inl c⟩)
            have hbb1 : (fs[k].brk == 1) = false := beq_eq_false_iff_ne.2 (fun c => hnb ⟨hk0, .inr c⟩)
            clear hk0 hnb
            by_cases hk2 : fs[k].kind = 2
            · have hk2b : (fs[k].kind == 2) = true := beq_iff_eq.2 hk2
              have hsw : shown fs[k].kind fs[k].style fs[k].text = fs[k].text := by unfold shown; rw [if_pos (.inl hk2)]
              rw [hsw] at HE
              clear hsw hk2
              go_wp2_with (at_builtin; refine appS (.tmp 44) (.tmp 46) w.heap.size _ cur (hocur.alloc _) fs[k].text rfl rfl rfl rfl (by first | omega | (simp; omega)) (by first | omega | (simp; omega)) ?_)
              intro ao4 cap4 w4 ho4 hgr4 hb4
              have hl4 := Own.apart (holin.alloc _) (hocur.alloc _) hgr4 (by simp [tByte, tStr])
              go_wp2
              go_roundw
              case rel => exact ⟨k + 1, lines, cur ++ fs[k].text, by omega, by go_num, by first | omega | (simp; omega), by simp; omega, hl4, by first | exact ho4 | simpa using ho4, (hbel.trans ((Below.refl _ _).alloc hz _)).trans hb4, HE⟩
              case measure => simp [intOf]; omega
            · have hk2b : (fs[k].kind == 2) = false := beq_eq_false_iff_ne.2 hk2
              by_cases hs0 : fs[k].style = 0
              · have hsb : (fs[k].style == 0) = true := beq_iff_eq.2 hs0
                have hsw : shown fs[k].kind fs[k].style fs[k].text = fs[k].text := by unfold shown; rw [if_pos (.inr hs0)]
                rw [hsw] at HE
                clear hsw hs0
                go_wp2_with (at_builtin; refine appS (.tmp 44) (.tmp 46) w.heap.size _ cur (hocur.alloc _) fs[k].text rfl rfl rfl rfl (by first | omega | (simp; omega)) (by first | omega | (simp; omega)) ?_)
                intro ao4 cap4 w4 ho4 hgr4 hb4
                have hl4 := Own.apart (holin.alloc _) (hocur.alloc _) hgr4 (by simp [tByte, tStr])
                go_wp2
                go_roundw
                case rel => exact ⟨k + 1, lines, cur ++ fs[k].text, by omega, by go_num, by first | omega | (simp; omega), by simp; omega, hl4, by first | exact ho4 | simpa using ho4, (hbel.trans ((Below.refl _ _).alloc hz _)).trans hb4, HE⟩
                case measure => simp [intOf]; omega
              · have hsb : (fs[k].style == 0) = false := beq_eq_false_iff_ne.2 hs0
                have hsw : shown fs[k].kind fs[k].style fs[k].text = fs[k].text.map up := by unfold shown; rw [if_neg (by omega)]
                rw [hsw] at HE
                clear hsw
                go_wp2
                go_loopw [4, 7] (fun cv jv wr => ∃ (j : Nat) (cx : List UInt8), j ≤ fs[k].text.length ∧ jv = .int .i64 j ∧ Own wr w.heap.size tStr (.slice lo lines.length lcap) (lines) ∧ Own wr w.heap.size tByte cv cx ∧ Hid (cx = cur ++ (fs[k].text.take j).map up) ∧ Below w.heap.size w wr ∧ wr.heap[wx.heap.size]? = some (.cells #[.int .i64 fs[k].brk, .int .i64 fs[k].kind, .int .i64 fs[k].style, .string (mk fs[k].text)] 51 (0, 0))) (fun _ jv _ => fs[k].text.length - (intOf jv).toNat)
                case atStart => exact ⟨0, cur, Nat.zero_le _, rfl, (holin.alloc _), by first | exact (hocur.alloc _) | simpa using (hocur.alloc _), by simp [Hid], hbel.trans ((Below.refl _ _).alloc hz _), heap_alloc_new wx _⟩
                case round =>
                  obtain ⟨j, cx, hj, rfl, hlj, hcj, HCX, hbj, hblk⟩ := hrel
                  obtain ⟨qo, qcap, rfl⟩ := hcj.shape
                  have zj := hbj.size
                  have xj := blk_cell (j := 3) hblk rfl
                  have hqlen : cx.length < 1099511627776 := by have h := congrArg List.length HCX.out; simp at h; omega
                  by_cases hjl : j < fs[k].text.length
                  · have ij : (j : Int) < (fs[k].text.length : Int) := by omega
                    by_cases hu : 97 ≤ fs[k].text[j].toNat ∧ fs[k].text[j].toNat ≤ 122
                    · have u1 : (97 : Int) ≤ (fs[k].text[j].toNat : Int) := by omega
                      have u2 : (fs[k].text[j].toNat : Int) ≤ 122 := by omega
                      have HU : Hid (((up fs[k].text[j]).toNat : Int) = (fs[k].text[j].toNat : Int) - 32) := up_yes _ hu
                      clear hu
                      go_wp2_with (at_builtin; refine app1 tByte (.tmp 67) (.tmp 69) w.heap.size _ cx hcj (up fs[k].text[j]) wr.heap.size rfl (by simp [tByte, HU.out]) rfl rfl rfl rfl (by omega) (by omega) ?_)
                      intro g5 cap5 w5 ho5 hgr5 hat5 hb5
                      go_wp2
                      go_roundw
                      case rel => exact ⟨j + 1, cx ++ [up fs[k].text[j]], by omega, by go_num, hlj.apart hcj hgr5 (by simp [tByte, tStr]), ho5, by rw [HCX.out, map_take_snoc _ j hjl, ← List.append_assoc]; exact rfl, hbj.trans hb5, blk_kept hcj hgr5 hblk (by simp [tByte])⟩
                      case measure => simp [intOf]; omega
                    · have HU : Hid (up fs[k].text[j] = fs[k].text[j]) := up_no _ hu
                      by_cases hu1 : 97 ≤ fs[k].text[j].toNat
                      · have u1 : (97 : Int) ≤ (fs[k].text[j].toNat : Int) := by omega
                        have u2 : ¬ (fs[k].text[j].toNat : Int) ≤ 122 := by omega
                        clear hu
                        go_wp2_with (at_builtin; refine app1 tByte (.tmp 67) (.tmp 69) w.heap.size _ cx hcj (up fs[k].text[j]) wr.heap.size rfl (by simp [tByte, HU.out]) rfl rfl rfl rfl (by omega) (by omega) ?_)
                        intro g5 cap5 w5 ho5 hgr5 hat5 hb5
                        go_wp2
                        go_roundw
                        case rel => exact ⟨j + 1, cx ++ [up fs[k].text[j]], by omega, by go_num, hlj.apart hcj hgr5 (by simp [tByte, tStr]), ho5, by rw [HCX.out, map_take_snoc _ j hjl, ← List.append_assoc]; exact rfl, hbj.trans hb5, blk_kept hcj hgr5 hblk (by simp [tByte])⟩
                        case measure => simp [intOf]; omega
                      · have u1 : ¬ (97 : Int) ≤ (fs[k].text[j].toNat : Int) := by omega
                        clear hu
                        go_wp2_with (at_builtin; refine app1 tByte (.tmp 67) (.tmp 69) w.heap.size _ cx hcj (up fs[k].text[j]) wr.heap.size rfl (by simp [tByte, HU.out]) rfl rfl rfl rfl (by omega) (by omega) ?_)
                        intro g5 cap5 w5 ho5 hgr5 hat5 hb5
                        go_wp2
                        go_roundw
                        case rel => exact ⟨j + 1, cx ++ [up fs[k].text[j]], by omega, by go_num, hlj.apart hcj hgr5 (by simp [tByte, tStr]), ho5, by rw [HCX.out, map_take_snoc _ j hjl, ← List.append_assoc]; exact rfl, hbj.trans hb5, blk_kept hcj hgr5 hblk (by simp [tByte])⟩
                        case measure => simp [intOf]; omega
                  · have ej : j = fs[k].text.length := by omega
                    have hce := HCX.out
                    rw [ej, List.take_length] at hce
                    have HCE : Hid (cx = cur ++ fs[k].text.map up) := hce
                    clear hce ej
                    go_wp2
                    go_roundw
                    case rel => exact ⟨k + 1, lines, cur ++ fs[k].text.map up, by omega, by go_num, by first | omega | (simp; omega), by simp; omega, hlj, by rw [← HCE.out]; exact hcj, hbj, HE⟩
                    case measure => simp [intOf]; omega
      · have hcv := conv_own hocur
        go_wp2_with (at_builtin; refine app1 tStr (.tmp 72) (.tmp 75) w.heap.size _ lines holin cur wx.heap.size rfl rfl rfl rfl rfl rfl (by omega) (by omega) ?_)
        intro g1 cap1 w1 ho1 hgr1 hat1 hbb1
        go_wp2
        go_ret
        exact ⟨_, rfl, by rw [HRL.out, ← hr.out, List.drop_of_length_le (by omega), rlGo]; exact ho1, hbel.trans hbb1⟩

end Go.Proofs.Ybuaaw
