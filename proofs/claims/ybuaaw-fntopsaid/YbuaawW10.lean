import Derived.Test.YbuaawMem3
import Derived.Test.YbuaawPlain4
import Derived.Test.YbuaawW5
namespace Go.Proofs.Ybuaaw
open Go.RowKit
attribute [local go_sem] mk_size mk_toList mk_getElem mk_extract take_len_drop mk_append_lit

theorem map_take_snoc (l : List UInt8) (k : Nat) (hk : k < l.length) : (l.take (k + 1)).map up = (l.take k).map up ++ [up l[k]] := by
  rw [List.take_succ_eq_append_getElem hk, List.map_append]; rfl

theorem set_take_up (l : List UInt8) (k : Nat) (hk : k < l.length) : ((l.take k).map up ++ List.replicate (l.length - k) 0).set k (up l[k]) = (l.take (k + 1)).map up ++ List.replicate (l.length - (k + 1)) 0 := by
  have e1 : l.length - k = (l.length - (k + 1)) + 1 := by omega
  rw [e1, List.replicate_succ, List.set_append_right _ _ (by simp; omega)]
  have e2 : k - ((l.take k).map up).length = 0 := by simp; omega
  rw [e2, List.set_cons_zero, map_take_snoc l k hk, List.append_assoc]
  rfl

set_option maxHeartbeats 800000 in
theorem upper_any (l : List UInt8) (w : World) (hs : l.length ≤ 4294967296) :
    Calls Yaac.prog 74 #[.string (mk l)] w fun e w' => e = .returned (.string (mk (l.map up))) ∧ Below w.heap.size w w' := by
  go_enter Yaac.func74, Yaac.ntmps74
  go_wp2_with (at_make; refine makeE tByte 0 rfl (.tmp 7) w.heap.size l.length .i64 rfl rfl rfl (by omega) (by omega) ?_; intro w1 ho hb hlt1)
  go_loopw [4] (fun i wr => ∃ (k : Nat), k ≤ l.length ∧ i = .int .i64 k ∧ Own wr w.heap.size tByte (.slice (some ⟨w.heap.size, 0, none⟩) l.length l.length) ((l.take k).map up ++ List.replicate (l.length - k) 0) ∧ Below w.heap.size w wr) (fun i _ => l.length - (intOf i).toNat)
  case atStart => exact ⟨0, Nat.zero_le _, rfl, by simpa using ho, hb⟩
  case round =>
    obtain ⟨k, hk, rfl, hown, hbel⟩ := hrel
    have hll : ((l.take k).map up ++ List.replicate (l.length - k) (0 : UInt8)).length = l.length := by simp; omega
    by_cases hlt : k < l.length
    · have c1 := hown.cellAt k (by omega) 0 (by simp [tByte])
      have f1 := hown.frozenAt k
      have h2 := hown.store1 k (by omega) (up l[k]) 0 (.int .u8 (up l[k]).toNat) (by simp [tByte]) rfl
      rw [set_take_up l k hlt] at h2
      simp only [tByte, Nat.mul_one, Nat.add_zero] at c1 h2
      have i1 : (k : Int) < (l.length : Int) := by omega
      obtain ⟨v, c3⟩ : ∃ v, wr.cell? ⟨w.heap.size, k, none⟩ = some v := ⟨_, c1⟩
      clear c1
      by_cases hu : 97 ≤ l[k].toNat ∧ l[k].toNat ≤ 122
      · rw [up_yes _ hu] at h2
        have u1 : (97 : Int) ≤ (l[k].toNat : Int) := by omega
        have u2 : (l[k].toNat : Int) ≤ 122 := by omega
        clear hu
        go_wp2
        go_roundw
        case rel => exact ⟨k + 1, by omega, by go_num, h2, hbel.setCell (Nat.le_refl _) _⟩
        case measure => simp [intOf]; omega
      · rw [up_no _ hu] at h2
        by_cases hu1 : 97 ≤ l[k].toNat
        · have u1 : (97 : Int) ≤ (l[k].toNat : Int) := by omega
          have u2 : ¬ (l[k].toNat : Int) ≤ 122 := by omega
          clear hu
          go_wp2
          go_roundw
          case rel => exact ⟨k + 1, by omega, by go_num, h2, hbel.setCell (Nat.le_refl _) _⟩
          case measure => simp [intOf]; omega
        · have u1 : ¬ (97 : Int) ≤ (l[k].toNat : Int) := by omega
          clear hu
          go_wp2
          go_roundw
          case rel => exact ⟨k + 1, by omega, by go_num, h2, hbel.setCell (Nat.le_refl _) _⟩
          case measure => simp [intOf]; omega
    · have e1 : (l.take k).map up ++ List.replicate (l.length - k) (0 : UInt8) = l.map up := by rw [List.take_of_length_le (by omega)]; simp; omega
      rw [e1] at hown
      have hcv := conv_own hown
      go_wp2
      go_ret
      exact ⟨rfl, hbel⟩

set_option maxHeartbeats 800000 in
theorem shown_any (kind style : Int) (l : List UInt8) (w : World) (hs : l.length ≤ 4294967296) :
    Calls Yaac.prog 70 #[.int .i64 kind, .int .i64 style, .string (mk l)] w fun e w' => e = .returned (.string (mk (shown kind style l))) ∧ Below w.heap.size w w' := by
  by_cases h2 : kind = 2
  · have h2b : (kind == 2) = true := beq_iff_eq.2 h2
    have e : shown kind style l = l := by unfold shown; rw [if_pos (.inl h2)]
    rw [e]
    clear e h2
    go_enter Yaac.func70, Yaac.ntmps70
    go_wp2
    go_ret
    exact ⟨rfl, Below.refl _ _⟩
  · have h2b : (kind == 2) = false := beq_eq_false_iff_ne.2 h2
    by_cases hs0 : style = 0
    · have hsb : (style == 0) = true := beq_iff_eq.2 hs0
      have e : shown kind style l = l := by unfold shown; rw [if_pos (.inr hs0)]
      rw [e]
      clear e hs0
      go_enter Yaac.func70, Yaac.ntmps70
      go_wp2
      go_ret
      exact ⟨rfl, Below.refl _ _⟩
    · have hsb : (style == 0) = false := beq_eq_false_iff_ne.2 hs0
      have e : shown kind style l = l.map up := by unfold shown; rw [if_neg (by omega)]
      rw [e]
      clear e
      go_enter Yaac.func70, Yaac.ntmps70
      go_wp2_with (go_at_call 74; refine (upper_any l _ hs).mono ?_; rintro e w1 ⟨rfl, hb⟩)
      go_ret
      exact ⟨rfl, hb⟩

set_option maxRecDepth 100000 in
set_option maxHeartbeats 4000000 in
theorem renderLinesS_any (fs : List Frg) (v : Value) (B : Nat) (w : World) (hB : B ≤ w.heap.size) (h1 : Rdd w B tFrg v fs) (hs : fs.length ≤ 2147483648) (ht : flen fs ≤ 2147483648) :
    Calls Yaac.prog 47 #[v] w fun e w' => ∃ v', e = .returned v' ∧ Own w' w.heap.size tStr v' (rlines fs) ∧ Below w.heap.size w w' := by
  obtain ⟨a1, c1, rfl, _, _⟩ := h1.shape
  by_cases hn : fs.length = 0
  · have e0 : fs = [] := List.eq_nil_of_length_eq_zero hn
    subst e0
    go_enter Yaac.func47, Yaac.ntmps47
    go_wp2
    go_ret
    exact ⟨_, rfl, Own.nil _ _ _, Below.refl _ _⟩
  · have hn' : ((fs.length : Int) == 0) = false := beq_eq_false_iff_ne.2 (by omega)
    have HRL : Hid (rlines fs = rlGo fs 0 [] []) := rlines_ne fs hn
    go_enter Yaac.func47, Yaac.ntmps47
    go_wp2
    go_loopw [3, 4, 5] (fun lv cv i wr => ∃ (k : Nat) (lines : List (List UInt8)) (cur : List UInt8), k ≤ fs.length ∧ i = .int .i64 k ∧ lines.length ≤ k ∧ cur.length + flen (fs.drop k) + (fs.length - k) ≤ flen fs + fs.length ∧
        Own wr w.heap.size tStr lv lines ∧ Own wr w.heap.size tByte cv cur ∧ Below w.heap.size w wr ∧ Hid (rlGo (fs.drop k) k lines cur = rlGo fs 0 [] [])) (fun _ _ i _ => fs.length - (intOf i).toNat)
    case atStart => exact ⟨0, [], [], Nat.zero_le _, rfl, by simp, by simp, Own.nil _ _ _, Own.nil _ _ _, Below.refl _ _, rfl⟩
    case round =>
      obtain ⟨k, lines, cur, hk, rfl, hll, hcl, holin, hocur, hbel, hr⟩ := hrel
      obtain ⟨lo, lcap, rfl⟩ := holin.shape
      obtain ⟨co, ccap, rfl⟩ := hocur.shape
      have hz := hbel.size
      by_cases hlt : k < fs.length
      · obtain ⟨b1, o1, rfl, hb1, hc1⟩ := (h1.below (hbel.mono hB)).frg k hlt
        obtain ⟨d1, d2, d3, d4⟩ := hc1 k hlt
        clear hc1
        have i1 : (k : Int) < (fs.length : Int) := by omega
        rw [flen_at fs k hlt] at hcl
        have hsh := shown_len fs[k].kind fs[k].style fs[k].text
        have hcv : ∀ o, (convert 66 9 (.slice co cur.length ccap)).run Yaac.prog (wr.alloc o) = .ok (.string (mk cur)) (wr.alloc o) := fun o => conv_own (hocur.alloc o)
        by_cases hnb : k ≠ 0 ∧ (fs[k].brk = 2 ∨ fs[k].brk = 1)
        · obtain ⟨hk0, hbr⟩ := hnb
          have i0 : (0 : Int) < (k : Int) := by omega
          by_cases hb2 : fs[k].brk = 2
          · have hbb : (fs[k].brk == 2) = true := beq_iff_eq.2 hb2
            have HE : Hid (rlGo (fs.drop (k + 1)) (k + 1) (lines ++ [cur]) ([] ++ shown fs[k].kind fs[k].style fs[k].text) = rlGo fs 0 [] []) := by rw [← hr.out, rlGo_brk2 fs k lines cur hlt hk0 hb2]; exact rfl
            clear hr hb2 hbr
            go_wp2_with (at_builtin; refine app1 tStr (.tmp 25) (.tmp 28) w.heap.size _ lines (holin.alloc _) cur (wr.heap.size + 1) (by simp) rfl rfl rfl rfl rfl (by omega) (by simp; omega) ?_)
            intro g1 cap1 w1 ho1 hgr1 hat1 hbb1
            have x1 : w1.cell? ⟨wr.heap.size, 1, none⟩ = some (.int .i64 fs[k].kind) := cell_after holin hgr1 (by simp)
            have x2 : w1.cell? ⟨wr.heap.size, 2, none⟩ = some (.int .i64 fs[k].style) := cell_after holin hgr1 (by simp)
            have x3 : w1.cell? ⟨wr.heap.size, 3, none⟩ = some (.string (mk fs[k].text)) := cell_after holin hgr1 (by simp)
            have z1 := hbb1.size
            simp at z1
            go_wp2_with (first
              | (go_at_call 70; refine (shown_any fs[k].kind fs[k].style fs[k].text _ (by omega)).mono ?_; rintro e w3 ⟨rfl, hb3⟩; have z3 := hb3.size; have hc3 := Own.below (Own.nil w1 w.heap.size tByte) hb3)
              | (at_builtin; refine appS (.tmp 36) (.tmp 43) w.heap.size _ ([] : List UInt8) hc3 (shown fs[k].kind fs[k].style fs[k].text) rfl rfl rfl rfl (by rw [hsh]; simp; omega) (by first | omega | (simp at z3; omega)) ?_))
            intro ao4 cap4 w4 ho4 hgr4 hb4
            have hl3 := Own.below ho1 hb3
            have hl4 := hl3.apart hc3 hgr4 (by simp [tByte, tStr])
            go_wp2
            go_roundw
            case rel => exact ⟨k + 1, lines ++ [cur], ([] : List UInt8) ++ shown fs[k].kind fs[k].style fs[k].text, by omega, by go_num, by first | omega | (simp; omega), by simp [hsh]; omega, hl4, by simpa using ho4, (((hbel.trans ((Below.refl _ _).alloc hz _)).trans hbb1).trans (hb3.mono (by first | omega | (simp; omega)))).trans hb4, HE⟩
            case measure => simp [intOf]; omega
          · have hb1' : fs[k].brk = 1 := by omega
            have hbb : (fs[k].brk == 2) = false := beq_eq_false_iff_ne.2 hb2
            have hbb1 : (fs[k].brk == 1) = true := beq_iff_eq.2 hb1'
            have HE : Hid (rlGo (fs.drop (k + 1)) (k + 1) lines (cur ++ [32] ++ shown fs[k].kind fs[k].style fs[k].text) = rlGo fs 0 [] []) := by rw [← hr.out, rlGo_brk1 fs k lines cur hlt hk0 hb1']; exact rfl
            clear hr hb1' hbr
            go_wp2_with (at_builtin; refine app1 tByte (.tmp 33) (.tmp 34) w.heap.size _ cur (hocur.alloc _) 32 (wr.heap.size + 1) (by simp) rfl rfl rfl rfl rfl (by omega) (by simp; omega) ?_)
            intro g1 cap1 w1 ho1 hgr1 hat1 hbb1'
            have x1 : w1.cell? ⟨wr.heap.size, 1, none⟩ = some (.int .i64 fs[k].kind) := cell_after hocur hgr1 (by simp)
            have x2 : w1.cell? ⟨wr.heap.size, 2, none⟩ = some (.int .i64 fs[k].style) := cell_after hocur hgr1 (by simp)
            have x3 : w1.cell? ⟨wr.heap.size, 3, none⟩ = some (.string (mk fs[k].text)) := cell_after hocur hgr1 (by simp)
            have hl1 := (holin.alloc _).apart (hocur.alloc _) hgr1 (by simp [tByte, tStr])
            have z1 := hbb1'.size
            simp at z1
            go_wp2_with (first
              | (go_at_call 70; refine (shown_any fs[k].kind fs[k].style fs[k].text _ (by omega)).mono ?_; rintro e w3 ⟨rfl, hb3⟩; have z3 := hb3.size; have hc3 := Own.below ho1 hb3)
              | (at_builtin; refine appS (.tmp 36) (.tmp 43) w.heap.size _ (cur ++ [32]) hc3 (shown fs[k].kind fs[k].style fs[k].text) rfl rfl rfl rfl (by rw [hsh]; simp; omega) (by first | omega | (simp at z3; omega)) ?_))
            intro ao4 cap4 w4 ho4 hgr4 hb4
            have hl3 := Own.below hl1 hb3
            have hl4 := hl3.apart hc3 hgr4 (by simp [tByte, tStr])
            go_wp2
            go_roundw
            case rel => exact ⟨k + 1, lines, (cur ++ [32]) ++ shown fs[k].kind fs[k].style fs[k].text, by omega, by go_num, by first | omega | (simp; omega), by simp [hsh]; omega, hl4, by simpa using ho4, (((hbel.trans ((Below.refl _ _).alloc hz _)).trans hbb1').trans (hb3.mono (by first | omega | (simp; omega)))).trans hb4, HE⟩
            case measure => simp [intOf]; omega
        · have HE : Hid (rlGo (fs.drop (k + 1)) (k + 1) lines (cur ++ shown fs[k].kind fs[k].style fs[k].text) = rlGo fs 0 [] []) := by rw [← hr.out, rlGo_none fs k lines cur hlt hnb]; exact rfl
          clear hr
          by_cases hk0 : k = 0
          · have i0 : ¬ (0 : Int) < (k : Int) := by omega
            clear hk0 hnb
            go_wp2_with (first
              | (go_at_call 70; refine (shown_any fs[k].kind fs[k].style fs[k].text _ (by omega)).mono ?_; rintro e w3 ⟨rfl, hb3⟩; have z3 := hb3.size; have hc3 := Own.below (hocur.alloc _) hb3)
              | (at_builtin; refine appS (.tmp 36) (.tmp 43) w.heap.size _ cur hc3 (shown fs[k].kind fs[k].style fs[k].text) rfl rfl rfl rfl (by rw [hsh]; omega) (by first | omega | (simp at z3; omega)) ?_))
            intro ao4 cap4 w4 ho4 hgr4 hb4
            have hl3 := Own.below (holin.alloc _) hb3
            have hl4 := hl3.apart hc3 hgr4 (by simp [tByte, tStr])
            go_wp2
            go_roundw
            case rel => exact ⟨k + 1, lines, cur ++ shown fs[k].kind fs[k].style fs[k].text, by omega, by go_num, by first | omega | (simp; omega), by simp [hsh]; omega, hl4, ho4, ((hbel.trans ((Below.refl _ _).alloc hz _)).trans (hb3.mono (by first | omega | (simp; omega)))).trans hb4, HE⟩
            case measure => simp [intOf]; omega
          · have i0 : (0 : Int) < (k : Int) := by omega
            have hbb : (fs[k].brk == 2) = false := beq_eq_false_iff_ne.2 (fun c => hnb ⟨hk0, .inl c⟩)
            have hbb1 : (fs[k].brk == 1) = false := beq_eq_false_iff_ne.2 (fun c => hnb ⟨hk0, .inr c⟩)
            clear hk0 hnb
            go_wp2_with (first
              | (go_at_call 70; refine (shown_any fs[k].kind fs[k].style fs[k].text _ (by omega)).mono ?_; rintro e w3 ⟨rfl, hb3⟩; have z3 := hb3.size; have hc3 := Own.below (hocur.alloc _) hb3)
              | (at_builtin; refine appS (.tmp 36) (.tmp 43) w.heap.size _ cur hc3 (shown fs[k].kind fs[k].style fs[k].text) rfl rfl rfl rfl (by rw [hsh]; omega) (by first | omega | (simp at z3; omega)) ?_))
            intro ao4 cap4 w4 ho4 hgr4 hb4
            have hl3 := Own.below (holin.alloc _) hb3
            have hl4 := hl3.apart hc3 hgr4 (by simp [tByte, tStr])
            go_wp2
            go_roundw
            case rel => exact ⟨k + 1, lines, cur ++ shown fs[k].kind fs[k].style fs[k].text, by omega, by go_num, by first | omega | (simp; omega), by simp [hsh]; omega, hl4, ho4, ((hbel.trans ((Below.refl _ _).alloc hz _)).trans (hb3.mono (by first | omega | (simp; omega)))).trans hb4, HE⟩
            case measure => simp [intOf]; omega
      · have hcv := conv_own hocur
        go_wp2_with (at_builtin; refine app1 tStr (.tmp 45) (.tmp 48) w.heap.size _ lines holin cur wr.heap.size rfl rfl rfl rfl rfl rfl (by omega) (by omega) ?_)
        intro g1 cap1 w1 ho1 hgr1 hat1 hbb1
        go_wp2
        go_ret
        exact ⟨_, rfl, by rw [HRL.out, ← hr.out, List.drop_of_length_le (by omega), rlGo]; exact ho1, hbel.trans hbb1⟩

end Go.Proofs.Ybuaaw
