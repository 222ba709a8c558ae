import Derived.Test.YbuaawL10
import Derived.Test.YbuaawW6
import Derived.Test.YbuaawW27
namespace Go.Proofs.Ybuaaw
open Go.RowKit
attribute [local go_sem] mk_size mk_toList mk_getElem mk_extract take_len_drop mk_append_lit

theorem wid_ge (n : Nat) : n ≤ wid (n : Int) := by unfold wid; split <;> omega

set_option maxRecDepth 100000 in
set_option maxHeartbeats 8000000 in
theorem fnLayoutNormal_walk (ps : List Inl) (v : Value) (n : Int) (w : World) (h1 : Rdd w w.heap.size tInl v ps) (ht : ∀ p ∈ ps, p.text.length ≤ 140737488355328) (hwf : (Lit.int .i64 n).wf = true) :
    Calls Yaac.prog 11 #[v, .int .i64 n] w fun e w' => e = .returned (.bool true) ∧ Below w.heap.size w w' := by
  have hn := i64_le hwf
  have hl := h1.len_le
  unfold maxLen at hl
  obtain ⟨a1, c1, rfl, _, _⟩ := h1.shape
  by_cases hbig : 1048576 < ps.length
  · have hne : (1048576 : Int) < (ps.length : Int) := by omega
    go_enter Yaac.func11, Yaac.ntmps11
    go_wp2
    go_ret
    exact ⟨rfl, Below.refl _ _⟩
  · have hne : ¬ (1048576 : Int) < (ps.length : Int) := by omega
    go_enter Yaac.func11, Yaac.ntmps11
    go_wp2
    go_loop [5, 6] (fun sz i => ∃ k : Nat, k ≤ ps.length ∧ i = .int .i64 k ∧ sz = .int .i64 ((ps.length + tlen (ps.take k) : Nat) : Int) ∧ ps.length + tlen (ps.take k) ≤ 1048576) (fun _ i => ps.length - (intOf i).toNat)
    case atStart => exact ⟨0, Nat.zero_le _, rfl, by simp [tlen], by simp [tlen]; omega⟩
    case round =>
      obtain ⟨k, hk, rfl, rfl, hsz⟩ := hrel
      by_cases hlt : k < ps.length
      · obtain ⟨b1, o1, rfl, hb1, hc1⟩ := h1.inl k hlt
        obtain ⟨d1, d2, d3⟩ := hc1 k hlt
        clear hc1
        have i1 : (k : Int) < (ps.length : Int) := by omega
        have hlen := ht ps[k] (List.getElem_mem hlt)
        have htk := tlen_take1 ps k hlt
        by_cases hov : 1048576 < ps.length + tlen (ps.take k) + ps[k].text.length
        · have hov' : (1048576 : Int) < ((ps.length + tlen (ps.take k) : Nat) : Int) + (ps[k].text.length : Int) := by omega
          clear htk
          go_wp2
          go_ret
          exact ⟨rfl, Below.refl _ _⟩
        · have hov' : ¬ (1048576 : Int) < ((ps.length + tlen (ps.take k) : Nat) : Int) + (ps[k].text.length : Int) := by omega
          have HTK : Hid (tlen (ps.take (k + 1)) = tlen (ps.take k) + ps[k].text.length) := htk
          clear htk
          go_wp2
          go_round
          case rel => exact ⟨k + 1, by omega, by go_num, by rw [HTK.out]; go_num, by rw [HTK.out]; omega⟩
          case measure => simp [intOf]; omega
      · rw [List.take_of_length_le (by omega)] at hsz ⊢
        have hsz' : ¬ (1048576 : Int) < ((ps.length + tlen ps : Nat) : Int) := by omega
        have htx : ∀ p ∈ ps, p.text.length ≤ 4294967296 := fun p hp => by have := tlen_le ps p hp; omega
        have hW0 := wid_pos n
        have hWm : wid n ≤ 9223372036854775807 := by unfold wid; split <;> omega
        have hfl := flen_layout _ hW0 ps
        have hll := layout_len _ hW0 ps
        have hnl := norm_len ps
        have hnt := norm_tlen ps
        have hfl2 := flen_layout _ hW0 (norm ps)
        have hll2 := layout_len _ hW0 (norm ps)
        have HNL : Hid (rlines (layout (wid n) (norm ps)) = rlines (layout (wid n) ps)) := layout_norm _ hW0 ps
        have hT0 := wid_pos ((ps.length + tlen ps : Nat) : Int)
        have hfl3 := flen_layout _ hT0 ps
        have hll3 := layout_len _ hT0 ps
        have HT1 : Hid (rlines (layout (wid ((ps.length + tlen ps : Nat) : Int)) ps) = if words ps = [] then [] else [join [32] ((words ps).map sh)]) := layout_one _ hT0 ps (wid_ge _)
        have HWL : Hid (ps.length + tlen ps ≤ wid n → rlines (layout (wid n) ps) = if words ps = [] then [] else [join [32] ((words ps).map sh)]) := fun h => layout_one _ hW0 ps h
        clear ht
        go_wp2_with fail
        refine (cpInlines_any ps _ w.heap.size _ (Nat.le_refl _) h1 (by omega) htx).mono ?_
        rintro e w1 ⟨v1, rfl, ho1, hb1⟩
        have z1 := hb1.size
        go_wp2_with fail
        refine (layout_any ps n _ w1.heap.size _ (Nat.le_refl _) ho1.rdd (by omega) (by omega) hn).mono ?_
        rintro e w2 ⟨v2, rfl, ho2, hb2⟩
        have z2 := hb2.size
        go_wp2_with fail
        refine (renderLines_any _ _ w2.heap.size _ (Nat.le_refl _) ho2.rdd (by omega) (by omega)).mono ?_
        rintro e w3 ⟨v3, rfl, ho3, hb3⟩
        have z3 := hb3.size
        have hbA : Below w.heap.size w w3 := (hb1.trans (hb2.mono z1)).trans (hb3.mono (by omega))
        have zA := hbA.size
        clear ho1 ho2 hb1 hb2 hb3
        go_wp2_with fail
        refine (layoutS_any ps n _ w.heap.size _ zA (h1.below hbA) (by omega) (by omega) hn).mono ?_
        rintro e w4 ⟨v4, rfl, ho4, hb4⟩
        have z4 := hb4.size
        go_wp2_with fail
        refine (renderLinesS_any _ _ w4.heap.size _ (Nat.le_refl _) ho4.rdd (by omega) (by omega)).mono ?_
        rintro e w5 ⟨v5, rfl, ho5, hb5⟩
        have z5 := hb5.size
        have hb35 : Below w3.heap.size w3 w5 := hb4.trans (hb5.mono z4)
        have ho35 := ho3.below hb35
        go_wp2_with fail
        refine (sameStrs_true _ _ _ w5.heap.size _ (Nat.le_refl _) ho35.rdd ho5.rdd).mono ?_
        rintro e w6 ⟨rfl, hb6⟩
        have z6 := hb6.size
        have ho36 := ho35.below hb6
        have hbB : Below w.heap.size w w6 := (hbA.trans (hb35.mono zA)).trans (hb6.mono (by omega))
        have zB := hbB.size
        clear ho4 ho5 hb4 hb5 hb6 ho35 hb35 ho3
        go_wp2_with fail
        refine (cpInlines_any ps _ w.heap.size _ zB (h1.below hbB) (by omega) htx).mono ?_
        rintro e w7 ⟨v7, rfl, ho7, hb7⟩
        have z7 := hb7.size
        go_wp2_with fail
        refine (normalize_any ps _ w7.heap.size _ (Nat.le_refl _) ho7.rdd (by omega) (by omega)).mono ?_
        rintro e w8 ⟨v8, rfl, ho8, hb8⟩
        have z8 := hb8.size
        go_wp2_with fail
        refine (layout_any (norm ps) n _ w8.heap.size _ (Nat.le_refl _) ho8.rdd (by omega) (by omega) hn).mono ?_
        rintro e w9 ⟨v9, rfl, ho9, hb9⟩
        have z9 := hb9.size
        go_wp2_with fail
        refine (renderLines_any _ _ w9.heap.size _ (Nat.le_refl _) ho9.rdd (by omega) (by omega)).mono ?_
        rintro e w10 ⟨v10, rfl, ho10, hb10⟩
        have z10 := hb10.size
        have hb610 : Below w6.heap.size w6 w10 := ((hb7.trans (hb8.mono z7)).trans (hb9.mono (by omega))).trans (hb10.mono (by omega))
        have ho310 := ho36.below hb610
        rw [HNL.out] at ho10
        go_wp2_with fail
        refine (sameStrs_true _ _ _ w10.heap.size _ (Nat.le_refl _) ho310.rdd ho10.rdd).mono ?_
        rintro e w11 ⟨rfl, hb11⟩
        have z11 := hb11.size
        have ho311 := ho310.below hb11
        have hbC : Below w.heap.size w w11 := (hbB.trans (hb610.mono zB)).trans (hb11.mono (by omega))
        have zC := hbC.size
        have hr11 := h1.below hbC
        clear ho7 ho8 ho9 ho10 hb7 hb8 hb9 hb10 hb610 ho310 hb11 ho36
        go_wp2
        go_loop [9, 10] (fun sz i => ∃ k : Nat, k ≤ ps.length ∧ i = .int .i64 k ∧ sz = .int .i64 ((ps.length + tlen (ps.take k) : Nat) : Int) ∧ ps.length + tlen (ps.take k) ≤ 1048576) (fun _ i => ps.length - (intOf i).toNat)
        case atStart => exact ⟨0, Nat.zero_le _, rfl, by simp [tlen], by simp [tlen]; omega⟩
        case round =>
          obtain ⟨k, hk, rfl, rfl, hsz2⟩ := hrel
          by_cases hlt : k < ps.length
          · obtain ⟨b1, o1, rfl, hb1, hc1⟩ := hr11.inl k hlt
            obtain ⟨d1, d2, d3⟩ := hc1 k hlt
            clear hc1
            have i1 : (k : Int) < (ps.length : Int) := by omega
            have htk := tlen_take1 ps k hlt
            have hle := tlen_take_le ps (k + 1)
            rw [htk] at hle
            have HTK : Hid (tlen (ps.take (k + 1)) = tlen (ps.take k) + ps[k].text.length) := htk
            clear htk
            go_wp2
            go_round
            case rel => exact ⟨k + 1, by omega, by go_num, by rw [HTK.out]; go_num, by rw [HTK.out]; omega⟩
            case measure => simp [intOf]; omega
          · rw [List.take_of_length_le (by omega)] at hsz2 ⊢
            have i1 : ¬ (k : Int) < (ps.length : Int) := by omega
            have hTn : ((ps.length + tlen ps : Nat) : Int) ≤ 9223372036854775807 := by omega
            generalize hT : ps.length + tlen ps = T at *
            have HT : Hid (ps.length + tlen ps = T) := hT
            clear hT
            go_wp2_with fail
            refine (oneLine_any ps _ w.heap.size _ zC hr11 (by omega) (by omega)).mono ?_
            rintro e w12 ⟨rfl, hb12⟩
            have z12 := hb12.size
            go_wp2_with fail
            refine (words_any ps _ w.heap.size _ (by omega) (hr11.below (hb12.mono zC)) (by omega)).mono ?_
            rintro e w13 ⟨v13, rfl, rs, ho13, hrows, hb13⟩
            have z13 := hb13.size
            obtain ⟨ro, rcap, rfl⟩ := ho13.shape
            have HRL : Hid (rs.length = (words ps).length) := hrows.1
            have HNW : Hid ((if words ps = [] then [] else [join [32] ((words ps).map sh)]) = if rs.length = 0 then [] else [join [32] ((words ps).map sh)]) := by
              unfold Hid
              rw [HRL.out]
              by_cases h : words ps = []
              · rw [if_pos h, if_pos (by rw [h]; rfl)]
              · rw [if_neg h, if_neg (fun e => h (List.eq_nil_of_length_eq_zero e))]
            have hb1113 : Below w11.heap.size w11 w13 := hb12.trans (hb13.mono z12)
            have ho313 := ho311.below hb1113
            have hbD : Below w.heap.size w w13 := hbC.trans (hb1113.mono zC)
            have zD := hbD.size
            clear hb12 hb13 hb1113 ho311
            generalize join [32] ((words ps).map sh) = want at *
            go_wp2_with fail
            refine (cpInlines_any ps _ w.heap.size _ zD (h1.below hbD) (by omega) htx).mono ?_
            rintro e w14 ⟨v14, rfl, ho14, hb14⟩
            have z14 := hb14.size
            go_wp2_with fail
            refine (layout_any ps (T : Int) _ w14.heap.size _ (Nat.le_refl _) ho14.rdd (by omega) (by omega) hTn).mono ?_
            rintro e w15 ⟨v15, rfl, ho15, hb15⟩
            have z15 := hb15.size
            go_wp2_with fail
            refine (renderLines_any _ _ w15.heap.size _ (Nat.le_refl _) ho15.rdd (by omega) (by omega)).mono ?_
            rintro e w16 ⟨v16, rfl, ho16, hb16⟩
            have z16 := hb16.size
            have hb1316 : Below w13.heap.size w13 w16 := (hb14.trans (hb15.mono z14)).trans (hb16.mono (by omega))
            have ho316 := ho313.below hb1316
            have hbE : Below w.heap.size w w16 := hbD.trans (hb1316.mono zD)
            go_wp2_with fail
            refine (lineIs_true _ want rs.length _ _ _ ho16.rdd (by rw [HT1.out]; exact HNW.out)).mono ?_
            rintro e w' ⟨rfl, hw⟩
            replace hw := hw.symm
            subst hw
            go_wp2_with fail
            refine (widS_any n _).mono ?_
            rintro e w' ⟨rfl, hw⟩
            replace hw := hw.symm
            subst hw
            by_cases hge : T ≤ wid n
            · have hgb : (T : Int) ≤ (wid n : Int) := by omega
              have hfin := HWL.out hge
              go_wp2_with fail
              refine (lineIs_true _ want rs.length _ _ _ ho316.rdd (by rw [hfin]; exact HNW.out)).mono ?_
              rintro e w' ⟨rfl, hw⟩
              replace hw := hw.symm
              subst hw
              go_wp2
              go_ret
              exact ⟨rfl, hbE⟩
            · have hgb : ¬ (T : Int) ≤ (wid n : Int) := by omega
              go_wp2
              go_ret
              exact ⟨rfl, hbE⟩
end Go.Proofs.Ybuaaw
