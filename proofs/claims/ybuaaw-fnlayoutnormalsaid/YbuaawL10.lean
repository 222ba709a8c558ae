import Derived.Test.YbuaawW3
import Derived.Test.YbuaawW8
import Derived.Test.YbuaawW11
import Derived.Test.YbuaawW24
import Derived.Test.YbuaawW26
import Derived.Deep.DeepCutAuto
namespace Go.Proofs.Ybuaaw
open Go.RowKit
attribute [local go_sem] mk_size mk_toList mk_getElem mk_extract take_len_drop mk_append_lit

theorem i64_le {n : Int} (h : (Lit.int .i64 n).wf = true) : n ≤ 9223372036854775807 := by
  have hmax : IntKind.i64.max = 9223372036854775807 := rfl
  simp only [Lit.wf, Bool.and_eq_true, decide_eq_true_eq] at h
  omega
theorem rlines_bound (fs : List Frg) : (rlines fs).length ≤ 1 + fs.length := by
  cases fs with
  | nil => simp [rlines]
  | cons f fs => rw [rlines_len]; have := cnt2_le fs; simp; omega

set_option maxRecDepth 100000 in
set_option maxHeartbeats 8000000 in
theorem fnLayoutWidth_walk (ps : List Inl) (v : Value) (n : Int) (w : World) (h1 : Rdd w w.heap.size tInl v ps) (ht : ∀ p ∈ ps, p.text.length ≤ 140737488355328) (hwf : (Lit.int .i64 n).wf = true) :
    Calls Yaac.prog 10 #[v, .int .i64 n] w fun e w' => e = .returned (.bool true) ∧ Below w.heap.size w w' := by
  have hn := i64_le hwf
  have hl := h1.len_le
  unfold maxLen at hl
  obtain ⟨a1, c1, rfl, _, _⟩ := h1.shape
  by_cases hbig : 1048576 < ps.length
  · have hne : (1048576 : Int) < (ps.length : Int) := by omega
    go_enter Yaac.func10, Yaac.ntmps10
    go_wp2
    go_ret
    exact ⟨rfl, Below.refl _ _⟩
  · have hne : ¬ (1048576 : Int) < (ps.length : Int) := by omega
    go_enter Yaac.func10, Yaac.ntmps10
    go_wp2
    go_loop [5, 6] (fun sz i => ∃ k : Nat, k ≤ ps.length ∧ i = .int .i64 k ∧ sz = .int .i64 ((ps.length + tlen (ps.take k) : Nat) : Int) ∧ ps.length + tlen (ps.take k) ≤ 1048576) (fun _ i => ps.length - (intOf i).toNat)
    case atStart => exact ⟨0, Nat.zero_le _, rfl, by simp [tlen], by simp [tlen]; omega⟩
    case round =>
      obtain ⟨k, hk, rfl, rfl, hsz⟩ := hrel
      by_cases hlt : k < ps.length
      · obtain ⟨b1, o1, rfl, hb1, hc1⟩ := h1.inl k hlt
        obtain ⟨d1, d2, d3⟩ := hc1 k hlt
        clear hc1
        have i1 : (k : Int) < (ps.length : Int) := by omega
        have hlen := ht ps[k] (List.getElem_mem hlt)
        have htk := tlen_take1 ps k hlt
        by_cases hov : 1048576 < ps.length + tlen (ps.take k) + ps[k].text.length
        · have hov' : (1048576 : Int) < ((ps.length + tlen (ps.take k) : Nat) : Int) + (ps[k].text.length : Int) := by omega
          clear htk
          go_wp2
          go_ret
          exact ⟨rfl, Below.refl _ _⟩
        · have hov' : ¬ (1048576 : Int) < ((ps.length + tlen (ps.take k) : Nat) : Int) + (ps[k].text.length : Int) := by omega
          have HTK : Hid (tlen (ps.take (k + 1)) = tlen (ps.take k) + ps[k].text.length) := htk
          clear htk
          go_wp2
          go_round
          case rel => exact ⟨k + 1, by omega, by go_num, by rw [HTK.out]; go_num, by rw [HTK.out]; omega⟩
          case measure => simp [intOf]; omega
      · rw [List.take_of_length_le (by omega)] at hsz ⊢
        have hsz' : ¬ (1048576 : Int) < ((ps.length + tlen ps : Nat) : Int) := by omega
        have htx : ∀ p ∈ ps, p.text.length ≤ 4294967296 := fun p hp => by have := tlen_le ps p hp; omega
        have hW0 := wid_pos n
        have hWm : wid n ≤ 9223372036854775807 := by unfold wid; split <;> omega
        have HGD : Hid (∀ x ∈ layout (wid n) ps, Gd x) := layout_gd _ hW0 ps
        have HHD : Hid (∀ h : 0 < (layout (wid n) ps).length, (layout (wid n) ps)[0].brk = 0) := layout_head _ hW0 ps
        have hft : (ftx (layout (wid n) ps) == nst ps) = true := by rw [ftx_layout _ hW0]; simp
        have HWI : Hid (∀ l ∈ rlines (layout (wid n) ps), l.length ≤ wid n) := layout_wid _ hW0 ps
        have hfl := flen_layout _ hW0 ps
        have hll := layout_len _ hW0 ps
        have htf : ∀ p ∈ layout (wid n) ps, p.text.length ≤ 4294967296 := fun p hp => by have := flen_le _ p hp; omega
        clear ht
        go_wp2_with fail
        refine (layoutS_any ps n _ w.heap.size _ (Nat.le_refl _) h1 (by omega) (by omega) hn).mono ?_
        rintro e w1 ⟨v1, rfl, ho1, hb1⟩
        have z1 := hb1.size
        go_wp2_with fail
        refine (cpInlines_any ps _ w.heap.size _ z1 (h1.below hb1) (by omega) htx).mono ?_
        rintro e w2 ⟨v2, rfl, ho2, hb2⟩
        have z2 := hb2.size
        go_wp2_with fail
        refine (layout_any ps n _ w2.heap.size _ (Nat.le_refl _) ho2.rdd (by omega) (by omega) hn).mono ?_
        rintro e w3 ⟨v3, rfl, ho3, hb3⟩
        have z3 := hb3.size
        have hb13 : Below w.heap.size w w3 := (hb1.trans (hb2.mono z1)).trans (hb3.mono (by omega))
        have ho13 := (ho1.below hb2).below hb3
        obtain ⟨ao3, cap3, rfl⟩ := ho3.shape
        have hbx := hb13.size
        clear ho1 ho2 hb1 hb2 hb3
        generalize hWn : wid n = W at *
        have HW : Hid (wid n = W) := hWn
        clear hWn
        generalize layout W ps = fs at *
        go_wp2
        go_loop [9] (fun i => ∃ k : Nat, k ≤ fs.length ∧ i = .int .i64 k) (fun i => fs.length - (intOf i).toNat)
        case atStart => exact ⟨0, Nat.zero_le _, rfl⟩
        case round =>
          obtain ⟨k2, hk2, rfl⟩ := hrel
          by_cases hlt2 : k2 < fs.length
          · obtain ⟨b4, o4, rfl, hb4, hc4⟩ := ho3.rdd.frg k2 hlt2
            have hd := hc4 k2 hlt2
            clear hc4
            have i2 : (k2 : Int) < (fs.length : Int) := by omega
            have hg := HGD.out fs[k2] (List.getElem_mem hlt2)
            generalize fs[k2] = f at *
            obtain ⟨br, kd, sty, txt⟩ := f
            obtain ⟨d1, d2, d3, d4⟩ := hd
            obtain ⟨g1, g2, g3⟩ := hg
            simp only at d1 d2 d3 d4 g1 g2 g3
            have t1 : (txt == ([] : List UInt8)) = false := beq_eq_false_iff_ne.2 g1
            have t2 : ¬ br < 0 := by omega
            have t3 : ¬ 2 < br := by omega
            go_wp2
            go_round
            case rel => exact ⟨k2 + 1, by omega, by go_num⟩
            case measure => simp [intOf]; omega
          · have i2 : ¬ (k2 : Int) < (fs.length : Int) := by omega
            go_upto_region 20 with fail
            go_cut [81] (fun hv wc => hv = .bool false ∧ wc = w3)
            case first =>
              by_cases hpos : 0 < fs.length
              · obtain ⟨b4, o4, rfl, hb4, hc4⟩ := ho3.rdd.frg 0 hpos
                obtain ⟨d1, -⟩ := hc4 0 hpos
                have ip : (0 : Int) < (fs.length : Int) := by omega
                have hb0 := HHD.out hpos
                generalize fs[0].brk = br at *
                subst hb0
                simp only [Nat.zero_mul, Nat.add_zero] at d1
                go_wp2
                go_meet
                case rel => exact ⟨rfl, rfl⟩
              · have ip : ¬ (0 : Int) < (fs.length : Int) := by omega
                go_wp2
                go_meet
                case rel => exact ⟨rfl, rfl⟩
            case rest =>
              obtain ⟨rfl, hwc⟩ := hcut
              replace hwc := hwc.symm
              subst hwc
              go_wp2_with fail
              refine (fragText_any fs _ w3.heap.size _ (Nat.le_refl _) ho3.rdd (by omega) (by omega)).mono ?_
              rintro e w4 ⟨rfl, hb4⟩
              have z4 := hb4.size
              go_wp2_with fail
              refine (nonSpaceText_any ps _ w.heap.size _ (by omega) ((h1.below hb13).below (hb4.mono (by omega))) (by omega) (by omega)).mono ?_
              rintro e w5 ⟨rfl, hb5⟩
              have z5 := hb5.size
              go_wp2_with fail
              refine (widS_any n _).mono ?_
              rintro e w' ⟨rfl, hw⟩
              replace hw := hw.symm
              subst hw
              rw [HW.out]
              have hb35 : Below w3.heap.size w3 w5 := hb4.trans (hb5.mono z4)
              have ho5 := ho3.below hb35
              go_wp2_with fail
              refine (cpFrags_any fs _ w5.heap.size _ (Nat.le_refl _) ho5.rdd (by omega) htf).mono ?_
              rintro e w6 ⟨v6, rfl, ho6, hb6⟩
              have z6 := hb6.size
              go_wp2_with fail
              refine (renderLines_any fs _ w6.heap.size _ (Nat.le_refl _) ho6.rdd (by omega) (by omega)).mono ?_
              rintro e w7 ⟨v7, rfl, ho7, hb7⟩
              have z7 := hb7.size
              obtain ⟨ao7, cap7, rfl⟩ := ho7.shape
              have hb57 : Below w5.heap.size w5 w7 := hb6.trans (hb7.mono z6)
              have hrl : (rlines fs).length ≤ 4294967296 := by have := rlines_bound fs; omega
              have hr7 := ho7.rdd
              generalize rlines fs = ls at *
              go_wp2
              go_loop [12] (fun i => ∃ k : Nat, k ≤ ls.length ∧ i = .int .i64 k) (fun i => ls.length - (intOf i).toNat)
              case atStart => exact ⟨0, Nat.zero_le _, rfl⟩
              case round =>
                obtain ⟨k3, hk3, rfl⟩ := hrel
                by_cases hlt3 : k3 < ls.length
                · obtain ⟨b8, o8, rfl, hb8, hc8⟩ := hr7.str k3 hlt3
                  have d8 := hc8 k3 hlt3
                  clear hc8
                  have i3 : (k3 : Int) < (ls.length : Int) := by omega
                  have hwl := HWI.out ls[k3] (List.getElem_mem hlt3)
                  generalize ls[k3] = x at *
                  have hwb : ¬ (W : Int) < (x.length : Int) := by omega
                  go_wp2
                  go_round
                  case rel => exact ⟨k3 + 1, by omega, by go_num⟩
                  case measure => simp [intOf]; omega
                · have i3 : ¬ (k3 : Int) < (ls.length : Int) := by omega
                  have ho57 := ho5.below hb57
                  have ho17 := (ho13.below hb35).below hb57
                  go_wp2_with fail
                  refine (sameFrags_true fs _ _ w7.heap.size _ (Nat.le_refl _) ho57.rdd ho17.rdd).mono ?_
                  rintro e w8 ⟨rfl, hb8⟩
                  go_wp2
                  go_ret
                  exact ⟨rfl, ((hb13.trans (hb35.mono (by omega))).trans (hb57.mono (by omega))).trans (hb8.mono (by omega))⟩
end Go.Proofs.Ybuaaw
