import Derived.Test.YbuaawW3
import Derived.Test.YbuaawW5
import Derived.Test.YbuaawW6
import Derived.Test.YbuaawW7
import Derived.Test.YbuaawW8
import Derived.Test.YbuaawW9
namespace Go.Proofs.Ybuaaw
open Go.RowKit
attribute [local go_sem] mk_size mk_toList mk_getElem mk_extract take_len_drop mk_append_lit

theorem tlen_take (ps : List Inl) (k : Nat) (hk : k < ps.length) : tlen (ps.take (k + 1)) = tlen (ps.take k) + ps[k].text.length := by
  rw [List.take_succ_eq_append_getElem hk, tlen_append]; simp [tlen]

set_option maxRecDepth 100000 in
set_option maxHeartbeats 4000000 in
theorem fnNormalForm_walk (ps : List Inl) (v : Value) (w : World) (h1 : Rdd w w.heap.size tInl v ps) (ht : ∀ p ∈ ps, p.text.length ≤ 140737488355328) :
    Calls Yaac.prog 8 #[v] w fun e w' => e = .returned (.bool true) ∧ Below w.heap.size w w' := by
  have hl := h1.len_le
  unfold maxLen at hl
  obtain ⟨a1, c1, rfl, _, _⟩ := h1.shape
  by_cases hbig : 1048576 < ps.length
  · have hne : (1048576 : Int) < (ps.length : Int) := by omega
    go_enter Yaac.func8, Yaac.ntmps8
    go_wp2
    go_ret
    exact ⟨rfl, Below.refl _ _⟩
  · have hne : ¬ (1048576 : Int) < (ps.length : Int) := by omega
    go_enter Yaac.func8, Yaac.ntmps8
    go_wp2
    go_loop [3, 4] (fun sz i => ∃ k : Nat, k ≤ ps.length ∧ i = .int .i64 k ∧ sz = .int .i64 ((ps.length + tlen (ps.take k) : Nat) : Int) ∧ ps.length + tlen (ps.take k) ≤ 1048576) (fun _ i => ps.length - (intOf i).toNat)
    case atStart => exact ⟨0, Nat.zero_le _, rfl, by simp [tlen], by simp [tlen]; omega⟩
    case round =>
      obtain ⟨k, hk, rfl, rfl, hsz⟩ := hrel
      by_cases hlt : k < ps.length
      · obtain ⟨b1, o1, rfl, hb1, hc1⟩ := h1.inl k hlt
        obtain ⟨d1, d2, d3⟩ := hc1 k hlt
        clear hc1
        have i1 : (k : Int) < (ps.length : Int) := by omega
        have hlen := ht ps[k] (List.getElem_mem hlt)
        have htk := tlen_take ps k hlt
        by_cases hov : 1048576 < ps.length + tlen (ps.take k) + ps[k].text.length
        · have hov' : (1048576 : Int) < ((ps.length + tlen (ps.take k) : Nat) : Int) + (ps[k].text.length : Int) := by omega
          clear htk
          go_wp2
          go_ret
          exact ⟨rfl, Below.refl _ _⟩
        · have hov' : ¬ (1048576 : Int) < ((ps.length + tlen (ps.take k) : Nat) : Int) + (ps[k].text.length : Int) := by omega
          have HTK : Hid (tlen (ps.take (k + 1)) = tlen (ps.take k) + ps[k].text.length) := htk
          clear htk
          go_wp2
          go_round
          case rel => exact ⟨k + 1, by omega, by go_num, by rw [HTK.out]; go_num, by rw [HTK.out]; omega⟩
          case measure => simp [intOf]; omega
      · rw [List.take_of_length_le (by omega)] at hsz ⊢
        have hsz' : ¬ (1048576 : Int) < ((ps.length + tlen ps : Nat) : Int) := by omega
        have hnl := norm_len ps
        have hnt := norm_tlen ps
        have hnn := norm_id (norm ps) (norm_NF ps)
        have HNN : Hid (norm (norm ps) = norm ps) := hnn
        have htx : ∀ p ∈ ps, p.text.length ≤ 4294967296 := fun p hp => by have := tlen_le ps p hp; omega
        have htn : ∀ p ∈ norm ps, p.text.length ≤ 4294967296 := fun p hp => by have := tlen_le (norm ps) p hp; omega
        have hnst : (nst (norm ps) == nst ps) = true := by rw [nst_norm]; simp
        clear hnn ht
        go_wp2_with fail
        refine (normalizeS_any ps _ w.heap.size _ (Nat.le_refl _) h1 (by omega) (by omega)).mono ?_
        rintro e w1 ⟨v1, rfl, hr1, hb1⟩
        have z1 := hb1.size
        go_wp2_with fail
        refine (nonSpaceText_any ps _ w.heap.size _ z1 (h1.below hb1) (by omega) (by omega)).mono ?_
        rintro e w2 ⟨rfl, hb2⟩
        have z2 := hb2.size
        go_wp2_with fail
        refine (cpInlines_any ps _ w.heap.size _ (by omega) (h1.below (hb1.trans (hb2.mono z1))) (by omega) htx).mono ?_
        rintro e w3 ⟨v3, rfl, ho3, hb3⟩
        have z3 := hb3.size
        go_wp2_with fail
        refine (normalize_any ps _ w3.heap.size _ (Nat.le_refl _) ho3.rdd (by omega) (by omega)).mono ?_
        rintro e w4 ⟨v4, rfl, hr4, hb4⟩
        have z4 := hb4.size
        go_wp2_with fail
        refine (isNormal_true (norm ps) _ w4.heap.size _ (Nat.le_refl _) hr4.rdd (norm_NF ps)).mono ?_
        rintro e w5 ⟨rfl, hb5⟩
        have z5 := hb5.size
        go_wp2_with fail
        refine (nonSpaceText_any (norm ps) _ w4.heap.size _ z5 (hr4.rdd.below hb5) (by omega) (by omega)).mono ?_
        rintro e w6 ⟨rfl, hb6⟩
        have z6 := hb6.size
        have hq6 : Rdd w6 w4.heap.size tInl v4 (norm ps) := hr4.rdd.below (hb5.trans (hb6.mono z5))
        go_wp2_with fail
        refine (cpInlines_any (norm ps) _ w4.heap.size _ (by omega) hq6 (by omega) htn).mono ?_
        rintro e w7 ⟨v7, rfl, ho7, hb7⟩
        have z7 := hb7.size
        go_wp2_with fail
        refine (normalize_any (norm ps) _ w7.heap.size _ (Nat.le_refl _) ho7.rdd (by omega) (by omega)).mono ?_
        rintro e w8 ⟨v8, rfl, hr8, hb8⟩
        have z8 := hb8.size
        rw [HNN.out] at hr8
        have hq8 : Rdd w8 w4.heap.size tInl v4 (norm ps) := (hq6.below (hb7.mono (by omega))).below (hb8.mono (by omega))
        go_wp2_with fail
        refine (sameInlines_true (norm ps) _ _ w8.heap.size _ (Nat.le_refl _) hr8.rdd (hq8.mono (by omega))).mono ?_
        rintro e w9 ⟨rfl, hb9⟩
        have z9 := hb9.size
        go_wp2_with fail
        have hq9 : Rdd w9 w4.heap.size tInl v4 (norm ps) := hq8.below (hb9.mono (by omega))
        have hb19 : Below w1.heap.size w1 w9 := ((((((hb2.trans (hb3.mono (by omega))).trans (hb4.mono (by omega))).trans (hb5.mono (by omega))).trans (hb6.mono (by omega))).trans (hb7.mono (by omega))).trans (hb8.mono (by omega))).trans (hb9.mono (by omega))
        refine (sameInlines_true (norm ps) _ _ w9.heap.size _ (Nat.le_refl _) (hq9.mono (by omega)) ((hr1.rdd.below hb19).mono (by omega))).mono ?_
        rintro e w10 ⟨rfl, hb10⟩
        go_wp2
        go_ret
        exact ⟨rfl, (hb1.trans (hb19.mono z1)).trans (hb10.mono (by omega))⟩
end Go.Proofs.Ybuaaw
