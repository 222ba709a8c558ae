import Derived.Test.YbuaawW3
import Derived.Test.YbuaawW5
import Derived.Test.YbuaawW10
import Derived.Test.YbuaawW11
namespace Go.Proofs.Ybuaaw
open Go.RowKit
attribute [local go_sem] mk_size mk_toList mk_getElem mk_extract take_len_drop mk_append_lit

theorem flen_append (a b : List Frg) : flen (a ++ b) = flen a + flen b := by
  induction a with
  | nil => simp [flen]
  | cons p a ih => simp only [List.cons_append, flen, ih]; omega
theorem flen_take (ps : List Frg) (k : Nat) (hk : k < ps.length) : flen (ps.take (k + 1)) = flen (ps.take k) + ps[k].text.length := by
  rw [List.take_succ_eq_append_getElem hk, flen_append]; simp [flen]

theorem rlines_len' (ps : List Frg) (h : 0 < ps.length) : (rlines ps).length = 1 + cnt2 (ps.drop 1) := by
  cases ps with
  | nil => simp at h
  | cons f fs => exact rlines_len f fs

set_option maxRecDepth 100000 in
set_option maxHeartbeats 4000000 in
theorem fnRenderLines_walk (ps : List Frg) (v : Value) (w : World) (h1 : Rdd w w.heap.size tFrg v ps) (ht : ∀ p ∈ ps, p.text.length ≤ 140737488355328) :
    Calls Yaac.prog 12 #[v] w fun e w' => e = .returned (.bool true) ∧ Below w.heap.size w w' := by
  have hl := h1.len_le
  unfold maxLen at hl
  obtain ⟨a1, c1, rfl, _, _⟩ := h1.shape
  by_cases hbig : 1048576 < ps.length
  · have hne : (1048576 : Int) < (ps.length : Int) := by omega
    go_enter Yaac.func12, Yaac.ntmps12
    go_wp2
    go_ret
    exact ⟨rfl, Below.refl _ _⟩
  · have hne : ¬ (1048576 : Int) < (ps.length : Int) := by omega
    go_enter Yaac.func12, Yaac.ntmps12
    go_wp2
    go_loop [3, 4] (fun sz i => ∃ k : Nat, k ≤ ps.length ∧ i = .int .i64 k ∧ sz = .int .i64 ((ps.length + flen (ps.take k) : Nat) : Int) ∧ ps.length + flen (ps.take k) ≤ 1048576) (fun _ i => ps.length - (intOf i).toNat)
    case atStart => exact ⟨0, Nat.zero_le _, rfl, by simp [flen], by simp [flen]; omega⟩
    case round =>
      obtain ⟨k, hk, rfl, rfl, hsz⟩ := hrel
      by_cases hlt : k < ps.length
      · obtain ⟨b1, o1, rfl, hb1, hc1⟩ := h1.frg k hlt
        obtain ⟨d1, d2, d3, d4⟩ := hc1 k hlt
        clear hc1
        have i1 : (k : Int) < (ps.length : Int) := by omega
        have hlen := ht ps[k] (List.getElem_mem hlt)
        have htk := flen_take ps k hlt
        by_cases hov : 1048576 < ps.length + flen (ps.take k) + ps[k].text.length
        · have hov' : (1048576 : Int) < ((ps.length + flen (ps.take k) : Nat) : Int) + (ps[k].text.length : Int) := by omega
          clear htk
          go_wp2
          go_ret
          exact ⟨rfl, Below.refl _ _⟩
        · have hov' : ¬ (1048576 : Int) < ((ps.length + flen (ps.take k) : Nat) : Int) + (ps[k].text.length : Int) := by omega
          have HTK : Hid (flen (ps.take (k + 1)) = flen (ps.take k) + ps[k].text.length) := htk
          clear htk
          go_wp2
          go_round
          case rel => exact ⟨k + 1, by omega, by go_num, by rw [HTK.out]; go_num, by rw [HTK.out]; omega⟩
          case measure => simp [intOf]; omega
      · rw [List.take_of_length_le (by omega)] at hsz ⊢
        have hsz' : ¬ (1048576 : Int) < ((ps.length + flen ps : Nat) : Int) := by omega
        have htx : ∀ p ∈ ps, p.text.length ≤ 4294967296 := fun p hp => by have := flen_le ps p hp; omega
        clear ht
        go_wp2_with fail
        refine (cpFrags_any ps _ w.heap.size _ (Nat.le_refl _) h1 (by omega) htx).mono ?_
        rintro e w1 ⟨v1, rfl, ho1, hb1⟩
        have z1 := hb1.size
        go_wp2_with fail
        refine (renderLines_any ps _ w1.heap.size _ (Nat.le_refl _) ho1.rdd (by omega) (by omega)).mono ?_
        rintro e w2 ⟨v2, rfl, ho2, hb2⟩
        have z2 := hb2.size
        obtain ⟨ao2, cap2, rfl⟩ := ho2.shape
        go_wp2_with fail
        refine (renderLinesS_any ps _ w.heap.size _ (by omega) (h1.below (hb1.trans (hb2.mono z1))) (by omega) (by omega)).mono ?_
        rintro e w3 ⟨v3, rfl, ho3, hb3⟩
        have z3 := hb3.size
        go_wp2_with fail
        refine (sameStrs_true (rlines ps) _ _ w3.heap.size _ (Nat.le_refl _) (ho2.below hb3).rdd ho3.rdd).mono ?_
        rintro e w4 ⟨rfl, hb4⟩
        have z4 := hb4.size
        have hbw : Below w.heap.size w w4 := ((hb1.trans (hb2.mono z1)).trans (hb3.mono (by omega))).trans (hb4.mono (by omega))
        by_cases hn : ps.length = 0
        · have hn' : ¬ (0 : Int) < (ps.length : Int) := by omega
          go_wp2
          go_ret
          exact ⟨rfl, hbw⟩
        · have hn' : (0 : Int) < (ps.length : Int) := by omega
          have HRL : Hid ((rlines ps).length = 1 + cnt2 (ps.drop 1)) := rlines_len' ps (by omega)
          have hc2 := cnt2_le (ps.drop 1)
          rw [List.length_drop] at hc2
          have hrd4 := h1.below hbw
          go_wp2
          go_loop [6, 7] (fun nv kv => ∃ k c : Nat, 1 ≤ k ∧ k ≤ ps.length ∧ c ≤ k ∧ kv = .int .i64 k ∧ nv = .int .i64 ((c + 1 : Nat) : Int) ∧ Hid (c + cnt2 (ps.drop k) = cnt2 (ps.drop 1))) (fun _ kv => ps.length - (intOf kv).toNat)
          case atStart => exact ⟨1, 0, Nat.le_refl _, by omega, by omega, rfl, rfl, by simp [Hid]⟩
          case round =>
            obtain ⟨k, c, hk1, hk, hck, rfl, rfl, hr⟩ := hrel
            by_cases hlt : k < ps.length
            · obtain ⟨b1, o1, rfl, hb1, hc1⟩ := hrd4.frg k hlt
              obtain ⟨d1, d2, d3, d4⟩ := hc1 k hlt
              clear hc1
              have i1 : (k : Int) < (ps.length : Int) := by omega
              have hca := cnt2_at ps k hlt
              by_cases hb2 : ps[k].brk = 2
              · have hbb : (ps[k].brk == 2) = true := beq_iff_eq.2 hb2
                rw [if_pos hb2] at hca
                have HE : Hid (c + 1 + cnt2 (ps.drop (k + 1)) = cnt2 (ps.drop 1)) := by rw [← hr.out, hca]; unfold Hid; omega
                clear hb2 hca hr
                go_wp2
                go_round
                case rel => exact ⟨k + 1, c + 1, by omega, by omega, by omega, by go_num, by go_num, HE⟩
                case measure => simp [intOf]; omega
              · have hbb : (ps[k].brk == 2) = false := beq_eq_false_iff_ne.2 hb2
                rw [if_neg hb2] at hca
                have HE : Hid (c + cnt2 (ps.drop (k + 1)) = cnt2 (ps.drop 1)) := by rw [← hr.out, hca]; exact rfl
                clear hca hr
                go_wp2
                go_round
                case rel => exact ⟨k + 1, c, by omega, by omega, by omega, by go_num, by go_num, HE⟩
                case measure => simp [intOf]; omega
            · have hr' := hr.out
              have hrl := HRL.out
              rw [List.drop_of_length_le (by omega : ps.length ≤ k), cnt2] at hr'
              have hfin : (((rlines ps).length : Int) != ((c + 1 : Nat) : Int)) = false := by simp; omega
              have hfin2 : (((rlines ps).length : Int) != (c : Int) + 1) = false := by simp; omega
              clear hr' hr hrl
              go_wp2
              go_ret
              exact ⟨rfl, hbw⟩
end Go.Proofs.Ybuaaw
