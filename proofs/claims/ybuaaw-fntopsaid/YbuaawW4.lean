import Derived.Test.YbuaawMem
import Derived.Test.YbuaawPlain1
namespace Go.Proofs.Ybuaaw
open Go.RowKit
attribute [local go_sem] mk_size mk_toList mk_getElem mk_extract take_len_drop

set_option maxHeartbeats 800000 in
theorem join_any (sep : List UInt8) (ss : List (List UInt8)) (v : Value) (B : Nat) (w : World) (hB : B ≤ w.heap.size) (h1 : Rdd w B tStr v ss) (hs : (join sep ss).length ≤ 1099511627776) :
    Calls Yaac.prog 20 #[v, .string (mk sep)] w fun e w' => e = .returned (.string (mk (join sep ss))) ∧ Below w.heap.size w w' := by
  have hl := h1.len_le
  unfold maxLen at hl
  obtain ⟨a1, c1, rfl, _, _⟩ := h1.shape
  have HS : Hid ((join sep ss).length ≤ 1099511627776) := hs
  clear hs
  go_enter Yaac.func20, Yaac.ntmps20
  go_wp2
  go_loopw [5, 6] (fun v i wr => ∃ (k : Nat) (acc : List UInt8), k ≤ ss.length ∧ i = .int .i64 k ∧ Own wr w.heap.size tByte v acc ∧ Below w.heap.size w wr ∧ Hid (joinGo sep (ss.drop k) k acc = join sep ss)) (fun _ i _ => ss.length - (intOf i).toNat)
  case atStart => exact ⟨0, [], Nat.zero_le _, rfl, Own.nil _ _ _, Below.refl _ _, rfl⟩
  case round =>
    obtain ⟨k, acc, hk, rfl, hown, hbel, hr⟩ := hrel
    obtain ⟨ao, cap, rfl⟩ := hown.shape
    have hz := hbel.size
    by_cases hlt : k < ss.length
    · have hs2 : (if k = 0 then acc else acc ++ sep).length + ss[k].length ≤ 1099511627776 := by
        have e1 := HS.out
        rw [← hr.out, joinGo_at sep ss k acc hlt] at e1
        have e2 := joinGo_ge sep (ss.drop (k + 1)) (k + 1) ((if k = 0 then acc else acc ++ sep) ++ ss[k])
        rw [List.length_append] at e2
        omega
      have hr' : Hid (joinGo sep (ss.drop (k + 1)) (k + 1) ((if k = 0 then acc else acc ++ sep) ++ ss[k]) = join sep ss) := by
        rw [← hr.out, joinGo_at sep ss k acc hlt]; exact rfl
      clear hr
      obtain ⟨b1, o1, rfl, hb1, hc1⟩ := (h1.below (hbel.mono hB)).str k hlt
      have d1 := hc1 k hlt
      clear hc1
      have i1 : (k : Int) < (ss.length : Int) := by omega
      by_cases h0 : k = 0
      · rw [if_pos h0] at hs2 hr'
        have h0' : ¬ (0 : Int) < (k : Int) := by omega
        have H0 : Hid (k = 0) := h0
        clear h0
        go_wp2_with (at_builtin; refine appS (.tmp 18) (.tmp 22) w.heap.size _ acc hown ss[k] rfl rfl rfl rfl (by omega) (by omega) ?_)
        intro ao' cap' w1 ho hgr hb2
        go_wp2
        go_roundw
        case rel => exact ⟨k + 1, acc ++ ss[k], by omega, by go_num, ho, hbel.trans hb2, hr'⟩
        case measure => simp [intOf]; omega
      · rw [if_neg h0] at hs2 hr'
        rw [List.length_append] at hs2
        have h0' : (0 : Int) < (k : Int) := by omega
        go_wp2_with (at_builtin; refine appS (.tmp 15) (.tmp 16) w.heap.size _ acc hown sep rfl rfl rfl rfl (by omega) (by omega) ?_)
        intro ao' cap' w1 ho hgr hb2
        have hz2 := hb2.size
        have d2 : w1.cell? ⟨b1, o1 + k, none⟩ = some (.string (mk ss[k])) := (hb2.cell (p := ⟨b1, o1 + k, none⟩) (by simp; omega)).trans d1
        clear d1
        go_wp2_with (at_builtin; refine appS (.tmp 18) (.tmp 22) w.heap.size _ (acc ++ sep) (by rw [← List.length_append] at ho ⊢; exact ho) ss[k] rfl rfl rfl rfl (by simp; omega) (by omega) ?_)
        intro ao2 cap2 w2 ho2 hgr2 hb3
        go_wp2
        go_roundw
        case rel => exact ⟨k + 1, acc ++ sep ++ ss[k], by omega, by go_num, by simpa using ho2, (hbel.trans hb2).trans hb3, hr'⟩
        case measure => simp [intOf]; omega
    · have hcv := conv_own hown
      go_wp2
      go_ret
      exact ⟨ret_str (by rw [← hr.out, List.drop_of_length_le (by omega), joinGo]), hbel⟩

set_option maxHeartbeats 800000 in
theorem cutAll_any (l : List UInt8) (w : World) (hs : l.length ≤ 4294967296) :
    Calls Yaac.prog 58 #[.string (mk l)] w fun e w' => ∃ v, e = .returned v ∧ Own w' w.heap.size tStr v (cut l) ∧ Below w.heap.size w w' := by
  go_enter Yaac.func58, Yaac.ntmps58
  go_wp2
  go_loopw [3, 4, 5] (fun v st i wr => ∃ (k s : Nat) (acc : List (List UInt8)), k ≤ l.length ∧ s ≤ k ∧ acc.length ≤ k ∧ i = .int .i64 k ∧ st = .int .i64 s ∧
      Own wr w.heap.size tStr v acc ∧ Below w.heap.size w wr ∧ Hid (cutGo (l.drop k) ((l.drop s).take (k - s)) acc = cut l)) (fun _ _ i _ => l.length - (intOf i).toNat)
  case atStart => exact ⟨0, 0, [], Nat.zero_le _, Nat.le_refl _, Nat.zero_le _, rfl, rfl, Own.nil _ _ _, Below.refl _ _, rfl⟩
  case round =>
    obtain ⟨k, s, acc, hk, hsk, hacc, rfl, rfl, hown, hbel, hr⟩ := hrel
    obtain ⟨ao, cap, rfl⟩ := hown.shape
    have hz := hbel.size
    by_cases hlt : k < l.length
    · by_cases hc : l[k].toNat = 10
      · have h1 : ((l[k].toNat : Int) == 10) = true := beq_iff_eq.2 (by omega)
        have HC : Hid (l[k].toNat = 10) := hc
        clear hc
        go_wp2_with (at_builtin; refine app1 tStr (.tmp 16) (.tmp 21) w.heap.size _ acc hown _ _ rfl rfl rfl rfl rfl rfl (by omega) (by omega) ?_)
        intro g cap' w1 ho hgr hat hb1
        go_wp2
        go_roundw
        case rel => exact ⟨k + 1, k + 1, acc ++ [(l.drop s).take (k - s)], by omega, by omega, by simp; omega, by go_num, by go_num, ho, hbel.trans hb1, by rw [← hr.out, cutGo_at l s k acc hlt hsk, if_pos HC.out]; exact rfl⟩
        case measure => simp [intOf]; omega
      · have h1 : ((l[k].toNat : Int) == 10) = false := beq_eq_false_iff_ne.2 (by omega)
        go_wp2
        go_roundw
        case rel => exact ⟨k + 1, s, acc, by omega, by omega, by omega, by go_num, by go_num, hown, hbel, by rw [← hr.out, cutGo_at l s k acc hlt hsk, if_neg hc]; exact rfl⟩
        case measure => simp [intOf]; omega
    · go_wp2_with (at_builtin; refine app1 tStr (.tmp 25) (.tmp 29) w.heap.size _ acc hown _ _ rfl rfl rfl rfl rfl rfl (by omega) (by omega) ?_)
      intro g cap' w1 ho hgr hat hb1
      go_wp2
      go_ret
      exact ⟨_, rfl, by rw [← hr.out, cutGo_end l s k acc (by omega)]; exact ho, hbel.trans hb1⟩

set_option maxHeartbeats 800000 in
theorem splitLinesS_any (l : List UInt8) (w : World) (hs : l.length ≤ 4294967295) :
    Calls Yaac.prog 23 #[.string (mk l)] w fun e w' => ∃ v, e = .returned v ∧ Rdd w' w'.heap.size tStr v (splitS l) ∧ Below w.heap.size w w' := by
  by_cases hn : l.length = 0
  · have e0 : l = [] := List.eq_nil_of_length_eq_zero hn
    subst e0
    go_enter Yaac.func23, Yaac.ntmps23
    go_wp2
    go_ret
    exact ⟨_, rfl, Rdd.nil _ _ _, Below.refl _ _⟩
  · have hn' : ((l.length : Int) == 0) = false := beq_eq_false_iff_ne.2 (by omega)
    have hl1 : l.length - 1 < l.length := by omega
    have hcl := cut_len l
    have hres : Hid (splitS l = if l[l.length - 1].toNat = 10 then (cut l).take ((cut l).length - 1) else cut l) := by unfold splitS Hid; rw [dif_neg hn]
    by_cases hc : l[l.length - 1].toNat = 10
    · have h1 : ((l[l.length - 1].toNat : Int) == 10) = true := beq_iff_eq.2 (by omega)
      have HC : Hid (l[l.length - 1].toNat = 10) := hc
      clear hc
      go_enter Yaac.func23, Yaac.ntmps23
      have hcl2 := hcl.2
      have hcl1 := hcl.1
      clear hcl
      go_wp2_with (go_at_call 58; refine (cutAll_any l _ (by omega)).mono ?_; rintro e w1 ⟨v, rfl, ho, hb⟩; obtain ⟨g, cap, rfl, _, _, hcap, hcap2⟩ := ho.form (by omega))
      go_ret
      refine ⟨_, rfl, ?_, hb⟩
      rw [hres.out, if_pos HC.out]
      exact ho.rdd.take _ (by omega)
    · have h1 : ((l[l.length - 1].toNat : Int) == 10) = false := beq_eq_false_iff_ne.2 (by omega)
      go_enter Yaac.func23, Yaac.ntmps23
      go_wp2_with (go_at_call 58; refine (cutAll_any l _ (by omega)).mono ?_; rintro e w1 ⟨v, rfl, ho, hb⟩)
      go_ret
      refine ⟨_, rfl, ?_, hb⟩
      rw [hres.out, if_neg hc]
      exact ho.rdd
end Go.Proofs.Ybuaaw
