import Derived.Test.YbuaawW13
namespace Go.Proofs.Ybuaaw
open Go.RowKit
attribute [local go_sem] mk_size mk_toList mk_getElem mk_extract take_len_drop mk_append_lit

set_option maxRecDepth 100000 in
set_option maxHeartbeats 4000000 in
theorem plainRuns_any (l : List UInt8) (w : World) (hs : l.length ≤ 1073741824) (hno : ∀ c ∈ l, c.toNat ≠ 92 ∧ c.toNat ≠ 42 ∧ c.toNat ≠ 96) :
    Calls Yaac.prog 32 #[.string (mk l)] w fun e w' => ∃ v', e = .returned v' ∧ Own w' w.heap.size tInl v' (pinl l) ∧ Below w.heap.size w w' := by
  have HNO : Hid (∀ c ∈ l, c.toNat ≠ 92 ∧ c.toNat ≠ 42 ∧ c.toNat ≠ 96) := hno
  clear hno
  go_enter Yaac.func32, Yaac.ntmps32
  go_wp2
  go_loopw [3, 4] (fun rv iv wr => ∃ (i : Nat) (out : List Inl), i ≤ l.length ∧ iv = .int .i64 i ∧ out.length ≤ i ∧ Own wr w.heap.size tInl rv out ∧ Below w.heap.size w wr ∧ Hid (pm (l.drop i) 0 [] 0 [] out = pinl l)) (fun _ iv _ => l.length - (intOf iv).toNat)
  case atStart => exact ⟨0, [], Nat.zero_le _, rfl, by simp, Own.nil _ _ _, Below.refl _ _, rfl⟩
  case round =>
    obtain ⟨i, out, hi, rfl, hol, hor, hbel, hr⟩ := hrel
    obtain ⟨wx, rfl⟩ : ∃ wx : World, wx = wr := ⟨_, rfl⟩
    obtain ⟨ro, rcap, rfl⟩ := hor.shape
    have hz := hbel.size
    by_cases hlt : i < l.length
    · have i1 : (i : Int) < (l.length : Int) := by omega
      by_cases hsp : isSp l[i] = true
      · have hsp2 : Hid (isSp l[i] = true) := hsp
        go_wp2_with (go_at_call 63; refine (isSpaceByte_any l[i] _).mono ?_; rintro e w' ⟨rfl, rfl⟩)
        go_loop [4] (fun jv => ∃ j : Nat, i < j + 1 ∧ j ≤ l.length ∧ jv = .int .i64 j ∧ Hid (∀ x (hx : x < l.length), i ≤ x → x < j → isSp l[x] = true)) (fun jv => l.length - (intOf jv).toNat)
        case atStart => exact ⟨i, by omega, by omega, rfl, fun x _ h1 h2 => by omega⟩
        case round =>
          obtain ⟨j, hij0, hjl, rfl, hrun⟩ := hrel
          by_cases hjlt : j < l.length
          · have i3 : (j : Int) < (l.length : Int) := by omega
            by_cases hspj : isSp l[j] = true
            · have HN : Hid (∀ x (hx : x < l.length), i ≤ x → x < j + 1 → isSp l[x] = true) := fun x hx h1 h2 => by
                by_cases e : x = j
                · subst e; exact hspj
                · exact hrun.out x hx h1 (by omega)
              go_wp2_with (go_at_call 63; refine (isSpaceByte_any l[j] _).mono ?_; rintro e w' ⟨rfl, rfl⟩)
              go_round
              case rel => exact ⟨j + 1, by omega, by omega, by go_num, HN⟩
              case measure => simp [intOf]; omega
            · have hspj' : isSp l[j] = false := by simpa using hspj
              have hij : i < j := by
                rcases Nat.lt_or_ge i j with h | h
                · exact h
                · have e : j = i := by omega
                  subst e; rw [hsp2.out] at hspj'; cases hspj'
              have hstop : ∀ h : j < l.length, isSp l[j] = false := fun _ => hspj'
              clear hspj
              have HE : Hid (pm (l.drop j) 0 [] 0 [] (out ++ [⟨1, 0, [32]⟩]) = pinl l) := by
                have e := pm_sp_at l i 0 [] out j hij hjl hrun.out hstop
                rw [flushB_nil] at e
                rw [← e]; exact hr
              clear hr hrun hstop
              go_wp2_with (first
                | (go_at_call 63; refine (isSpaceByte_any l[j] _).mono ?_; rintro e w' ⟨rfl, rfl⟩)
                | (at_builtin; refine app1 tInl (.tmp 26) (.tmp 28) w.heap.size _ out hor ⟨1, 0, [32]⟩ _ rfl rfl rfl rfl rfl rfl (by omega) (by omega) ?_))
              intro g3 cap3 w3 ho3 hgr3 hat3 hb3
              go_wp2
              go_roundw
              case rel => exact ⟨j, out ++ [⟨1, 0, [32]⟩], by omega, by go_num, by simp; omega, ho3, hbel.trans hb3, HE⟩
              case measure => simp [intOf]; omega
          · have i3 : ¬ (j : Int) < (l.length : Int) := by omega
            have hij : i < j := by omega
            have hstop : ∀ h : j < l.length, isSp l[j] = false := fun h => absurd h hjlt
            have HE : Hid (pm (l.drop j) 0 [] 0 [] (out ++ [⟨1, 0, [32]⟩]) = pinl l) := by
              have e := pm_sp_at l i 0 [] out j hij hjl hrun.out hstop
              rw [flushB_nil] at e
              rw [← e]; exact hr
            clear hr hrun hstop
            go_wp2_with (at_builtin; refine app1 tInl (.tmp 26) (.tmp 28) w.heap.size _ out hor ⟨1, 0, [32]⟩ _ rfl rfl rfl rfl rfl rfl (by omega) (by omega) ?_)
            intro g3 cap3 w3 ho3 hgr3 hat3 hb3
            go_wp2
            go_roundw
            case rel => exact ⟨j, out ++ [⟨1, 0, [32]⟩], by omega, by go_num, by simp; omega, ho3, hbel.trans hb3, HE⟩
            case measure => simp [intOf]; omega
      · have hsp' : isSp l[i] = false := by simpa using hsp
        have hsp2 : Hid (isSp l[i] = false) := hsp'
        clear hsp
        go_wp2_with (go_at_call 63; refine (isSpaceByte_any l[i] _).mono ?_; rintro e w' ⟨rfl, rfl⟩)
        go_loop [5] (fun jv => ∃ j : Nat, i < j + 1 ∧ j ≤ l.length ∧ jv = .int .i64 j ∧ Hid (∀ x (hx : x < l.length), i ≤ x → x < j → isSp l[x] = false)) (fun jv => l.length - (intOf jv).toNat)
        case atStart => exact ⟨i, by omega, by omega, rfl, fun x _ h1 h2 => by omega⟩
        case round =>
          obtain ⟨j, hij0, hjl, rfl, hrun⟩ := hrel
          by_cases hjlt : j < l.length
          · have i3 : (j : Int) < (l.length : Int) := by omega
            by_cases hspj : isSp l[j] = true
            · have hij : i < j := by
                rcases Nat.lt_or_ge i j with h | h
                · exact h
                · have e : j = i := by omega
                  subst e; rw [hsp2.out] at hspj; cases hspj
              have hstop : ∀ h : j < l.length, isSp l[j] = true := fun _ => hspj
              have HE : Hid (pm (l.drop j) 0 [] 0 [] (out ++ [⟨0, 0, (l.drop i).take (j - i)⟩]) = pinl l) := by rw [← pm_word_at l i 0 out j hij hjl hrun.out HNO.out hstop]; exact hr
              clear hr hrun hstop
              go_wp2_with (first
                | (go_at_call 63; refine (isSpaceByte_any l[j] _).mono ?_; rintro e w' ⟨rfl, rfl⟩)
                | (at_builtin; refine app1 tInl (.tmp 44) (.tmp 50) w.heap.size _ out hor ⟨0, 0, (l.drop i).take (j - i)⟩ _ rfl rfl rfl rfl rfl rfl (by omega) (by omega) ?_))
              intro g3 cap3 w3 ho3 hgr3 hat3 hb3
              go_wp2
              go_roundw
              case rel => exact ⟨j, out ++ [⟨0, 0, (l.drop i).take (j - i)⟩], by omega, by go_num, by simp; omega, ho3, hbel.trans hb3, HE⟩
              case measure => simp [intOf]; omega
            · have hspj' : isSp l[j] = false := by simpa using hspj
              have HN : Hid (∀ x (hx : x < l.length), i ≤ x → x < j + 1 → isSp l[x] = false) := fun x hx h1 h2 => by
                by_cases e : x = j
                · subst e; exact hspj'
                · exact hrun.out x hx h1 (by omega)
              clear hspj
              go_wp2_with (go_at_call 63; refine (isSpaceByte_any l[j] _).mono ?_; rintro e w' ⟨rfl, rfl⟩)
              go_round
              case rel => exact ⟨j + 1, by omega, by omega, by go_num, HN⟩
              case measure => simp [intOf]; omega
          · have i3 : ¬ (j : Int) < (l.length : Int) := by omega
            have hij : i < j := by omega
            have hstop : ∀ h : j < l.length, isSp l[j] = true := fun h => absurd h hjlt
            have HE : Hid (pm (l.drop j) 0 [] 0 [] (out ++ [⟨0, 0, (l.drop i).take (j - i)⟩]) = pinl l) := by rw [← pm_word_at l i 0 out j hij hjl hrun.out HNO.out hstop]; exact hr
            clear hr hrun hstop
            go_wp2_with (at_builtin; refine app1 tInl (.tmp 44) (.tmp 50) w.heap.size _ out hor ⟨0, 0, (l.drop i).take (j - i)⟩ _ rfl rfl rfl rfl rfl rfl (by omega) (by omega) ?_)
            intro g3 cap3 w3 ho3 hgr3 hat3 hb3
            go_wp2
            go_roundw
            case rel => exact ⟨j, out ++ [⟨0, 0, (l.drop i).take (j - i)⟩], by omega, by go_num, by simp; omega, ho3, hbel.trans hb3, HE⟩
            case measure => simp [intOf]; omega
    · go_wp2
      go_ret
      exact ⟨_, rfl, by rw [← hr.out, List.drop_of_length_le (by omega), pm, flushB_nil]; exact hor, hbel⟩
end Go.Proofs.Ybuaaw
