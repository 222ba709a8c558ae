import Derived.Test.YbuaawW12
namespace Go.Proofs.Ybuaaw
open Go.RowKit
attribute [local go_sem] mk_size mk_toList mk_getElem mk_extract take_len_drop mk_append_lit

set_option maxHeartbeats 800000 in
theorem flushBuf_any (out : List Inl) (s : Int) (b : List UInt8) (v bv : Value) (B B' : Nat) (w : World) (hB : B ≤ w.heap.size) (ho : Own w B tInl v out) (hb : Own w B' tByte bv b) (hn : out.length ≤ 4294967296) (hbn : b.length ≤ 4294967296) :
    Calls Yaac.prog 67 #[v, .int .i64 s, bv] w fun e w' => ∃ v', e = .returned v' ∧ Own w' B tInl v' (flushB out s b) ∧ w.grownBy w' v.ownBlock ∧ Below B w w' := by
  obtain ⟨ao, cap, rfl⟩ := ho.shape
  obtain ⟨bo, bcap, rfl⟩ := hb.shape
  by_cases hb0 : b = []
  · subst hb0
    go_enter Yaac.func67, Yaac.ntmps67
    go_wp2
    go_ret
    exact ⟨_, rfl, by rw [flushB_nil]; exact ho, ⟨rfl, rfl, rfl, Nat.le_refl _, fun _ _ _ => rfl⟩, Below.refl _ _⟩
  · have hbl : 0 < b.length := by cases b with | nil => exact absurd rfl hb0 | cons _ _ => simp
    have hbp : ((b.length : Int) == 0) = false := beq_eq_false_iff_ne.2 (by omega)
    have hcv := conv_own hb
    go_enter Yaac.func67, Yaac.ntmps67
    go_wp2_with (at_builtin; refine app1 tInl (.tmp 11) (.tmp 16) B _ out ho ⟨0, s, b⟩ w.heap.size rfl rfl rfl rfl rfl rfl (by omega) (by omega) ?_)
    intro g1 cap1 w1 ho1 hgr1 hat1 hb1
    go_wp2
    go_ret
    exact ⟨_, rfl, by rw [flushB_ne _ _ _ hb0]; exact ho1, hgr1, hb1⟩

theorem flushB_len (out : List Inl) (s : Int) (b : List UInt8) : (flushB out s b).length ≤ out.length + 1 := by unfold flushB; split <;> simp

set_option maxRecDepth 100000 in
set_option maxHeartbeats 8000000 in
theorem parseInlineS_any (l : List UInt8) (w : World) (hs : l.length ≤ 1073741824) :
    Calls Yaac.prog 31 #[.string (mk l)] w fun e w' => ∃ v', e = .returned v' ∧ Own w' w.heap.size tInl v' (pinl l) ∧ Below w.heap.size w w' := by
  go_enter Yaac.func31, Yaac.ntmps31
  go_wp2
  go_loopw [3, 4, 5, 6] (fun rv sv bv iv wr => ∃ (i : Nat) (s : Int) (b : List UInt8) (out : List Inl), i ≤ l.length ∧ 0 ≤ s ∧ s ≤ 1 ∧ iv = .int .i64 i ∧ sv = .int .i64 s ∧ out.length ≤ 2 * i ∧ b.length ≤ i ∧ Own wr w.heap.size tInl rv out ∧ Own wr w.heap.size tByte bv b ∧ Below w.heap.size w wr ∧ Hid (pm (l.drop i) 0 [] s b out = pinl l)) (fun _ _ _ iv _ => l.length - (intOf iv).toNat)
  case atStart => exact ⟨0, 0, [], [], Nat.zero_le _, by omega, by omega, rfl, rfl, by simp, by simp, Own.nil _ _ _, Own.nil _ _ _, Below.refl _ _, rfl⟩
  case round =>
    obtain ⟨i, s, b, out, hi, hs0, hs1, rfl, rfl, hol, hbl, hor, hob, hbel, hr⟩ := hrel
    obtain ⟨wx, rfl⟩ : ∃ wx : World, wx = wr := ⟨_, rfl⟩
    obtain ⟨ro, rcap, rfl⟩ := hor.shape
    obtain ⟨bo, bcap, rfl⟩ := hob.shape
    have hz := hbel.size
    have hfl := flushB_len out s b
    by_cases hlt : i < l.length
    · have i1 : (i : Int) < (l.length : Int) := by omega
      by_cases h92 : l[i].toNat = 92
      · have t92 : ((l[i].toNat : Int) == 92) = true := beq_iff_eq.2 (by omega)
        by_cases hi2 : i + 1 < l.length
        · have i2 : (i : Int) + 1 < (l.length : Int) := by omega
          have HE : Hid (pm (l.drop (i + 2)) 0 [] s (b ++ [l[i + 1]]) out = pinl l) := by rw [← hr.out, pm_esc_at l i s b out hi2 h92]; exact rfl
          clear h92 hr
          go_wp2_with (at_builtin; refine app1 tByte (.tmp 23) (.tmp 28) w.heap.size _ b hob l[i + 1] wx.heap.size rfl rfl rfl rfl rfl rfl (by omega) (by omega) ?_)
          intro g1 cap1 w1 ho1 hgr1 hat1 hb1
          go_wp2
          go_roundw
          case rel => exact ⟨i + 2, s, b ++ [l[i + 1]], out, by omega, by omega, by omega, by go_num, by go_num, by first | omega | (simp; done) | (simp; omega), by first | omega | (simp; done) | (simp; omega), hor.apart hob hgr1 (by simp [tByte, tInl]), ho1, hbel.trans hb1, HE⟩
          case measure => simp [intOf]; omega
        · have i2 : ¬ (i : Int) + 1 < (l.length : Int) := by omega
          have HE : Hid (pm (l.drop (i + 1)) 0 [] s (b ++ [92]) out = pinl l) := by rw [← hr.out, pm_esc_end_at l i s b out hlt hi2 h92]; exact rfl
          clear h92 hr
          go_wp2_with (at_builtin; refine app1 tByte (.tmp 32) (.tmp 33) w.heap.size _ b hob 92 wx.heap.size rfl rfl rfl rfl rfl rfl (by omega) (by omega) ?_)
          intro g1 cap1 w1 ho1 hgr1 hat1 hb1
          go_wp2
          go_roundw
          case rel => exact ⟨i + 1, s, b ++ [92], out, by omega, by omega, by omega, by go_num, by go_num, by first | omega | (simp; done) | (simp; omega), by first | omega | (simp; done) | (simp; omega), hor.apart hob hgr1 (by simp [tByte, tInl]), ho1, hbel.trans hb1, HE⟩
          case measure => simp [intOf]; omega
      · have t92 : ((l[i].toNat : Int) == 92) = false := beq_eq_false_iff_ne.2 (by omega)
        by_cases h42 : l[i].toNat = 42
        · have t42 : ((l[i].toNat : Int) == 42) = true := beq_iff_eq.2 (by omega)
          have HE : Hid (pm (l.drop (i + 1)) 0 [] (1 - s) [] (flushB out s b) = pinl l) := by rw [← hr.out, pm_star_at l i s b out hlt h42]; exact rfl
          clear h42 hr
          go_wp2_with (go_at_call 67; refine (flushBuf_any out s b _ _ w.heap.size w.heap.size _ (by omega) hor hob (by omega) (by omega)).mono ?_; rintro e w1 ⟨v1, rfl, ho1, hgr1, hb1⟩)
          go_wp2
          go_roundw
          case rel => exact ⟨i + 1, 1 - s, [], flushB out s b, by omega, by omega, by omega, by go_num, by go_num, by first | omega | (simp; done) | (simp; omega), by first | omega | (simp; done) | (simp; omega), ho1, Own.nil _ _ _, hbel.trans hb1, HE⟩
          case measure => simp [intOf]; omega
        · have t42 : ((l[i].toNat : Int) == 42) = false := beq_eq_false_iff_ne.2 (by omega)
          by_cases h96 : l[i].toNat = 96
          · have t96 : ((l[i].toNat : Int) == 96) = true := beq_iff_eq.2 (by omega)
            have H96 : Hid (l[i].toNat = 96) := h96
            clear h96
            go_wp2
            go_loop [8] (fun jv => ∃ j : Nat, i < j ∧ j ≤ l.length ∧ jv = .int .i64 j ∧ Hid (∀ x (hx : x < l.length), i + 1 ≤ x → x < j → l[x].toNat ≠ 96)) (fun jv => l.length - (intOf jv).toNat)
            case atStart => exact ⟨i + 1, by omega, by omega, by go_num, fun x _ h1 h2 => by omega⟩
            case round =>
              obtain ⟨j, hij, hjl, rfl, hno⟩ := hrel
              by_cases hjlt : j < l.length
              · have i3 : (j : Int) < (l.length : Int) := by omega
                by_cases hj96 : l[j].toNat = 96
                · have tj : ((l[j].toNat : Int) != 96) = false := by simp; omega
                  have HE : Hid (pm (l.drop (j + 1)) 0 [] s [] (flushB out s b ++ [⟨2, s, (l.drop (i + 1)).take (j - (i + 1))⟩]) = pinl l) := by rw [← hr.out, pm_code_at l i s b out j hij hjlt H96.out hj96 hno.out]; exact rfl
                  clear hj96 hr hno
                  go_wp2_with (first
                    | (go_at_call 67; refine (flushBuf_any out s b _ _ w.heap.size w.heap.size _ (by omega) hor hob (by omega) (by omega)).mono ?_; rintro e w1 ⟨v1, rfl, ho1, hgr1, hb1⟩; obtain ⟨ao1, cap1, rfl⟩ := ho1.shape; have z1 := hb1.size)
                    | (at_builtin; refine app1 tInl (.tmp 71) (.tmp 79) w.heap.size _ (flushB out s b) ho1 ⟨2, s, (l.drop (i + 1)).take (j - (i + 1))⟩ _ rfl rfl rfl rfl rfl rfl (by omega) (by omega) ?_))
                  intro g2 cap2 w2 ho2 hgr2 hat2 hb2
                  go_wp2
                  go_roundw
                  case rel => exact ⟨j + 1, s, [], flushB out s b ++ [⟨2, s, (l.drop (i + 1)).take (j - (i + 1))⟩], by omega, by omega, by omega, by go_num, by go_num, by first | omega | (simp; done) | (simp; omega), by first | omega | (simp; done) | (simp; omega), ho2, Own.nil _ _ _, (hbel.trans hb1).trans hb2, HE⟩
                  case measure => simp [intOf]; omega
                · have tj : ((l[j].toNat : Int) != 96) = true := by simp; omega
                  have HN : Hid (∀ x (hx : x < l.length), i + 1 ≤ x → x < j + 1 → l[x].toNat ≠ 96) := fun x hx h1 h2 => by
                    by_cases e : x = j
                    · subst e; exact hj96
                    · exact hno.out x hx h1 (by omega)
                  clear hj96
                  go_wp2
                  go_round
                  case rel => exact ⟨j + 1, by omega, by omega, by go_num, HN⟩
                  case measure => simp [intOf]; omega
              · have i3 : ¬ (j : Int) < (l.length : Int) := by omega
                have HE : Hid (pm (l.drop (i + 1)) 0 [] s (b ++ [96]) out = pinl l) := by rw [← hr.out, pm_tick_no_at l i s b out hlt H96.out (fun x hx h1 => hno.out x hx h1 (by omega))]; exact rfl
                clear hr hno
                go_wp2_with (at_builtin; refine app1 tByte (.tmp 83) (.tmp 84) w.heap.size _ b hob 96 wx.heap.size rfl rfl rfl rfl rfl rfl (by omega) (by omega) ?_)
                intro g1 cap1 w1 ho1 hgr1 hat1 hb1
                go_wp2
                go_roundw
                case rel => exact ⟨i + 1, s, b ++ [96], out, by omega, by omega, by omega, by go_num, by go_num, by first | omega | (simp; done) | (simp; omega), by first | omega | (simp; done) | (simp; omega), hor.apart hob hgr1 (by simp [tByte, tInl]), ho1, hbel.trans hb1, HE⟩
                case measure => simp [intOf]; omega
          · have t96 : ((l[i].toNat : Int) == 96) = false := beq_eq_false_iff_ne.2 (by omega)
            by_cases hsp : isSp l[i] = true
            · have hsp2 : Hid (isSp l[i] = true) := hsp
              go_wp2_with (first
                | (go_at_call 63; refine (isSpaceByte_any l[i] _).mono ?_; rintro e w' ⟨rfl, rfl⟩)
                | (go_at_call 67; refine (flushBuf_any out s b _ _ w.heap.size w.heap.size _ (by omega) hor hob (by omega) (by omega)).mono ?_; rintro e w1 ⟨v1, rfl, ho1, hgr1, hb1⟩; obtain ⟨ao1, cap1, rfl⟩ := ho1.shape; have z1 := hb1.size))
              go_loop [6] (fun jv => ∃ j : Nat, i < j + 1 ∧ j ≤ l.length ∧ jv = .int .i64 j ∧ Hid (∀ x (hx : x < l.length), i ≤ x → x < j → isSp l[x] = true)) (fun jv => l.length - (intOf jv).toNat)
              case atStart => exact ⟨i, by omega, by omega, rfl, fun x _ h1 h2 => by omega⟩
              case round =>
                obtain ⟨j, hij0, hjl, rfl, hrun⟩ := hrel
                by_cases hjlt : j < l.length
                · have i3 : (j : Int) < (l.length : Int) := by omega
                  by_cases hspj : isSp l[j] = true
                  · have HN : Hid (∀ x (hx : x < l.length), i ≤ x → x < j + 1 → isSp l[x] = true) := fun x hx h1 h2 => by
                      by_cases e : x = j
                      · subst e; exact hspj
                      · exact hrun.out x hx h1 (by omega)
                    go_wp2_with (go_at_call 63; refine (isSpaceByte_any l[j] _).mono ?_; rintro e w' ⟨rfl, rfl⟩)
                    go_round
                    case rel => exact ⟨j + 1, by omega, by omega, by go_num, HN⟩
                    case measure => simp [intOf]; omega
                  · have hspj' : isSp l[j] = false := by simpa using hspj
                    have hij : i < j := by
                      rcases Nat.lt_or_ge i j with h | h
                      · exact h
                      · have e : j = i := by omega
                        subst e; rw [hsp2.out] at hspj'; cases hspj'
                    have hstop : ∀ h : j < l.length, isSp l[j] = false := fun _ => hspj'
                    clear hspj
                    have HE : Hid (pm (l.drop j) 0 [] s [] (flushB out s b ++ [⟨1, 0, [32]⟩]) = pinl l) := by rw [← hr.out, pm_sp_at l i s b out j hij hjl hrun.out hstop]; exact rfl
                    clear hr hrun hstop
                    go_wp2_with (first
                      | (go_at_call 63; refine (isSpaceByte_any l[j] _).mono ?_; rintro e w' ⟨rfl, rfl⟩)
                      | (at_builtin; refine app1 tInl (.tmp 106) (.tmp 108) w.heap.size _ (flushB out s b) ho1 ⟨1, 0, [32]⟩ _ rfl rfl rfl rfl rfl rfl (by omega) (by omega) ?_))
                    intro g3 cap3 w3 ho3 hgr3 hat3 hb3
                    go_wp2
                    go_roundw
                    case rel => exact ⟨j, s, [], flushB out s b ++ [⟨1, 0, [32]⟩], by omega, by omega, by omega, by go_num, by go_num, by first | omega | (simp; done) | (simp; omega), by first | omega | (simp; done) | (simp; omega), ho3, Own.nil _ _ _, (hbel.trans hb1).trans hb3, HE⟩
                    case measure => simp [intOf]; omega
                · have i3 : ¬ (j : Int) < (l.length : Int) := by omega
                  have hij : i < j := by omega
                  have hstop : ∀ h : j < l.length, isSp l[j] = false := fun h => absurd h hjlt
                  have HE : Hid (pm (l.drop j) 0 [] s [] (flushB out s b ++ [⟨1, 0, [32]⟩]) = pinl l) := by rw [← hr.out, pm_sp_at l i s b out j hij hjl hrun.out hstop]; exact rfl
                  clear hr hrun hstop
                  go_wp2_with (at_builtin; refine app1 tInl (.tmp 106) (.tmp 108) w.heap.size _ (flushB out s b) ho1 ⟨1, 0, [32]⟩ _ rfl rfl rfl rfl rfl rfl (by omega) (by omega) ?_)
                  intro g3 cap3 w3 ho3 hgr3 hat3 hb3
                  go_wp2
                  go_roundw
                  case rel => exact ⟨j, s, [], flushB out s b ++ [⟨1, 0, [32]⟩], by omega, by omega, by omega, by go_num, by go_num, by first | omega | (simp; done) | (simp; omega), by first | omega | (simp; done) | (simp; omega), ho3, Own.nil _ _ _, (hbel.trans hb1).trans hb3, HE⟩
                  case measure => simp [intOf]; omega
            · have hsp' : isSp l[i] = false := by simpa using hsp
              have HE : Hid (pm (l.drop (i + 1)) 0 [] s (b ++ [l[i]]) out = pinl l) := by rw [← hr.out, pm_char_at l i s b out hlt h92 h42 h96 hsp']; exact rfl
              clear hr hsp
              go_wp2_with (first
                | (go_at_call 63; refine (isSpaceByte_any l[i] _).mono ?_; rintro e w' ⟨rfl, rfl⟩)
                | (at_builtin; refine app1 tByte (.tmp 110) (.tmp 112) w.heap.size _ b hob l[i] _ rfl rfl rfl rfl rfl rfl (by omega) (by omega) ?_))
              intro g1 cap1 w1 ho1 hgr1 hat1 hb1
              go_wp2
              go_roundw
              case rel => exact ⟨i + 1, s, b ++ [l[i]], out, by omega, by omega, by omega, by go_num, by go_num, by first | omega | (simp; done) | (simp; omega), by first | omega | (simp; done) | (simp; omega), hor.apart hob hgr1 (by simp [tByte, tInl]), ho1, hbel.trans hb1, HE⟩
              case measure => simp [intOf]; omega
    · have HN : Hid (pinl l = flushB out s b) := by rw [← hr.out, List.drop_of_length_le (by omega), pm]; exact rfl
      clear hr
      go_wp2_with (go_at_call 67; refine (flushBuf_any out s b _ _ w.heap.size w.heap.size _ (by omega) hor hob (by omega) (by omega)).mono ?_; rintro e w1 ⟨v1, rfl, ho1, hgr1, hb1⟩)
      go_ret
      exact ⟨_, rfl, by rw [HN.out]; exact ho1, hbel.trans hb1⟩
end Go.Proofs.Ybuaaw
