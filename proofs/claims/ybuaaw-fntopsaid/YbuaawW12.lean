import Derived.Test.YbuaawMem3
import Derived.Test.YbuaawPlain5
import Derived.Test.YbuaawW1
namespace Go.Proofs.Ybuaaw
open Go.RowKit
attribute [local go_sem] mk_size mk_toList mk_getElem mk_extract take_len_drop mk_append_lit

theorem flushB_nil (out : List Inl) (s : Int) : flushB out s [] = out := by simp [flushB]
theorem flushB_ne (out : List Inl) (s : Int) (b : List UInt8) (h : b ≠ []) : flushB out s b = out ++ [⟨0, s, b⟩] := by simp [flushB, h]

set_option maxRecDepth 100000 in
set_option maxHeartbeats 8000000 in
theorem parseInline_any (l : List UInt8) (w : World) (hs : l.length ≤ 2147483648) :
    Calls Yaac.prog 29 #[.string (mk l)] w fun e w' => ∃ v', e = .returned v' ∧ Own w' w.heap.size tInl v' (pinl l) ∧ Below w.heap.size w w' := by
  go_enter Yaac.func29, Yaac.ntmps29
  go_wp2
  go_loopw [3, 4, 5, 6] (fun rv sv bv iv wr => ∃ (i : Nat) (s : Int) (b : List UInt8) (out : List Inl), i ≤ l.length ∧ 0 ≤ s ∧ s ≤ 1 ∧ iv = .int .i64 i ∧ sv = .int .i64 s ∧ out.length ≤ 2 * i ∧ b.length ≤ i ∧ Own wr w.heap.size tInl rv out ∧ Own wr w.heap.size tByte bv b ∧ Below w.heap.size w wr ∧ Hid (pm (l.drop i) 0 [] s b out = pinl l)) (fun _ _ _ iv _ => l.length - (intOf iv).toNat)
  case atStart => exact ⟨0, 0, [], [], Nat.zero_le _, by omega, by omega, rfl, rfl, by simp, by simp, Own.nil _ _ _, Own.nil _ _ _, Below.refl _ _, rfl⟩
  case round =>
    obtain ⟨i, s, b, out, hi, hs0, hs1, rfl, rfl, hol, hbl, hor, hob, hbel, hr⟩ := hrel
    obtain ⟨wx, rfl⟩ : ∃ wx : World, wx = wr := ⟨_, rfl⟩
    obtain ⟨ro, rcap, rfl⟩ := hor.shape
    obtain ⟨bo, bcap, rfl⟩ := hob.shape
    have hz := hbel.size
    have hcv := conv_own hob
    by_cases hlt : i < l.length
    · have i1 : (i : Int) < (l.length : Int) := by omega
      by_cases h92 : l[i].toNat = 92
      · have t92 : ((l[i].toNat : Int) == 92) = true := beq_iff_eq.2 (by omega)
        by_cases hi2 : i + 1 < l.length
        · have i2 : (i : Int) + 1 < (l.length : Int) := by omega
          have HE : Hid (pm (l.drop (i + 2)) 0 [] s (b ++ [l[i + 1]]) out = pinl l) := by rw [← hr.out, pm_esc_at l i s b out hi2 h92]; exact rfl
          clear h92 hr
          go_wp2_with (at_builtin; refine app1 tByte (.tmp 24) (.tmp 29) w.heap.size _ b hob l[i + 1] wx.heap.size rfl rfl rfl rfl rfl rfl (by omega) (by omega) ?_)
          intro g1 cap1 w1 ho1 hgr1 hat1 hb1
          go_wp2
          go_roundw
          case rel => exact ⟨i + 2, s, b ++ [l[i + 1]], out, by omega, by omega, by omega, by go_num, by go_num, by first | omega | (simp; done) | (simp; omega), by first | omega | (simp; done) | (simp; omega), hor.apart hob hgr1 (by simp [tByte, tInl]), ho1, hbel.trans hb1, HE⟩
          case measure => simp [intOf]; omega
        · have i2 : ¬ (i : Int) + 1 < (l.length : Int) := by omega
          have HE : Hid (pm (l.drop (i + 1)) 0 [] s (b ++ [92]) out = pinl l) := by rw [← hr.out, pm_esc_end_at l i s b out hlt hi2 h92]; exact rfl
          clear h92 hr
          go_wp2_with (at_builtin; refine app1 tByte (.tmp 33) (.tmp 34) w.heap.size _ b hob 92 wx.heap.size rfl rfl rfl rfl rfl rfl (by omega) (by omega) ?_)
          intro g1 cap1 w1 ho1 hgr1 hat1 hb1
          go_wp2
          go_roundw
          case rel => exact ⟨i + 1, s, b ++ [92], out, by omega, by omega, by omega, by go_num, by go_num, by first | omega | (simp; done) | (simp; omega), by first | omega | (simp; done) | (simp; omega), hor.apart hob hgr1 (by simp [tByte, tInl]), ho1, hbel.trans hb1, HE⟩
          case measure => simp [intOf]; omega
      · have t92 : ((l[i].toNat : Int) == 92) = false := beq_eq_false_iff_ne.2 (by omega)
        by_cases h42 : l[i].toNat = 42
        · have t42 : ((l[i].toNat : Int) == 42) = true := beq_iff_eq.2 (by omega)
          have HE0 : Hid (pm (l.drop (i + 1)) 0 [] (1 - s) [] (flushB out s b) = pinl l) := by rw [← hr.out, pm_star_at l i s b out hlt h42]; exact rfl
          clear h42 hr
          by_cases hb0 : b = []
          · subst hb0
            have HE : Hid (pm (l.drop (i + 1)) 0 [] (1 - s) [] out = pinl l) := by rw [flushB_nil] at HE0; exact HE0
            go_wp2
            go_roundw
            case rel => exact ⟨i + 1, 1 - s, [], out, by omega, by omega, by omega, by go_num, by go_num, by first | omega | (simp; done) | (simp; omega), by first | omega | (simp; done) | (simp; omega), hor, hob, hbel, HE⟩
            case measure => simp [intOf]; omega
          · have hbp : (0 : Int) < (b.length : Int) := by cases b with | nil => exact absurd rfl hb0 | cons _ _ => simp
            have HE : Hid (pm (l.drop (i + 1)) 0 [] (1 - s) [] (out ++ [⟨0, s, b⟩]) = pinl l) := by rw [flushB_ne _ _ _ hb0] at HE0; exact HE0
            clear HE0
            go_wp2_with (at_builtin; refine app1 tInl (.tmp 43) (.tmp 48) w.heap.size _ out hor ⟨0, s, b⟩ wx.heap.size rfl rfl rfl rfl rfl rfl (by omega) (by omega) ?_)
            intro g1 cap1 w1 ho1 hgr1 hat1 hb1
            go_wp2
            go_roundw
            case rel => exact ⟨i + 1, 1 - s, [], out ++ [⟨0, s, b⟩], by omega, by omega, by omega, by go_num, by go_num, by first | omega | (simp; done) | (simp; omega), by first | omega | (simp; done) | (simp; omega), ho1, Own.nil _ _ _, hbel.trans hb1, HE⟩
            case measure => simp [intOf]; omega
        · have t42 : ((l[i].toNat : Int) == 42) = false := beq_eq_false_iff_ne.2 (by omega)
          by_cases h96 : l[i].toNat = 96
          · have t96 : ((l[i].toNat : Int) == 96) = true := beq_iff_eq.2 (by omega)
            have H96 : Hid (l[i].toNat = 96) := h96
            clear h96
            go_wp2
            go_loop [9] (fun jv => ∃ j : Nat, i < j ∧ j ≤ l.length ∧ jv = .int .i64 j ∧ Hid (∀ x (hx : x < l.length), i + 1 ≤ x → x < j → l[x].toNat ≠ 96)) (fun jv => l.length - (intOf jv).toNat)
            case atStart => exact ⟨i + 1, by omega, by omega, by go_num, fun x _ h1 h2 => by omega⟩
            case round =>
              obtain ⟨j, hij, hjl, rfl, hno⟩ := hrel
              by_cases hjlt : j < l.length
              · have i3 : (j : Int) < (l.length : Int) := by omega
                by_cases hj96 : l[j].toNat = 96
                · have tj : ((l[j].toNat : Int) != 96) = false := by simp; omega
                  have HE0 : Hid (pm (l.drop (j + 1)) 0 [] s [] (flushB out s b ++ [⟨2, s, (l.drop (i + 1)).take (j - (i + 1))⟩]) = pinl l) := by rw [← hr.out, pm_code_at l i s b out j hij hjlt H96.out hj96 hno.out]; exact rfl
                  clear hj96 hr hno
                  by_cases hb0 : b = []
                  · subst hb0
                    have HE : Hid (pm (l.drop (j + 1)) 0 [] s [] (out ++ [⟨2, s, (l.drop (i + 1)).take (j - (i + 1))⟩]) = pinl l) := by rw [flushB_nil] at HE0; exact HE0
                    clear HE0
                    go_wp2_with (at_builtin; refine app1 tInl (.tmp 82) (.tmp 90) w.heap.size _ out hor ⟨2, s, (l.drop (i + 1)).take (j - (i + 1))⟩ wx.heap.size rfl rfl rfl rfl rfl rfl (by omega) (by omega) ?_)
                    intro g1 cap1 w1 ho1 hgr1 hat1 hb1
                    go_wp2
                    go_roundw
                    case rel => exact ⟨j + 1, s, [], out ++ [⟨2, s, (l.drop (i + 1)).take (j - (i + 1))⟩], by omega, by omega, by omega, by go_num, by go_num, by first | omega | (simp; done) | (simp; omega), by first | omega | (simp; done) | (simp; omega), ho1, hob.apart hor hgr1 (by simp [tByte, tInl]), hbel.trans hb1, HE⟩
                    case measure => simp [intOf]; omega
                  · have hbp : (0 : Int) < (b.length : Int) := by cases b with | nil => exact absurd rfl hb0 | cons _ _ => simp
                    have HE : Hid (pm (l.drop (j + 1)) 0 [] s [] (out ++ [⟨0, s, b⟩] ++ [⟨2, s, (l.drop (i + 1)).take (j - (i + 1))⟩]) = pinl l) := by rw [flushB_ne _ _ _ hb0] at HE0; exact HE0
                    clear HE0
                    go_wp2_with (at_builtin; refine app1 tInl (.tmp 75) (.tmp 80) w.heap.size _ out hor ⟨0, s, b⟩ wx.heap.size rfl rfl rfl rfl rfl rfl (by omega) (by omega) ?_)
                    intro g1 cap1 w1 ho1 hgr1 hat1 hb1
                    have z1 := hb1.size
                    go_wp2_with (at_builtin; refine app1 tInl (.tmp 82) (.tmp 90) w.heap.size _ (out ++ [⟨0, s, b⟩]) ho1 ⟨2, s, (l.drop (i + 1)).take (j - (i + 1))⟩ w1.heap.size rfl rfl rfl rfl rfl rfl (by simp; omega) (by omega) ?_)
                    intro g2 cap2 w2 ho2 hgr2 hat2 hb2
                    go_wp2
                    go_roundw
                    case rel => exact ⟨j + 1, s, [], out ++ [⟨0, s, b⟩] ++ [⟨2, s, (l.drop (i + 1)).take (j - (i + 1))⟩], by omega, by omega, by omega, by go_num, by go_num, by first | omega | (simp; done) | (simp; omega), by first | omega | (simp; done) | (simp; omega), by simpa using ho2, Own.nil _ _ _, (hbel.trans hb1).trans hb2, HE⟩
                    case measure => simp [intOf]; omega
                · have tj : ((l[j].toNat : Int) != 96) = true := by simp; omega
                  have HN : Hid (∀ x (hx : x < l.length), i + 1 ≤ x → x < j + 1 → l[x].toNat ≠ 96) := fun x hx h1 h2 => by
                    by_cases e : x = j
                    · subst e; exact hj96
                    · exact hno.out x hx h1 (by omega)
                  clear hj96
                  go_wp2
                  go_round
                  case rel => exact ⟨j + 1, by omega, by omega, by go_num, HN⟩
                  case measure => simp [intOf]; omega
              · have i3 : ¬ (j : Int) < (l.length : Int) := by omega
                have HE : Hid (pm (l.drop (i + 1)) 0 [] s (b ++ [96]) out = pinl l) := by rw [← hr.out, pm_tick_no_at l i s b out hlt H96.out (fun x hx h1 => hno.out x hx h1 (by omega))]; exact rfl
                clear hr hno
                go_wp2_with (at_builtin; refine app1 tByte (.tmp 94) (.tmp 95) w.heap.size _ b hob 96 wx.heap.size rfl rfl rfl rfl rfl rfl (by omega) (by omega) ?_)
                intro g1 cap1 w1 ho1 hgr1 hat1 hb1
                go_wp2
                go_roundw
                case rel => exact ⟨i + 1, s, b ++ [96], out, by omega, by omega, by omega, by go_num, by go_num, by first | omega | (simp; done) | (simp; omega), by first | omega | (simp; done) | (simp; omega), hor.apart hob hgr1 (by simp [tByte, tInl]), ho1, hbel.trans hb1, HE⟩
                case measure => simp [intOf]; omega
          · have t96 : ((l[i].toNat : Int) == 96) = false := beq_eq_false_iff_ne.2 (by omega)
            by_cases hsp : isSp l[i] = true
            · have hsp2 : Hid (isSp l[i] = true) := hsp
              have hsx : ∀ x (hx : x < l.length), i ≤ x → x < i + 1 → isSp l[x] = true := fun x hx h1 h2 => by
                have e : x = i := by omega
                subst e; exact hsp
              have HSX : Hid (∀ x (hx : x < l.length), i ≤ x → x < i + 1 → isSp l[x] = true) := hsx
              clear hsx
              by_cases hb0 : b = []
              · subst hb0
                go_wp2_with (go_at_call 60; refine (isSpace_any l[i] _).mono ?_; rintro e w' ⟨rfl, rfl⟩)
                go_loop [6] (fun jv => ∃ j : Nat, i < j + 1 ∧ j ≤ l.length ∧ jv = .int .i64 j ∧ Hid (∀ x (hx : x < l.length), i ≤ x → x < j → isSp l[x] = true)) (fun jv => l.length - (intOf jv).toNat)
                case atStart => exact ⟨i, by omega, by omega, rfl, fun x _ h1 h2 => by omega⟩
                case round =>
                  obtain ⟨j, hij0, hjl, rfl, hrun⟩ := hrel
                  by_cases hjlt : j < l.length
                  · have i3 : (j : Int) < (l.length : Int) := by omega
                    by_cases hspj : isSp l[j] = true
                    · have HN : Hid (∀ x (hx : x < l.length), i ≤ x → x < j + 1 → isSp l[x] = true) := fun x hx h1 h2 => by
                        by_cases e : x = j
                        · subst e; exact hspj
                        · exact hrun.out x hx h1 (by omega)
                      go_wp2_with (go_at_call 60; refine (isSpace_any l[j] _).mono ?_; rintro e w' ⟨rfl, rfl⟩)
                      go_round
                      case rel => exact ⟨j + 1, by omega, by omega, by go_num, HN⟩
                      case measure => simp [intOf]; omega
                    · have hspj' : isSp l[j] = false := by simpa using hspj
                      have hij : i < j := by
                        rcases Nat.lt_or_ge i j with h | h
                        · exact h
                        · have e : j = i := by omega
                          subst e; rw [hsp2.out] at hspj'; cases hspj'
                      have hstop : ∀ h : j < l.length, isSp l[j] = false := fun _ => hspj'
                      clear hspj
                      have HE0 : Hid (pm (l.drop j) 0 [] s [] (flushB out s [] ++ [⟨1, 0, [32]⟩]) = pinl l) := by rw [← hr.out, pm_sp_at l i s [] out j hij hjl hrun.out hstop]; exact rfl
                      have HE : Hid (pm (l.drop j) 0 [] s [] (out ++ [⟨1, 0, [32]⟩]) = pinl l) := by rw [flushB_nil] at HE0; exact HE0
                      clear HE0 hr hrun hstop
                      go_wp2_with (first
                        | (go_at_call 60; refine (isSpace_any l[j] _).mono ?_; rintro e w' ⟨rfl, rfl⟩)
                        | (at_builtin; refine app1 tInl (.tmp 122) (.tmp 124) w.heap.size _ (out) hor ⟨1, 0, [32]⟩ _ rfl rfl rfl rfl rfl rfl (by first | omega | (simp; done) | (simp; omega)) (by omega) ?_))
                      intro g3 cap3 w3 ho3 hgr3 hat3 hb3
                      go_wp2
                      go_roundw
                      case rel => exact ⟨j, s, [], out ++ [⟨1, 0, [32]⟩], by omega, by omega, by omega, by go_num, by go_num, by first | omega | (simp; done) | (simp; omega), by first | omega | (simp; done) | (simp; omega), by first | exact ho3 | simpa using ho3, (hob.apart hor hgr3 (by simp [tByte, tInl])), hbel.trans hb3, HE⟩
                      case measure => simp [intOf]; omega
                  · have i3 : ¬ (j : Int) < (l.length : Int) := by omega
                    have hij : i < j := by omega
                    have hstop : ∀ h : j < l.length, isSp l[j] = false := fun h => absurd h hjlt
                    have HE0 : Hid (pm (l.drop j) 0 [] s [] (flushB out s [] ++ [⟨1, 0, [32]⟩]) = pinl l) := by rw [← hr.out, pm_sp_at l i s [] out j hij hjl hrun.out hstop]; exact rfl
                    have HE : Hid (pm (l.drop j) 0 [] s [] (out ++ [⟨1, 0, [32]⟩]) = pinl l) := by rw [flushB_nil] at HE0; exact HE0
                    clear HE0 hr hrun hstop
                    go_wp2_with (at_builtin; refine app1 tInl (.tmp 122) (.tmp 124) w.heap.size _ (out) hor ⟨1, 0, [32]⟩ _ rfl rfl rfl rfl rfl rfl (by first | omega | (simp; done) | (simp; omega)) (by omega) ?_)
                    intro g3 cap3 w3 ho3 hgr3 hat3 hb3
                    go_wp2
                    go_roundw
                    case rel => exact ⟨j, s, [], out ++ [⟨1, 0, [32]⟩], by omega, by omega, by omega, by go_num, by go_num, by first | omega | (simp; done) | (simp; omega), by first | omega | (simp; done) | (simp; omega), by first | exact ho3 | simpa using ho3, (hob.apart hor hgr3 (by simp [tByte, tInl])), hbel.trans hb3, HE⟩
                    case measure => simp [intOf]; omega
              · have hbp : (0 : Int) < (b.length : Int) := by cases b with | nil => exact absurd rfl hb0 | cons _ _ => simp
                go_wp2_with (first
                  | (go_at_call 60; refine (isSpace_any l[i] _).mono ?_; rintro e w' ⟨rfl, rfl⟩)
                  | (at_builtin; refine app1 tInl (.tmp 104) (.tmp 109) w.heap.size _ out hor ⟨0, s, b⟩ _ rfl rfl rfl rfl rfl rfl (by omega) (by omega) ?_))
                intro g1 cap1 w1 ho1 hgr1 hat1 hb1
                have z1 := hb1.size
                go_wp2
                go_loop [6] (fun jv => ∃ j : Nat, i < j + 1 ∧ j ≤ l.length ∧ jv = .int .i64 j ∧ Hid (∀ x (hx : x < l.length), i ≤ x → x < j → isSp l[x] = true)) (fun jv => l.length - (intOf jv).toNat)
                case atStart => exact ⟨i, by omega, by omega, rfl, fun x _ h1 h2 => by omega⟩
                case round =>
                  obtain ⟨j, hij0, hjl, rfl, hrun⟩ := hrel
                  by_cases hjlt : j < l.length
                  · have i3 : (j : Int) < (l.length : Int) := by omega
                    by_cases hspj : isSp l[j] = true
                    · have HN : Hid (∀ x (hx : x < l.length), i ≤ x → x < j + 1 → isSp l[x] = true) := fun x hx h1 h2 => by
                        by_cases e : x = j
                        · subst e; exact hspj
                        · exact hrun.out x hx h1 (by omega)
                      go_wp2_with (go_at_call 60; refine (isSpace_any l[j] _).mono ?_; rintro e w' ⟨rfl, rfl⟩)
                      go_round
                      case rel => exact ⟨j + 1, by omega, by omega, by go_num, HN⟩
                      case measure => simp [intOf]; omega
                    · have hspj' : isSp l[j] = false := by simpa using hspj
                      have hij : i < j := by
                        rcases Nat.lt_or_ge i j with h | h
                        · exact h
                        · have e : j = i := by omega
                          subst e; rw [hsp2.out] at hspj'; cases hspj'
                      have hstop : ∀ h : j < l.length, isSp l[j] = false := fun _ => hspj'
                      clear hspj
                      have HE0 : Hid (pm (l.drop j) 0 [] s [] (flushB out s b ++ [⟨1, 0, [32]⟩]) = pinl l) := by rw [← hr.out, pm_sp_at l i s b out j hij hjl hrun.out hstop]; exact rfl
                      have HE : Hid (pm (l.drop j) 0 [] s [] (out ++ [⟨0, s, b⟩] ++ [⟨1, 0, [32]⟩]) = pinl l) := by rw [flushB_ne _ _ _ hb0] at HE0; exact HE0
                      clear HE0 hr hrun hstop
                      go_wp2_with (first
                        | (go_at_call 60; refine (isSpace_any l[j] _).mono ?_; rintro e w' ⟨rfl, rfl⟩)
                        | (at_builtin; refine app1 tInl (.tmp 122) (.tmp 124) w.heap.size _ (out ++ [⟨0, s, b⟩]) ho1 ⟨1, 0, [32]⟩ _ rfl rfl rfl rfl rfl rfl (by first | omega | (simp; done) | (simp; omega)) (by omega) ?_))
                      intro g3 cap3 w3 ho3 hgr3 hat3 hb3
                      go_wp2
                      go_roundw
                      case rel => exact ⟨j, s, [], out ++ [⟨0, s, b⟩] ++ [⟨1, 0, [32]⟩], by omega, by omega, by omega, by go_num, by go_num, by first | omega | (simp; done) | (simp; omega), by first | omega | (simp; done) | (simp; omega), by first | exact ho3 | simpa using ho3, Own.nil _ _ _, (hbel.trans hb1).trans hb3, HE⟩
                      case measure => simp [intOf]; omega
                  · have i3 : ¬ (j : Int) < (l.length : Int) := by omega
                    have hij : i < j := by omega
                    have hstop : ∀ h : j < l.length, isSp l[j] = false := fun h => absurd h hjlt
                    have HE0 : Hid (pm (l.drop j) 0 [] s [] (flushB out s b ++ [⟨1, 0, [32]⟩]) = pinl l) := by rw [← hr.out, pm_sp_at l i s b out j hij hjl hrun.out hstop]; exact rfl
                    have HE : Hid (pm (l.drop j) 0 [] s [] (out ++ [⟨0, s, b⟩] ++ [⟨1, 0, [32]⟩]) = pinl l) := by rw [flushB_ne _ _ _ hb0] at HE0; exact HE0
                    clear HE0 hr hrun hstop
                    go_wp2_with (at_builtin; refine app1 tInl (.tmp 122) (.tmp 124) w.heap.size _ (out ++ [⟨0, s, b⟩]) ho1 ⟨1, 0, [32]⟩ _ rfl rfl rfl rfl rfl rfl (by first | omega | (simp; done) | (simp; omega)) (by omega) ?_)
                    intro g3 cap3 w3 ho3 hgr3 hat3 hb3
                    go_wp2
                    go_roundw
                    case rel => exact ⟨j, s, [], out ++ [⟨0, s, b⟩] ++ [⟨1, 0, [32]⟩], by omega, by omega, by omega, by go_num, by go_num, by first | omega | (simp; done) | (simp; omega), by first | omega | (simp; done) | (simp; omega), by first | exact ho3 | simpa using ho3, Own.nil _ _ _, (hbel.trans hb1).trans hb3, HE⟩
                    case measure => simp [intOf]; omega
            · have hsp' : isSp l[i] = false := by simpa using hsp
              have HE : Hid (pm (l.drop (i + 1)) 0 [] s (b ++ [l[i]]) out = pinl l) := by rw [← hr.out, pm_char_at l i s b out hlt h92 h42 h96 hsp']; exact rfl
              clear hr hsp
              go_wp2_with (first
                | (go_at_call 60; refine (isSpace_any l[i] _).mono ?_; rintro e w' ⟨rfl, rfl⟩)
                | (at_builtin; refine app1 tByte (.tmp 126) (.tmp 128) w.heap.size _ b hob l[i] _ rfl rfl rfl rfl rfl rfl (by omega) (by omega) ?_))
              intro g1 cap1 w1 ho1 hgr1 hat1 hb1
              go_wp2
              go_roundw
              case rel => exact ⟨i + 1, s, b ++ [l[i]], out, by omega, by omega, by omega, by go_num, by go_num, by first | omega | (simp; done) | (simp; omega), by first | omega | (simp; done) | (simp; omega), hor.apart hob hgr1 (by simp [tByte, tInl]), ho1, hbel.trans hb1, HE⟩
              case measure => simp [intOf]; omega
    · have HN : Hid (pinl l = flushB out s b) := by rw [← hr.out, List.drop_of_length_le (by omega), pm]; exact rfl
      clear hr
      by_cases hb0 : b = []
      · subst hb0
        go_wp2
        go_ret
        exact ⟨_, rfl, by rw [HN.out, flushB_nil]; exact hor, hbel⟩
      · have hbp : (0 : Int) < (b.length : Int) := by cases b with | nil => exact absurd rfl hb0 | cons _ _ => simp
        go_wp2_with (at_builtin; refine app1 tInl (.tmp 135) (.tmp 140) w.heap.size _ out hor ⟨0, s, b⟩ wx.heap.size rfl rfl rfl rfl rfl rfl (by omega) (by omega) ?_)
        intro g1 cap1 w1 ho1 hgr1 hat1 hb1
        go_wp2
        go_ret
        exact ⟨_, rfl, by rw [HN.out, flushB_ne _ _ _ hb0]; exact ho1, hbel.trans hb1⟩
end Go.Proofs.Ybuaaw
