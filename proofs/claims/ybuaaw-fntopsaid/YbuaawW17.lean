import Derived.Test.YbuaawW16
import Derived.Deep.DeepCutAuto
namespace Go.Proofs.Ybuaaw
open Go.RowKit
attribute [local go_sem] mk_size mk_toList mk_getElem mk_extract take_len_drop mk_append_lit

attribute [local go_sem] take_len_tail
set_option maxRecDepth 100000 in
set_option maxHeartbeats 8000000 in
theorem classify_any (l : List UInt8) (w : World) (hs : l.length ≤ 4294967296) :
    Calls Yaac.prog 24 #[.string (mk l)] w fun e w' => e = .returned (liV (classify l)) ∧ Below w.heap.size w w' := by
  have hmax : ∀ n, n ≤ 4294967296 → n ≤ maxLen := fun n h => by unfold maxLen; omega
  have HMAX : Hid (∀ n, n ≤ 4294967296 → n ≤ maxLen) := hmax
  clear hmax
  have htl := trimB_len l
  by_cases ht : trimB l = []
  · have HC : Hid (classify l = ⟨0, 0, []⟩) := by unfold classify; rw [if_pos ht]; exact rfl
    go_enter Yaac.func24, Yaac.ntmps24
    go_wp2_with (go_at_call 59; refine (trim_any l _ (HMAX.out _ hs)).mono ?_; rw [ht]; rintro e w' ⟨rfl, rfl⟩)
    exact bodyPost_ret (v := liV ⟨0, 0, []⟩) (by simp [results, Yaac.results24, go_sem, liV, mk]) rfl ⟨ret_li HC.out.symm, (Below.refl _ _).alloc (Nat.le_refl _) _⟩
  · have hlp := trimB_ne l ht
    have htp : 0 < (trimB l).length := by cases h : trimB l with | nil => exact absurd h ht | cons _ _ => simp
    have htb : (((trimB l).length : Int) == 0) = false := beq_eq_false_iff_ne.2 (by omega)
    have HT : Hid (¬ trimB l = []) := ht
    clear ht
    go_enter Yaac.func24, Yaac.ntmps24
    go_upto_region 3 with (go_at_call 59; refine (trim_any l _ (HMAX.out _ hs)).mono ?_; rintro e w' ⟨rfl, rfl⟩)
    go_cut [29] (fun hv wc => hv = .bool (ticks l) ∧ wc = w.alloc (.cells #[.int .i64 0, .int .i64 0, .string { data := #[] }] 33))
    case first =>
      by_cases g3 : 3 ≤ l.length
      · have g3' : (3 : Int) ≤ (l.length : Int) := by omega
        have q0 : 0 < l.length := by omega
        have q1 : 1 < l.length := by omega
        have q2 : 2 < l.length := by omega
        have HI : Hid (ticks l = decide (l[0].toNat = 96 ∧ l[1].toNat = 96 ∧ l[2].toNat = 96)) := ticks_at l g3
        by_cases c0 : l[0].toNat = 96
        · have t0 : ((l[0].toNat : Int) == 96) = true := beq_iff_eq.2 (by omega)
          by_cases c1 : l[1].toNat = 96
          · have t1 : ((l[1].toNat : Int) == 96) = true := beq_iff_eq.2 (by omega)
            by_cases c2 : l[2].toNat = 96
            · have t2 : ((l[2].toNat : Int) == 96) = true := beq_iff_eq.2 (by omega)
              have HH : Hid (ticks l = true) := by unfold Hid; rw [HI.out]; exact decide_eq_true ⟨c0, c1, c2⟩
              clear HI c0 c1 c2
              go_wp2
              go_meet
              case rel => exact ⟨by rw [HH.out], rfl⟩
            · have t2 : ((l[2].toNat : Int) == 96) = false := beq_eq_false_iff_ne.2 (by omega)
              have HH : Hid (ticks l = false) := by unfold Hid; rw [HI.out]; exact decide_eq_false (fun h => c2 h.2.2)
              clear HI c0 c1 c2
              go_wp2
              go_meet
              case rel => exact ⟨by rw [HH.out], rfl⟩
          · have t1 : ((l[1].toNat : Int) == 96) = false := beq_eq_false_iff_ne.2 (by omega)
            have HH : Hid (ticks l = false) := by unfold Hid; rw [HI.out]; exact decide_eq_false (fun h => c1 h.2.1)
            clear HI c0 c1
            go_wp2
            go_meet
            case rel => exact ⟨by rw [HH.out], rfl⟩
        · have t0 : ((l[0].toNat : Int) == 96) = false := beq_eq_false_iff_ne.2 (by omega)
          have HH : Hid (ticks l = false) := by unfold Hid; rw [HI.out]; exact decide_eq_false (fun h => c0 h.1)
          clear HI c0
          go_wp2
          go_meet
          case rel => exact ⟨by rw [HH.out], rfl⟩
      · have g3' : ¬ (3 : Int) ≤ (l.length : Int) := by omega
        have HH : Hid (ticks l = false) := ticks_short l g3
        go_wp2
        go_meet
        case rel => exact ⟨by rw [HH.out], rfl⟩
    case rest =>
      obtain ⟨rfl, rfl⟩ := hcut
      cases htk : ticks l with
      | true =>
        have HC : Hid (classify l = ⟨1, 0, []⟩) := by unfold classify; rw [if_neg HT.out, if_pos htk]; exact rfl
        go_wp2
        exact bodyPost_ret (v := liV ⟨1, 0, []⟩) (by simp [results, Yaac.results24, go_sem, liV, mk]) rfl ⟨ret_li HC.out.symm, (Below.refl _ _).alloc (Nat.le_refl _) _⟩
      | false =>
        have HTK : Hid (ticks l = false) := htk
        go_wp2
        clear htk
        go_loop [3] (fun kv => ∃ k : Nat, k ≤ l.length ∧ kv = .int .i64 k ∧ Hid (∀ x (hx : x < l.length), x < k → l[x].toNat = 35)) (fun kv => l.length - (intOf kv).toNat)
        case atStart => exact ⟨0, Nat.zero_le _, rfl, fun x _ h => by omega⟩
        case round =>
          obtain ⟨k, hk, rfl, hrk⟩ := hrel
          by_cases hlt : k < l.length
          · have i1 : (k : Int) < (l.length : Int) := by omega
            by_cases h35 : l[k].toNat = 35
            · have t35 : ((l[k].toNat : Int) == 35) = true := beq_iff_eq.2 (by omega)
              have HN : Hid (∀ x (hx : x < l.length), x < k + 1 → l[x].toNat = 35) := fun x hx h2 => by
                by_cases e : x = k
                · subst e; exact h35
                · exact hrk.out x hx (by omega)
              clear h35
              go_wp2
              go_round
              case rel => exact ⟨k + 1, by omega, by go_num, HN⟩
              case measure => simp [intOf]; omega
            · have t35 : ((l[k].toNat : Int) == 35) = false := beq_eq_false_iff_ne.2 (by omega)
              have HK : Hid (hashes l = k) := hashes_at l k hk hrk.out (fun _ => h35)
              clear hrk h35
              go_upto_region 8 with fail
              go_cut [60] (fun hv wc => hv = .bool (headOk l k) ∧ wc = w.alloc (.cells #[.int .i64 0, .int .i64 0, .string { data := #[] }] 33))
              case first =>
                by_cases g1 : 1 ≤ k
                · have g1' : (1 : Int) ≤ (k : Int) := by omega
                  by_cases g6 : k ≤ 6
                  · have g6' : (k : Int) ≤ 6 := by omega
                    by_cases gl : k < l.length
                    · have gl' : (((l.length : Int) == (k : Int))) = false := beq_eq_false_iff_ne.2 (by omega)
                      have HH : Hid (headOk l k = isSp l[k]) := by unfold headOk Hid; rw [getD_at l k gl, decide_eq_true (⟨g1, g6⟩ : 1 ≤ k ∧ k ≤ 6), decide_eq_false (by omega : ¬ l.length = k)]; simp
                      go_wp2_with (go_at_call 60; refine (isSpace_any l[k] _).mono ?_; rintro e w' ⟨rfl, rfl⟩)
                      all_goals
                        go_meet
                        case rel => exact ⟨by rw [HH.out], rfl⟩
                    · exact absurd hlt gl
                  · have g6' : ¬ (k : Int) ≤ 6 := by omega
                    have HH : Hid (headOk l k = false) := by unfold headOk Hid; rw [decide_eq_false (by omega : ¬ (1 ≤ k ∧ k ≤ 6))]; simp
                    go_wp2
                    go_meet
                    case rel => exact ⟨by rw [HH.out], rfl⟩
                · have g1' : ¬ (1 : Int) ≤ (k : Int) := by omega
                  have HH : Hid (headOk l k = false) := by unfold headOk Hid; rw [decide_eq_false (by omega : ¬ (1 ≤ k ∧ k ≤ 6))]; simp
                  go_wp2
                  go_meet
                  case rel => exact ⟨by rw [HH.out], rfl⟩
              case rest =>
                obtain ⟨rfl, rfl⟩ := hcut
                have hdk : (l.drop k).length ≤ 4294967296 := by simp; omega
                cases hhd : headOk l k with
                | true =>
                  have HC : Hid (classify l = ⟨2, k, trimB (l.drop k)⟩) := by unfold classify; rw [if_neg HT.out, if_neg (by rw [HTK.out]; simp), HK.out, if_pos hhd]; exact rfl
                  go_wp2_with (go_at_call 59; refine (trim_any (l.drop k) _ (HMAX.out _ hdk)).mono ?_; rintro e w' ⟨rfl, rfl⟩)
                  exact bodyPost_ret (v := liV ⟨2, k, trimB (l.drop k)⟩) (by simp [results, Yaac.results24, go_sem, liV, mk]) rfl ⟨ret_li HC.out.symm, (Below.refl _ _).alloc (Nat.le_refl _) _⟩
                | false =>
                  have HHD : Hid (headOk l k = false) := hhd
                  by_cases h3 : 3 ≤ (trimB l).length
                  · have h3' : (3 : Int) ≤ ((trimB l).length : Int) := by omega
                    go_wp2_with (go_at_call 59; refine (trim_any l _ (HMAX.out _ hs)).mono ?_; rintro e w' ⟨rfl, rfl⟩)
                    go_loop [5, 6] (fun bv kv => ∃ j : Nat, j ≤ (trimB l).length ∧ bv = .bool true ∧ kv = .int .i64 j ∧ Hid (dashes ((trimB l).drop j) = dashes (trimB l))) (fun _ kv => (trimB l).length - (intOf kv).toNat)
                    case atStart => exact ⟨0, Nat.zero_le _, rfl, rfl, by unfold Hid; rw [List.drop_zero]⟩
                    case round =>
                      obtain ⟨j, hj, rfl, rfl, hrj⟩ := hrel
                      by_cases hjl : j < (trimB l).length
                      · have i2 : (j : Int) < ((trimB l).length : Int) := by omega
                        by_cases h45 : (trimB l)[j].toNat = 45
                        · have t45' : (((trimB l)[j].toNat : Int) != 45) = false := by rw [bne_eq_false_iff_eq]; omega
                          have HN : Hid (dashes ((trimB l).drop (j + 1)) = dashes (trimB l)) := by unfold Hid; rw [← hrj.out, dashes_at _ j hjl, if_pos h45]
                          clear h45 hrj
                          go_wp2
                          go_round
                          case rel => exact ⟨j + 1, by omega, rfl, by go_num, HN⟩
                          case measure => simp [intOf]; omega
                        · have t45' : (((trimB l)[j].toNat : Int) != 45) = true := by rw [bne_iff_ne]; omega
                          have hda : dashes (trimB l) = false := by rw [← hrj.out, dashes_at _ j hjl, if_neg h45]
                          have HD : Hid (¬ (3 ≤ (trimB l).length ∧ dashes (trimB l) = true)) := fun h => by rw [hda] at h; exact absurd h.2 (by simp)
                          clear hrj hda h45
                          go_upto_region 20 with fail
                          go_cut [96] (fun hv wc => hv = .bool (itemOk l) ∧ wc = w.alloc (.cells #[.int .i64 0, .int .i64 0, .string { data := #[] }] 33))
                          case first =>
                            by_cases g2 : 2 ≤ l.length
                            · have g2' : (2 : Int) ≤ (l.length : Int) := by omega
                              have q0 : 0 < l.length := by omega
                              have q1 : 1 < l.length := by omega
                              have HI : Hid (itemOk l = (decide (l[0].toNat = 45) && isSp l[1])) := itemOk_at l g2
                              by_cases g45 : l[0].toNat = 45
                              · have t45 : ((l[0].toNat : Int) == 45) = true := beq_iff_eq.2 (by omega)
                                have HH : Hid (itemOk l = isSp l[1]) := by unfold Hid; rw [HI.out, decide_eq_true g45]; simp
                                clear g45 HI
                                go_wp2_with (go_at_call 60; refine (isSpace_any l[1] _).mono ?_; rintro e w' ⟨rfl, rfl⟩)
                                all_goals
                                  go_meet
                                  case rel => exact ⟨by rw [HH.out], rfl⟩
                              · have t45 : ((l[0].toNat : Int) == 45) = false := beq_eq_false_iff_ne.2 (by omega)
                                have HH : Hid (itemOk l = false) := by unfold Hid; rw [HI.out, decide_eq_false g45]; simp
                                clear HI
                                go_wp2
                                go_meet
                                case rel => exact ⟨by rw [HH.out], rfl⟩
                            · have g2' : ¬ (2 : Int) ≤ (l.length : Int) := by omega
                              have HH : Hid (itemOk l = false) := itemOk_short l g2
                              go_wp2
                              go_meet
                              case rel => exact ⟨by rw [HH.out], rfl⟩
                          case rest =>
                            obtain ⟨rfl, rfl⟩ := hcut
                            have hd1 : l.tail.length ≤ 4294967296 := by simp; omega
                            have q0 : 0 < l.length := by omega
                            have i1l : (1 : Int) ≤ (l.length : Int) := by omega
                            cases hit : itemOk l with
                            | true =>
                              have HC : Hid (classify l = ⟨4, 0, trimB l.tail⟩) := by unfold classify; rw [if_neg HT.out, if_neg (by rw [HTK.out]; simp), HK.out, if_neg (by rw [HHD.out]; simp), if_neg HD.out, if_pos hit]; exact rfl
                              go_wp2_with (go_at_call 59; refine (trim_any l.tail _ (HMAX.out _ hd1)).mono ?_; rintro e w' ⟨rfl, rfl⟩)
                              exact bodyPost_ret (v := liV ⟨4, 0, trimB l.tail⟩) (by simp [results, Yaac.results24, go_sem, liV, mk]) rfl ⟨ret_li HC.out.symm, (Below.refl _ _).alloc (Nat.le_refl _) _⟩
                            | false =>
                              by_cases h62 : l[0].toNat = 62
                              · have t62 : ((l[0].toNat : Int) == 62) = true := beq_iff_eq.2 (by omega)
                                have HC : Hid (classify l = ⟨5, 0, trimB l.tail⟩) := by unfold classify; rw [if_neg HT.out, if_neg (by rw [HTK.out]; simp), HK.out, if_neg (by rw [HHD.out]; simp), if_neg HD.out, if_neg (by rw [hit]; simp), if_pos (by rw [getD_at l 0 q0]; exact h62)]; exact rfl
                                clear h62
                                go_wp2_with (go_at_call 59; refine (trim_any l.tail _ (HMAX.out _ hd1)).mono ?_; rintro e w' ⟨rfl, rfl⟩)
                                exact bodyPost_ret (v := liV ⟨5, 0, trimB l.tail⟩) (by simp [results, Yaac.results24, go_sem, liV, mk]) rfl ⟨ret_li HC.out.symm, (Below.refl _ _).alloc (Nat.le_refl _) _⟩
                              · have t62 : ((l[0].toNat : Int) == 62) = false := beq_eq_false_iff_ne.2 (by omega)
                                have HC : Hid (classify l = ⟨6, 0, trimB l⟩) := by unfold classify; rw [if_neg HT.out, if_neg (by rw [HTK.out]; simp), HK.out, if_neg (by rw [HHD.out]; simp), if_neg HD.out, if_neg (by rw [hit]; simp), if_neg (by rw [getD_at l 0 q0]; exact h62)]; exact rfl
                                go_wp2
                                exact bodyPost_ret (v := liV ⟨6, 0, trimB l⟩) (by simp [results, Yaac.results24, go_sem, liV, mk]) rfl ⟨ret_li HC.out.symm, (Below.refl _ _).alloc (Nat.le_refl _) _⟩
                      · have i2 : ¬ (j : Int) < ((trimB l).length : Int) := by omega
                        have hda : dashes (trimB l) = true := by rw [← hrj.out, dashes_end _ j (by omega)]
                        have HC : Hid (classify l = ⟨3, 0, []⟩) := by unfold classify; rw [if_neg HT.out, if_neg (by rw [HTK.out]; simp), HK.out, if_neg (by rw [hhd]; simp), if_pos ⟨h3, hda⟩]; exact rfl
                        clear hrj hda
                        go_wp2
                        exact bodyPost_ret (v := liV ⟨3, 0, []⟩) (by simp [results, Yaac.results24, go_sem, liV, mk]) rfl ⟨ret_li HC.out.symm, (Below.refl _ _).alloc (Nat.le_refl _) _⟩
                  · have h3' : ¬ (3 : Int) ≤ ((trimB l).length : Int) := by omega
                    have HD : Hid (¬ (3 ≤ (trimB l).length ∧ dashes (trimB l) = true)) := fun h => h3 h.1
                    go_upto_region 20 with (go_at_call 59; refine (trim_any l _ (HMAX.out _ hs)).mono ?_; rintro e w' ⟨rfl, rfl⟩)
                    go_cut [96] (fun hv wc => hv = .bool (itemOk l) ∧ wc = w.alloc (.cells #[.int .i64 0, .int .i64 0, .string { data := #[] }] 33))
                    case first =>
                      by_cases g2 : 2 ≤ l.length
                      · have g2' : (2 : Int) ≤ (l.length : Int) := by omega
                        have q0 : 0 < l.length := by omega
                        have q1 : 1 < l.length := by omega
                        have HI : Hid (itemOk l = (decide (l[0].toNat = 45) && isSp l[1])) := itemOk_at l g2
                        by_cases g45 : l[0].toNat = 45
                        · have t45 : ((l[0].toNat : Int) == 45) = true := beq_iff_eq.2 (by omega)
                          have HH : Hid (itemOk l = isSp l[1]) := by unfold Hid; rw [HI.out, decide_eq_true g45]; simp
                          clear g45 HI
                          go_wp2_with (go_at_call 60; refine (isSpace_any l[1] _).mono ?_; rintro e w' ⟨rfl, rfl⟩)
                          all_goals
                            go_meet
                            case rel => exact ⟨by rw [HH.out], rfl⟩
                        · have t45 : ((l[0].toNat : Int) == 45) = false := beq_eq_false_iff_ne.2 (by omega)
                          have HH : Hid (itemOk l = false) := by unfold Hid; rw [HI.out, decide_eq_false g45]; simp
                          clear HI
                          go_wp2
                          go_meet
                          case rel => exact ⟨by rw [HH.out], rfl⟩
                      · have g2' : ¬ (2 : Int) ≤ (l.length : Int) := by omega
                        have HH : Hid (itemOk l = false) := itemOk_short l g2
                        go_wp2
                        go_meet
                        case rel => exact ⟨by rw [HH.out], rfl⟩
                    case rest =>
                      obtain ⟨rfl, rfl⟩ := hcut
                      have hd1 : l.tail.length ≤ 4294967296 := by simp; omega
                      have q0 : 0 < l.length := by omega
                      have i1l : (1 : Int) ≤ (l.length : Int) := by omega
                      cases hit : itemOk l with
                      | true =>
                        have HC : Hid (classify l = ⟨4, 0, trimB l.tail⟩) := by unfold classify; rw [if_neg HT.out, if_neg (by rw [HTK.out]; simp), HK.out, if_neg (by rw [HHD.out]; simp), if_neg HD.out, if_pos hit]; exact rfl
                        go_wp2_with (go_at_call 59; refine (trim_any l.tail _ (HMAX.out _ hd1)).mono ?_; rintro e w' ⟨rfl, rfl⟩)
                        exact bodyPost_ret (v := liV ⟨4, 0, trimB l.tail⟩) (by simp [results, Yaac.results24, go_sem, liV, mk]) rfl ⟨ret_li HC.out.symm, (Below.refl _ _).alloc (Nat.le_refl _) _⟩
                      | false =>
                        by_cases h62 : l[0].toNat = 62
                        · have t62 : ((l[0].toNat : Int) == 62) = true := beq_iff_eq.2 (by omega)
                          have HC : Hid (classify l = ⟨5, 0, trimB l.tail⟩) := by unfold classify; rw [if_neg HT.out, if_neg (by rw [HTK.out]; simp), HK.out, if_neg (by rw [HHD.out]; simp), if_neg HD.out, if_neg (by rw [hit]; simp), if_pos (by rw [getD_at l 0 q0]; exact h62)]; exact rfl
                          clear h62
                          go_wp2_with (go_at_call 59; refine (trim_any l.tail _ (HMAX.out _ hd1)).mono ?_; rintro e w' ⟨rfl, rfl⟩)
                          exact bodyPost_ret (v := liV ⟨5, 0, trimB l.tail⟩) (by simp [results, Yaac.results24, go_sem, liV, mk]) rfl ⟨ret_li HC.out.symm, (Below.refl _ _).alloc (Nat.le_refl _) _⟩
                        · have t62 : ((l[0].toNat : Int) == 62) = false := beq_eq_false_iff_ne.2 (by omega)
                          have HC : Hid (classify l = ⟨6, 0, trimB l⟩) := by unfold classify; rw [if_neg HT.out, if_neg (by rw [HTK.out]; simp), HK.out, if_neg (by rw [HHD.out]; simp), if_neg HD.out, if_neg (by rw [hit]; simp), if_neg (by rw [getD_at l 0 q0]; exact h62)]; exact rfl
                          go_wp2
                          exact bodyPost_ret (v := liV ⟨6, 0, trimB l⟩) (by simp [results, Yaac.results24, go_sem, liV, mk]) rfl ⟨ret_li HC.out.symm, (Below.refl _ _).alloc (Nat.le_refl _) _⟩
          · have i1 : ¬ (k : Int) < (l.length : Int) := by omega
            have HK : Hid (hashes l = k) := hashes_at l k hk hrk.out (fun h => absurd h hlt)
            clear hrk
            go_upto_region 8 with fail
            clear i1 hlt
            go_cut [60] (fun hv wc => hv = .bool (headOk l k) ∧ wc = w.alloc (.cells #[.int .i64 0, .int .i64 0, .string { data := #[] }] 33))
            case first =>
              by_cases g1 : 1 ≤ k
              · have g1' : (1 : Int) ≤ (k : Int) := by omega
                by_cases g6 : k ≤ 6
                · have g6' : (k : Int) ≤ 6 := by omega
                  by_cases gl : k < l.length
                  · have gl' : (((l.length : Int) == (k : Int))) = false := beq_eq_false_iff_ne.2 (by omega)
                    have HH : Hid (headOk l k = isSp l[k]) := by unfold headOk Hid; rw [getD_at l k gl, decide_eq_true (⟨g1, g6⟩ : 1 ≤ k ∧ k ≤ 6), decide_eq_false (by omega : ¬ l.length = k)]; simp
                    go_wp2_with (go_at_call 60; refine (isSpace_any l[k] _).mono ?_; rintro e w' ⟨rfl, rfl⟩)
                    all_goals
                      go_meet
                      case rel => exact ⟨by rw [HH.out], rfl⟩
                  · have gl' : (((l.length : Int) == (k : Int))) = true := beq_iff_eq.2 (by omega)
                    have HH : Hid (headOk l k = true) := by unfold headOk Hid; rw [decide_eq_true (⟨g1, g6⟩ : 1 ≤ k ∧ k ≤ 6), decide_eq_true (by omega : l.length = k)]; simp
                    go_wp2
                    go_meet
                    case rel => exact ⟨by rw [HH.out], rfl⟩
                · have g6' : ¬ (k : Int) ≤ 6 := by omega
                  have HH : Hid (headOk l k = false) := by unfold headOk Hid; rw [decide_eq_false (by omega : ¬ (1 ≤ k ∧ k ≤ 6))]; simp
                  go_wp2
                  go_meet
                  case rel => exact ⟨by rw [HH.out], rfl⟩
              · have g1' : ¬ (1 : Int) ≤ (k : Int) := by omega
                have HH : Hid (headOk l k = false) := by unfold headOk Hid; rw [decide_eq_false (by omega : ¬ (1 ≤ k ∧ k ≤ 6))]; simp
                go_wp2
                go_meet
                case rel => exact ⟨by rw [HH.out], rfl⟩
            case rest =>
              obtain ⟨rfl, rfl⟩ := hcut
              have hdk : (l.drop k).length ≤ 4294967296 := by simp; omega
              cases hhd : headOk l k with
              | true =>
                have HC : Hid (classify l = ⟨2, k, trimB (l.drop k)⟩) := by unfold classify; rw [if_neg HT.out, if_neg (by rw [HTK.out]; simp), HK.out, if_pos hhd]; exact rfl
                go_wp2_with (go_at_call 59; refine (trim_any (l.drop k) _ (HMAX.out _ hdk)).mono ?_; rintro e w' ⟨rfl, rfl⟩)
                exact bodyPost_ret (v := liV ⟨2, k, trimB (l.drop k)⟩) (by simp [results, Yaac.results24, go_sem, liV, mk]) rfl ⟨ret_li HC.out.symm, (Below.refl _ _).alloc (Nat.le_refl _) _⟩
              | false =>
                have HHD : Hid (headOk l k = false) := hhd
                by_cases h3 : 3 ≤ (trimB l).length
                · have h3' : (3 : Int) ≤ ((trimB l).length : Int) := by omega
                  go_wp2_with (go_at_call 59; refine (trim_any l _ (HMAX.out _ hs)).mono ?_; rintro e w' ⟨rfl, rfl⟩)
                  go_loop [5, 6] (fun bv kv => ∃ j : Nat, j ≤ (trimB l).length ∧ bv = .bool true ∧ kv = .int .i64 j ∧ Hid (dashes ((trimB l).drop j) = dashes (trimB l))) (fun _ kv => (trimB l).length - (intOf kv).toNat)
                  case atStart => exact ⟨0, Nat.zero_le _, rfl, rfl, by unfold Hid; rw [List.drop_zero]⟩
                  case round =>
                    obtain ⟨j, hj, rfl, rfl, hrj⟩ := hrel
                    by_cases hjl : j < (trimB l).length
                    · have i2 : (j : Int) < ((trimB l).length : Int) := by omega
                      by_cases h45 : (trimB l)[j].toNat = 45
                      · have t45' : (((trimB l)[j].toNat : Int) != 45) = false := by rw [bne_eq_false_iff_eq]; omega
                        have HN : Hid (dashes ((trimB l).drop (j + 1)) = dashes (trimB l)) := by unfold Hid; rw [← hrj.out, dashes_at _ j hjl, if_pos h45]
                        clear h45 hrj
                        go_wp2
                        go_round
                        case rel => exact ⟨j + 1, by omega, rfl, by go_num, HN⟩
                        case measure => simp [intOf]; omega
                      · have t45' : (((trimB l)[j].toNat : Int) != 45) = true := by rw [bne_iff_ne]; omega
                        have hda : dashes (trimB l) = false := by rw [← hrj.out, dashes_at _ j hjl, if_neg h45]
                        have HD : Hid (¬ (3 ≤ (trimB l).length ∧ dashes (trimB l) = true)) := fun h => by rw [hda] at h; exact absurd h.2 (by simp)
                        clear hrj hda h45
                        go_upto_region 20 with fail
                        go_cut [96] (fun hv wc => hv = .bool (itemOk l) ∧ wc = w.alloc (.cells #[.int .i64 0, .int .i64 0, .string { data := #[] }] 33))
                        case first =>
                          by_cases g2 : 2 ≤ l.length
                          · have g2' : (2 : Int) ≤ (l.length : Int) := by omega
                            have q0 : 0 < l.length := by omega
                            have q1 : 1 < l.length := by omega
                            have HI : Hid (itemOk l = (decide (l[0].toNat = 45) && isSp l[1])) := itemOk_at l g2
                            by_cases g45 : l[0].toNat = 45
                            · have t45 : ((l[0].toNat : Int) == 45) = true := beq_iff_eq.2 (by omega)
                              have HH : Hid (itemOk l = isSp l[1]) := by unfold Hid; rw [HI.out, decide_eq_true g45]; simp
                              clear g45 HI
                              go_wp2_with (go_at_call 60; refine (isSpace_any l[1] _).mono ?_; rintro e w' ⟨rfl, rfl⟩)
                              all_goals
                                go_meet
                                case rel => exact ⟨by rw [HH.out], rfl⟩
                            · have t45 : ((l[0].toNat : Int) == 45) = false := beq_eq_false_iff_ne.2 (by omega)
                              have HH : Hid (itemOk l = false) := by unfold Hid; rw [HI.out, decide_eq_false g45]; simp
                              clear HI
                              go_wp2
                              go_meet
                              case rel => exact ⟨by rw [HH.out], rfl⟩
                          · have g2' : ¬ (2 : Int) ≤ (l.length : Int) := by omega
                            have HH : Hid (itemOk l = false) := itemOk_short l g2
                            go_wp2
                            go_meet
                            case rel => exact ⟨by rw [HH.out], rfl⟩
                        case rest =>
                          obtain ⟨rfl, rfl⟩ := hcut
                          have hd1 : l.tail.length ≤ 4294967296 := by simp; omega
                          have q0 : 0 < l.length := by omega
                          have i1l : (1 : Int) ≤ (l.length : Int) := by omega
                          cases hit : itemOk l with
                          | true =>
                            have HC : Hid (classify l = ⟨4, 0, trimB l.tail⟩) := by unfold classify; rw [if_neg HT.out, if_neg (by rw [HTK.out]; simp), HK.out, if_neg (by rw [HHD.out]; simp), if_neg HD.out, if_pos hit]; exact rfl
                            go_wp2_with (go_at_call 59; refine (trim_any l.tail _ (HMAX.out _ hd1)).mono ?_; rintro e w' ⟨rfl, rfl⟩)
                            exact bodyPost_ret (v := liV ⟨4, 0, trimB l.tail⟩) (by simp [results, Yaac.results24, go_sem, liV, mk]) rfl ⟨ret_li HC.out.symm, (Below.refl _ _).alloc (Nat.le_refl _) _⟩
                          | false =>
                            by_cases h62 : l[0].toNat = 62
                            · have t62 : ((l[0].toNat : Int) == 62) = true := beq_iff_eq.2 (by omega)
                              have HC : Hid (classify l = ⟨5, 0, trimB l.tail⟩) := by unfold classify; rw [if_neg HT.out, if_neg (by rw [HTK.out]; simp), HK.out, if_neg (by rw [HHD.out]; simp), if_neg HD.out, if_neg (by rw [hit]; simp), if_pos (by rw [getD_at l 0 q0]; exact h62)]; exact rfl
                              clear h62
                              go_wp2_with (go_at_call 59; refine (trim_any l.tail _ (HMAX.out _ hd1)).mono ?_; rintro e w' ⟨rfl, rfl⟩)
                              exact bodyPost_ret (v := liV ⟨5, 0, trimB l.tail⟩) (by simp [results, Yaac.results24, go_sem, liV, mk]) rfl ⟨ret_li HC.out.symm, (Below.refl _ _).alloc (Nat.le_refl _) _⟩
                            · have t62 : ((l[0].toNat : Int) == 62) = false := beq_eq_false_iff_ne.2 (by omega)
                              have HC : Hid (classify l = ⟨6, 0, trimB l⟩) := by unfold classify; rw [if_neg HT.out, if_neg (by rw [HTK.out]; simp), HK.out, if_neg (by rw [HHD.out]; simp), if_neg HD.out, if_neg (by rw [hit]; simp), if_neg (by rw [getD_at l 0 q0]; exact h62)]; exact rfl
                              go_wp2
                              exact bodyPost_ret (v := liV ⟨6, 0, trimB l⟩) (by simp [results, Yaac.results24, go_sem, liV, mk]) rfl ⟨ret_li HC.out.symm, (Below.refl _ _).alloc (Nat.le_refl _) _⟩
                    · have i2 : ¬ (j : Int) < ((trimB l).length : Int) := by omega
                      have hda : dashes (trimB l) = true := by rw [← hrj.out, dashes_end _ j (by omega)]
                      have HC : Hid (classify l = ⟨3, 0, []⟩) := by unfold classify; rw [if_neg HT.out, if_neg (by rw [HTK.out]; simp), HK.out, if_neg (by rw [hhd]; simp), if_pos ⟨h3, hda⟩]; exact rfl
                      clear hrj hda
                      go_wp2
                      exact bodyPost_ret (v := liV ⟨3, 0, []⟩) (by simp [results, Yaac.results24, go_sem, liV, mk]) rfl ⟨ret_li HC.out.symm, (Below.refl _ _).alloc (Nat.le_refl _) _⟩
                · have h3' : ¬ (3 : Int) ≤ ((trimB l).length : Int) := by omega
                  have HD : Hid (¬ (3 ≤ (trimB l).length ∧ dashes (trimB l) = true)) := fun h => h3 h.1
                  go_upto_region 20 with (go_at_call 59; refine (trim_any l _ (HMAX.out _ hs)).mono ?_; rintro e w' ⟨rfl, rfl⟩)
                  go_cut [96] (fun hv wc => hv = .bool (itemOk l) ∧ wc = w.alloc (.cells #[.int .i64 0, .int .i64 0, .string { data := #[] }] 33))
                  case first =>
                    by_cases g2 : 2 ≤ l.length
                    · have g2' : (2 : Int) ≤ (l.length : Int) := by omega
                      have q0 : 0 < l.length := by omega
                      have q1 : 1 < l.length := by omega
                      have HI : Hid (itemOk l = (decide (l[0].toNat = 45) && isSp l[1])) := itemOk_at l g2
                      by_cases g45 : l[0].toNat = 45
                      · have t45 : ((l[0].toNat : Int) == 45) = true := beq_iff_eq.2 (by omega)
                        have HH : Hid (itemOk l = isSp l[1]) := by unfold Hid; rw [HI.out, decide_eq_true g45]; simp
                        clear g45 HI
                        go_wp2_with (go_at_call 60; refine (isSpace_any l[1] _).mono ?_; rintro e w' ⟨rfl, rfl⟩)
                        all_goals
                          go_meet
                          case rel => exact ⟨by rw [HH.out], rfl⟩
                      · have t45 : ((l[0].toNat : Int) == 45) = false := beq_eq_false_iff_ne.2 (by omega)
                        have HH : Hid (itemOk l = false) := by unfold Hid; rw [HI.out, decide_eq_false g45]; simp
                        clear HI
                        go_wp2
                        go_meet
                        case rel => exact ⟨by rw [HH.out], rfl⟩
                    · have g2' : ¬ (2 : Int) ≤ (l.length : Int) := by omega
                      have HH : Hid (itemOk l = false) := itemOk_short l g2
                      go_wp2
                      go_meet
                      case rel => exact ⟨by rw [HH.out], rfl⟩
                  case rest =>
                    obtain ⟨rfl, rfl⟩ := hcut
                    have hd1 : l.tail.length ≤ 4294967296 := by simp; omega
                    have q0 : 0 < l.length := by omega
                    have i1l : (1 : Int) ≤ (l.length : Int) := by omega
                    cases hit : itemOk l with
                    | true =>
                      have HC : Hid (classify l = ⟨4, 0, trimB l.tail⟩) := by unfold classify; rw [if_neg HT.out, if_neg (by rw [HTK.out]; simp), HK.out, if_neg (by rw [HHD.out]; simp), if_neg HD.out, if_pos hit]; exact rfl
                      go_wp2_with (go_at_call 59; refine (trim_any l.tail _ (HMAX.out _ hd1)).mono ?_; rintro e w' ⟨rfl, rfl⟩)
                      exact bodyPost_ret (v := liV ⟨4, 0, trimB l.tail⟩) (by simp [results, Yaac.results24, go_sem, liV, mk]) rfl ⟨ret_li HC.out.symm, (Below.refl _ _).alloc (Nat.le_refl _) _⟩
                    | false =>
                      by_cases h62 : l[0].toNat = 62
                      · have t62 : ((l[0].toNat : Int) == 62) = true := beq_iff_eq.2 (by omega)
                        have HC : Hid (classify l = ⟨5, 0, trimB l.tail⟩) := by unfold classify; rw [if_neg HT.out, if_neg (by rw [HTK.out]; simp), HK.out, if_neg (by rw [HHD.out]; simp), if_neg HD.out, if_neg (by rw [hit]; simp), if_pos (by rw [getD_at l 0 q0]; exact h62)]; exact rfl
                        clear h62
                        go_wp2_with (go_at_call 59; refine (trim_any l.tail _ (HMAX.out _ hd1)).mono ?_; rintro e w' ⟨rfl, rfl⟩)
                        exact bodyPost_ret (v := liV ⟨5, 0, trimB l.tail⟩) (by simp [results, Yaac.results24, go_sem, liV, mk]) rfl ⟨ret_li HC.out.symm, (Below.refl _ _).alloc (Nat.le_refl _) _⟩
                      · have t62 : ((l[0].toNat : Int) == 62) = false := beq_eq_false_iff_ne.2 (by omega)
                        have HC : Hid (classify l = ⟨6, 0, trimB l⟩) := by unfold classify; rw [if_neg HT.out, if_neg (by rw [HTK.out]; simp), HK.out, if_neg (by rw [HHD.out]; simp), if_neg HD.out, if_neg (by rw [hit]; simp), if_neg (by rw [getD_at l 0 q0]; exact h62)]; exact rfl
                        go_wp2
                        exact bodyPost_ret (v := liV ⟨6, 0, trimB l⟩) (by simp [results, Yaac.results24, go_sem, liV, mk]) rfl ⟨ret_li HC.out.symm, (Below.refl _ _).alloc (Nat.le_refl _) _⟩
end Go.Proofs.Ybuaaw
