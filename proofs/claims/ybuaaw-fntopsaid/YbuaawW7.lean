import Derived.Test.YbuaawMem2
import Derived.Test.YbuaawPlain2
namespace Go.Proofs.Ybuaaw
open Go.RowKit
attribute [local go_sem] mk_size mk_toList mk_getElem mk_extract take_len_drop mk_append_lit

theorem cGo_one (ps acc : List Inl) (k : Nat) (hk : k < ps.length) (p : Inl) (hp : ps[k] = p) (h : ¬ (p.kind ≠ 1 ∧ p.text = [])) : cGo (ps.drop k) acc = cGo (ps.drop (k + 1)) (acc ++ [canonP p]) := by
  rw [cGo_at ps acc k hk, hp, if_neg h]
theorem cGo_none (ps acc : List Inl) (k : Nat) (hk : k < ps.length) (p : Inl) (hp : ps[k] = p) (h : p.kind ≠ 1 ∧ p.text = []) : cGo (ps.drop k) acc = cGo (ps.drop (k + 1)) acc := by
  rw [cGo_at ps acc k hk, hp, if_pos h]

theorem cGo_size (ps acc : List Inl) : (cGo ps acc).length ≤ acc.length + ps.length ∧ tlen (cGo ps acc) ≤ tlen acc + tlen ps + ps.length := by
  induction ps generalizing acc with
  | nil => simp [cGo, tlen]
  | cons p ps ih =>
    rw [cGo]
    split
    · have := ih acc; simp only [List.length_cons, tlen]; omega
    · have := ih (acc ++ [canonP p])
      have e1 : tlen (acc ++ [canonP p]) ≤ tlen acc + p.text.length + 1 := by
        rw [tlen_append]; simp only [tlen, canonP]; split <;> simp; split <;> simp
      simp only [List.length_cons, tlen, List.length_append, List.length_nil] at this ⊢
      omega

set_option maxRecDepth 100000 in
set_option maxHeartbeats 4000000 in
theorem normalizeS_any (ps : List Inl) (v : Value) (B : Nat) (w : World) (hB : B ≤ w.heap.size) (h1 : Rdd w B tInl v ps) (hs : ps.length ≤ 2147483648) (ht : tlen ps ≤ 2147483648) :
    Calls Yaac.prog 33 #[v] w fun e w' => ∃ v', e = .returned v' ∧ OwnR w' w.heap.size tInl v' (norm ps) ∧ Below w.heap.size w w' := by
  obtain ⟨a1, c1, rfl, _, _⟩ := h1.shape
  go_enter Yaac.func33, Yaac.ntmps33
  go_wp2
  go_loopw [3, 4] (fun rv i wr => ∃ (k : Nat) (acc : List Inl), k ≤ ps.length ∧ i = .int .i64 k ∧ acc.length ≤ k ∧ Own wr w.heap.size tInl rv acc ∧ Below w.heap.size w wr ∧ Hid (cGo (ps.drop k) acc = canon ps)) (fun _ i _ => ps.length - (intOf i).toNat)
  case atStart => exact ⟨0, [], Nat.zero_le _, rfl, by simp, Own.nil _ _ _, Below.refl _ _, rfl⟩
  case round =>
    obtain ⟨k, acc, hk, rfl, hacc, hown, hbel, hr⟩ := hrel
    obtain ⟨ao, cap, rfl⟩ := hown.shape
    have hz := hbel.size
    by_cases hlt : k < ps.length
    · obtain ⟨b1, o1, rfl, hb1, hc1⟩ := (h1.below (hbel.mono hB)).inl k hlt
      obtain ⟨d1, d2, d3⟩ := hc1 k hlt
      clear hc1
      have i1 : (k : Int) < (ps.length : Int) := by omega
      have hone := cGo_one ps acc k hlt
      have hnone := cGo_none ps acc k hlt
      have HO : Hid (∀ p, ps[k] = p → ¬ (p.kind ≠ 1 ∧ p.text = []) → cGo (ps.drop (k + 1)) (acc ++ [canonP p]) = canon ps) := fun p hp h => by rw [← hone p hp h]; exact hr
      have HNN : Hid (∀ p, ps[k] = p → (p.kind ≠ 1 ∧ p.text = []) → cGo (ps.drop (k + 1)) acc = canon ps) := fun p hp h => by rw [← hnone p hp h]; exact hr
      clear hone hnone hr
      generalize ps[k] = p at *
      obtain ⟨kd, sty, txt⟩ := p
      simp only at d1 d2 d3
      by_cases hk1 : kd = 1
      · subst hk1
        have HE : Hid (cGo (ps.drop (k + 1)) (acc ++ [⟨1, 0, [32]⟩]) = canon ps) := HO.out _ rfl (by simp)
        clear HO HNN
        go_wp2_with (at_builtin; refine app1 tInl (.tmp 50) (.tmp 52) w.heap.size _ acc ((hown.alloc _).alloc _) ⟨1, 0, [32]⟩ (wr.heap.size + 1 + 1) (by simp) rfl rfl rfl rfl rfl (by omega) (by simp; omega) ?_)
        intro g2 cap2 w2 ho2 hgr2 hat2 hb2
        go_wp2
        go_roundw
        case rel => exact ⟨k + 1, acc ++ [⟨1, 0, [32]⟩], by omega, by go_num, by simp; omega, ho2, hbel.trans ((((Below.refl _ _).alloc hz _).alloc (by simp; omega) _).trans hb2), HE⟩
        case measure => simp [intOf]; omega
      · have hk1c : (kd == 1) = false := beq_eq_false_iff_ne.2 hk1
        by_cases hk2 : kd = 2
        · subst hk2
          by_cases htx : txt = []
          · subst htx
            have HE : Hid (cGo (ps.drop (k + 1)) acc = canon ps) := HNN.out _ rfl ⟨by simp, rfl⟩
            clear HO HNN
            go_wp2
            go_roundw
            case rel => exact ⟨k + 1, acc, by omega, by go_num, by omega, (hown.alloc _).alloc _, hbel.trans (((Below.refl _ _).alloc hz _).alloc (by simp; omega) _), HE⟩
            case measure => simp [intOf]; omega
          · have htb : (txt == []) = false := by simpa using htx
            have htb2 : txt.isEmpty = false := by simpa using htx
            have HE : Hid (cGo (ps.drop (k + 1)) (acc ++ [⟨2, 0, txt⟩]) = canon ps) := by have := HO.out _ rfl (by simp [htx]); simp only [canonP, if_true, show ¬ ((2 : Int) = 1) by omega, if_false] at this; exact this
            clear HO HNN
            go_wp2_with (at_builtin; refine app1 tInl (.tmp 50) (.tmp 52) w.heap.size _ acc ((hown.alloc _).alloc _) ⟨2, 0, txt⟩ (wr.heap.size + 1 + 1) (by simp) rfl rfl rfl rfl rfl (by omega) (by simp; omega) ?_)
            intro g2 cap2 w2 ho2 hgr2 hat2 hb2
            go_wp2
            go_roundw
            case rel => exact ⟨k + 1, acc ++ [⟨2, 0, txt⟩], by omega, by go_num, by simp; omega, ho2, hbel.trans ((((Below.refl _ _).alloc hz _).alloc (by simp; omega) _).trans hb2), HE⟩
            case measure => simp [intOf]; omega
        · have hk2b : (kd == 2) = false := beq_eq_false_iff_ne.2 hk2
          by_cases hsty : sty = 0
          · subst hsty
            by_cases htx : txt = []
            · subst htx
              have HE : Hid (cGo (ps.drop (k + 1)) acc = canon ps) := HNN.out _ rfl ⟨hk1, rfl⟩
              clear HO HNN
              go_wp2
              go_roundw
              case rel => exact ⟨k + 1, acc, by omega, by go_num, by omega, (hown.alloc _).alloc _, hbel.trans (((Below.refl _ _).alloc hz _).alloc (by simp; omega) _), HE⟩
              case measure => simp [intOf]; omega
            · have htb : (txt == []) = false := by simpa using htx
              have htb2 : txt.isEmpty = false := by simpa using htx
              have HE : Hid (cGo (ps.drop (k + 1)) (acc ++ [⟨0, 0, txt⟩]) = canon ps) := by have := HO.out _ rfl (by simp [htx]); simp only [canonP, if_neg hk1, if_neg hk2, st01, if_true] at this; exact this
              clear HO HNN
              go_wp2_with (at_builtin; refine app1 tInl (.tmp 50) (.tmp 52) w.heap.size _ acc ((hown.alloc _).alloc _) ⟨0, 0, txt⟩ (wr.heap.size + 1 + 1) (by simp) rfl rfl rfl rfl rfl (by omega) (by simp; omega) ?_)
              intro g2 cap2 w2 ho2 hgr2 hat2 hb2
              go_wp2
              go_roundw
              case rel => exact ⟨k + 1, acc ++ [⟨0, 0, txt⟩], by omega, by go_num, by simp; omega, ho2, hbel.trans ((((Below.refl _ _).alloc hz _).alloc (by simp; omega) _).trans hb2), HE⟩
              case measure => simp [intOf]; omega
          · have hstb : (sty != 0) = true := by simp [hsty]
            by_cases htx : txt = []
            · subst htx
              have HE : Hid (cGo (ps.drop (k + 1)) acc = canon ps) := HNN.out _ rfl ⟨hk1, rfl⟩
              clear HO HNN
              go_wp2
              go_roundw
              case rel => exact ⟨k + 1, acc, by omega, by go_num, by omega, (hown.alloc _).alloc _, hbel.trans (((Below.refl _ _).alloc hz _).alloc (by simp; omega) _), HE⟩
              case measure => simp [intOf]; omega
            · have htb : (txt == []) = false := by simpa using htx
              have htb2 : txt.isEmpty = false := by simpa using htx
              have HE : Hid (cGo (ps.drop (k + 1)) (acc ++ [⟨0, 1, txt⟩]) = canon ps) := by have := HO.out _ rfl (by simp [htx]); simp only [canonP, if_neg hk1, if_neg hk2, st01, if_neg hsty] at this; exact this
              clear HO HNN
              go_wp2_with (at_builtin; refine app1 tInl (.tmp 50) (.tmp 52) w.heap.size _ acc ((hown.alloc _).alloc _) ⟨0, 1, txt⟩ (wr.heap.size + 1 + 1) (by simp) rfl rfl rfl rfl rfl (by omega) (by simp; omega) ?_)
              intro g2 cap2 w2 ho2 hgr2 hat2 hb2
              go_wp2
              go_roundw
              case rel => exact ⟨k + 1, acc ++ [⟨0, 1, txt⟩], by omega, by go_num, by simp; omega, ho2, hbel.trans ((((Below.refl _ _).alloc hz _).alloc (by simp; omega) _).trans hb2), HE⟩
              case measure => simp [intOf]; omega
    · have hcn : Hid (canon ps = acc) := by rw [← hr.out, List.drop_of_length_le (by omega)]; exact rfl
      have hcan : Canon acc := by rw [← hcn.out]; exact canon_canon ps
      have hsz := cGo_size ps []
      simp only [tlen, List.length_nil, Nat.zero_add] at hsz
      have htal : tlen acc ≤ 4294967296 := by rw [← hcn.out]; unfold canon; omega
      have HNG : Hid (nGo acc [] none = nGo ps [] none) := by rw [← hcn.out]; exact nGo_canon ps [] none
      clear hr hcn hsz
      obtain ⟨wo, rfl⟩ : ∃ wo : World, wo = wr := ⟨_, rfl⟩
      have hra := hown.rdd
      generalize acc = al at *
      go_wp2
      go_loopw [8, 9] (fun bv i wr => ∃ (m : Nat) (res : List Inl), m ≤ al.length ∧ i = .int .i64 m ∧ res.length ≤ m ∧ Own wr wo.heap.size tInl bv res ∧ Below wo.heap.size wo wr ∧ Hid (lastSp res = true → ∀ h : m < al.length, al[m].kind ≠ 1) ∧ Hid (nGo (al.drop m) res none = nGo al [] none)) (fun _ i _ => al.length - (intOf i).toNat)
      case atStart => exact ⟨0, [], Nat.zero_le _, rfl, by simp, Own.nil _ _ _, Below.refl _ _, fun h => by simp [lastSp] at h, rfl⟩
      case round =>
        obtain ⟨m, res, hm, rfl, hres, hob, hbo, hsp, hr⟩ := hrel
        obtain ⟨bo, bcap, rfl⟩ := hob.shape
        have hzo := hbo.size
        obtain ⟨wx, rfl⟩ : ∃ wx : World, wx = wr := ⟨_, rfl⟩
        by_cases hlm : m < al.length
        · obtain ⟨b1, o1, rfl, hb1, hc1⟩ := (hra.below hbo).inl m hlm
          obtain ⟨d1, d2, d3⟩ := hc1 m hlm
          have i1 : (m : Int) < (al.length : Int) := by omega
          by_cases hk0 : al[m].kind = 0
          · have hst0 := Run0.start hlm hk0
            have hk0b : (al[m].kind == 0) = true := beq_iff_eq.2 hk0
            clear hk0 hc1
            go_wp2
            go_loopw [11] (fun jv wr => ∃ j : Nat, m < j ∧ j ≤ al.length ∧ jv = .int .i64 j ∧ Hid (Run0 al m j al[m].style) ∧ Below wx.heap.size wx wr ∧ wr.cell? ⟨wx.heap.size, 1, none⟩ = some (.int .i64 al[m].style) ∧ wx.heap.size < wr.heap.size) (fun jv _ => al.length - (intOf jv).toNat)
            case atStart => exact ⟨m + 1, by omega, by omega, by go_num, hst0, (Below.refl _ _).alloc (Nat.le_refl _) _, by simp, by simp⟩
            case round =>
              obtain ⟨j, hj1, hj2, rfl, hrun, hby, hcy, hzy⟩ := hrel
              obtain ⟨wy, rfl⟩ : ∃ wy : World, wy = wr := ⟨_, rfl⟩
              by_cases hjl : j < al.length
              · obtain ⟨b2, o2, he, _, hc2⟩ := (hra.below (hbo.trans (hby.mono hzo))).inl j hjl
                cases he
                obtain ⟨e1, e2, e3⟩ := hc2 j hjl
                clear hc2 e3
                have i2 : (j : Int) < (al.length : Int) := by omega
                have i2b : decide ((j : Int) < (al.length : Int)) = true := decide_eq_true i2
                by_cases hkj : al[j].kind = 0
                · have hkjb : (al[j].kind == 0) = true := beq_iff_eq.2 hkj
                  by_cases hsj : al[j].style = al[m].style
                  · have hsjb : (al[j].style == al[m].style) = true := beq_iff_eq.2 hsj
                    have HR : Hid (Run0 al m (j + 1) al[m].style) := Run0.next hrun.out hjl hkj hsj
                    clear hkj hsj
                    go_wp2
                    go_quiet (fail)
                    go_wp2
                    go_roundw
                    case rel => exact ⟨j + 1, by omega, by omega, by go_num, HR, below_drewN hby _, by simpa using hcy, by simpa using hzy⟩
                    case measure => simp [intOf]; omega
                  · have hsjb : (al[j].style == al[m].style) = false := beq_eq_false_iff_ne.2 hsj
                    have hstop : Hid (∀ h : j < al.length, ¬ (al[j].kind = 0 ∧ al[j].style = al[m].style)) := fun _ h => hsj h.2
                    clear hkj
                    have HE : Hid (nGo (al.drop j) (res ++ [⟨0, al[m].style, runText al m j⟩]) none = nGo al [] none) := by rw [← run_text al res hcan m j al[m].style hj1 hj2 hrun.out hstop.out]; exact hr
                    have HL : Hid (lastSp (res ++ [⟨0, al[m].style, runText al m j⟩]) = true → ∀ h : j < al.length, al[j].kind ≠ 1) := fun h => by rw [lastSp_snoc] at h; simp at h
                    clear hr hsp hstop hrun
                    go_wp2
                    go_quiet (fail)
                    go_wp2
                    go_loopw [12, 13] (fun bufv kv wr => ∃ kk : Nat, m ≤ kk ∧ kk ≤ j ∧ kv = .int .i64 kk ∧ Own wr wy.heap.size tByte bufv (runText al m kk) ∧ Below wy.heap.size wy wr) (fun _ kv _ => j - (intOf kv).toNat)
                    case atStart => exact ⟨m, Nat.le_refl _, by omega, rfl, by rw [runText_self]; exact Own.nil _ _ _, below_drewN (Below.refl _ _) _⟩
                    case round =>
                      obtain ⟨kk, hk1, hk2, rfl, hobuf, hbz⟩ := hrel
                      obtain ⟨fo, fcap, rfl⟩ := hobuf.shape
                      have hzz := hbz.size
                      by_cases hkj : kk < j
                      · have hkl : kk < al.length := by omega
                        have hck := (((hra.below (hbo.trans (hby.mono hzo))).below (hbz.mono (by omega))).inl kk hkl)
                        obtain ⟨b2, o2, he, _, hc2⟩ := hck
                        cases he
                        have e3 := (hc2 kk hkl).2.2
                        clear hc2
                        have i3 : (kk : Int) < (al.length : Int) := by omega
                        have i4 : (kk : Int) < (j : Int) := by omega
                        have hln := runText_len al m (kk + 1)
                        rw [runText_succ al m kk hk1 hkl, List.length_append] at hln
                        go_wp2_with (at_builtin; refine appS (.tmp 97) (.tmp 102) wy.heap.size _ (runText al m kk) hobuf al[kk].text rfl rfl rfl rfl (by omega) (by omega) ?_)
                        intro ao2 cap2 w2 ho2 hgr2 hb2
                        go_wp2
                        go_roundw
                        case rel => exact ⟨kk + 1, by omega, by omega, by go_num, by rw [runText_succ al m kk hk1 hkl]; exact ho2, hbz.trans hb2⟩
                        case measure => simp [intOf]; omega
                      · have ek : kk = j := by omega
                        subst ek
                        have hcv := conv_own hobuf
                        have hcs : wr.cell? ⟨wx.heap.size, 1, none⟩ = some (.int .i64 al[m].style) := (hbz.cell (p := ⟨wx.heap.size, 1, none⟩) (by simp; omega)).trans hcy
                        have hobz := (hob.below hby).below hbz
                        clear hcy
                        go_wp2_with (at_builtin; refine app1 tInl (.tmp 104) (.tmp 110) wo.heap.size _ res hobz ⟨0, al[m].style, runText al m kk⟩ wr.heap.size rfl rfl rfl rfl rfl rfl (by omega) (by omega) ?_)
                        intro g2 cap2 w2 ho2 hgr2 hat2 hb2
                        go_wp2
                        go_roundw
                        case rel => exact ⟨kk, res ++ [⟨0, al[m].style, runText al m kk⟩], by omega, by go_num, by simp; omega, ho2, ((hbo.trans (hby.mono hzo)).trans (hbz.mono (by omega))).trans hb2, HL, HE⟩
                        case measure => simp [intOf]; omega
                · have hkjb : (al[j].kind == 0) = false := beq_eq_false_iff_ne.2 hkj
                  have hstop : Hid (∀ h : j < al.length, ¬ (al[j].kind = 0 ∧ al[j].style = al[m].style)) := fun _ h => hkj h.1
                  have HE : Hid (nGo (al.drop j) (res ++ [⟨0, al[m].style, runText al m j⟩]) none = nGo al [] none) := by rw [← run_text al res hcan m j al[m].style hj1 hj2 hrun.out hstop.out]; exact hr
                  have HL : Hid (lastSp (res ++ [⟨0, al[m].style, runText al m j⟩]) = true → ∀ h : j < al.length, al[j].kind ≠ 1) := fun h => by rw [lastSp_snoc] at h; simp at h
                  clear hr hsp hstop hrun
                  go_wp2
                  go_quiet (fail)
                  go_wp2
                  go_loopw [12, 13] (fun bufv kv wr => ∃ kk : Nat, m ≤ kk ∧ kk ≤ j ∧ kv = .int .i64 kk ∧ Own wr wy.heap.size tByte bufv (runText al m kk) ∧ Below wy.heap.size wy wr) (fun _ kv _ => j - (intOf kv).toNat)
                  case atStart => exact ⟨m, Nat.le_refl _, by omega, rfl, by rw [runText_self]; exact Own.nil _ _ _, below_drewN (Below.refl _ _) _⟩
                  case round =>
                    obtain ⟨kk, hk1, hk2, rfl, hobuf, hbz⟩ := hrel
                    obtain ⟨fo, fcap, rfl⟩ := hobuf.shape
                    have hzz := hbz.size
                    by_cases hkj : kk < j
                    · have hkl : kk < al.length := by omega
                      have hck := (((hra.below (hbo.trans (hby.mono hzo))).below (hbz.mono (by omega))).inl kk hkl)
                      obtain ⟨b2, o2, he, _, hc2⟩ := hck
                      cases he
                      have e3 := (hc2 kk hkl).2.2
                      clear hc2
                      have i3 : (kk : Int) < (al.length : Int) := by omega
                      have i4 : (kk : Int) < (j : Int) := by omega
                      have hln := runText_len al m (kk + 1)
                      rw [runText_succ al m kk hk1 hkl, List.length_append] at hln
                      go_wp2_with (at_builtin; refine appS (.tmp 97) (.tmp 102) wy.heap.size _ (runText al m kk) hobuf al[kk].text rfl rfl rfl rfl (by omega) (by omega) ?_)
                      intro ao2 cap2 w2 ho2 hgr2 hb2
                      go_wp2
                      go_roundw
                      case rel => exact ⟨kk + 1, by omega, by omega, by go_num, by rw [runText_succ al m kk hk1 hkl]; exact ho2, hbz.trans hb2⟩
                      case measure => simp [intOf]; omega
                    · have ek : kk = j := by omega
                      subst ek
                      have hcv := conv_own hobuf
                      have hcs : wr.cell? ⟨wx.heap.size, 1, none⟩ = some (.int .i64 al[m].style) := (hbz.cell (p := ⟨wx.heap.size, 1, none⟩) (by simp; omega)).trans hcy
                      have hobz := (hob.below hby).below hbz
                      clear hcy
                      go_wp2_with (at_builtin; refine app1 tInl (.tmp 104) (.tmp 110) wo.heap.size _ res hobz ⟨0, al[m].style, runText al m kk⟩ wr.heap.size rfl rfl rfl rfl rfl rfl (by omega) (by omega) ?_)
                      intro g2 cap2 w2 ho2 hgr2 hat2 hb2
                      go_wp2
                      go_roundw
                      case rel => exact ⟨kk, res ++ [⟨0, al[m].style, runText al m kk⟩], by omega, by go_num, by simp; omega, ho2, ((hbo.trans (hby.mono hzo)).trans (hbz.mono (by omega))).trans hb2, HL, HE⟩
                      case measure => simp [intOf]; omega
              · have i2 : ¬ (j : Int) < (al.length : Int) := by omega
                have i2b : decide ((j : Int) < (al.length : Int)) = false := decide_eq_false i2
                have hstop : Hid (∀ h : j < al.length, ¬ (al[j].kind = 0 ∧ al[j].style = al[m].style)) := fun h => absurd h hjl
                have HE : Hid (nGo (al.drop j) (res ++ [⟨0, al[m].style, runText al m j⟩]) none = nGo al [] none) := by rw [← run_text al res hcan m j al[m].style hj1 hj2 hrun.out hstop.out]; exact hr
                have HL : Hid (lastSp (res ++ [⟨0, al[m].style, runText al m j⟩]) = true → ∀ h : j < al.length, al[j].kind ≠ 1) := fun h => by rw [lastSp_snoc] at h; simp at h
                clear hr hsp hstop hrun
                go_wp2
                go_quiet (fail)
                go_wp2
                go_loopw [12, 13] (fun bufv kv wr => ∃ kk : Nat, m ≤ kk ∧ kk ≤ j ∧ kv = .int .i64 kk ∧ Own wr wy.heap.size tByte bufv (runText al m kk) ∧ Below wy.heap.size wy wr) (fun _ kv _ => j - (intOf kv).toNat)
                case atStart => exact ⟨m, Nat.le_refl _, by omega, rfl, by rw [runText_self]; exact Own.nil _ _ _, below_drewN (Below.refl _ _) _⟩
                case round =>
                  obtain ⟨kk, hk1, hk2, rfl, hobuf, hbz⟩ := hrel
                  obtain ⟨fo, fcap, rfl⟩ := hobuf.shape
                  have hzz := hbz.size
                  by_cases hkj : kk < j
                  · have hkl : kk < al.length := by omega
                    have hck := (((hra.below (hbo.trans (hby.mono hzo))).below (hbz.mono (by omega))).inl kk hkl)
                    obtain ⟨b2, o2, he, _, hc2⟩ := hck
                    cases he
                    have e3 := (hc2 kk hkl).2.2
                    clear hc2
                    have i3 : (kk : Int) < (al.length : Int) := by omega
                    have i4 : (kk : Int) < (j : Int) := by omega
                    have hln := runText_len al m (kk + 1)
                    rw [runText_succ al m kk hk1 hkl, List.length_append] at hln
                    go_wp2_with (at_builtin; refine appS (.tmp 97) (.tmp 102) wy.heap.size _ (runText al m kk) hobuf al[kk].text rfl rfl rfl rfl (by omega) (by omega) ?_)
                    intro ao2 cap2 w2 ho2 hgr2 hb2
                    go_wp2
                    go_roundw
                    case rel => exact ⟨kk + 1, by omega, by omega, by go_num, by rw [runText_succ al m kk hk1 hkl]; exact ho2, hbz.trans hb2⟩
                    case measure => simp [intOf]; omega
                  · have ek : kk = j := by omega
                    subst ek
                    have hcv := conv_own hobuf
                    have hcs : wr.cell? ⟨wx.heap.size, 1, none⟩ = some (.int .i64 al[m].style) := (hbz.cell (p := ⟨wx.heap.size, 1, none⟩) (by simp; omega)).trans hcy
                    have hobz := (hob.below hby).below hbz
                    clear hcy
                    go_wp2_with (at_builtin; refine app1 tInl (.tmp 104) (.tmp 110) wo.heap.size _ res hobz ⟨0, al[m].style, runText al m kk⟩ wr.heap.size rfl rfl rfl rfl rfl rfl (by omega) (by omega) ?_)
                    intro g2 cap2 w2 ho2 hgr2 hat2 hb2
                    go_wp2
                    go_roundw
                    case rel => exact ⟨kk, res ++ [⟨0, al[m].style, runText al m kk⟩], by omega, by go_num, by simp; omega, ho2, ((hbo.trans (hby.mono hzo)).trans (hbz.mono (by omega))).trans hb2, HL, HE⟩
                    case measure => simp [intOf]; omega
          · by_cases hk1 : al[m].kind = 1
            · have hls : lastSp res = false := by
                cases h : lastSp res with
                | false => rfl
                | true => exact absurd hk1 (hsp.out h hlm)
              have HLS : Hid (lastSp res = false) := hls
              rw [hk1] at d1
              clear hls hk0
              go_wp2
              go_loop [14] (fun jv => ∃ j : Nat, m < j ∧ j ≤ al.length ∧ jv = .int .i64 j ∧ Hid (Run1 al m j)) (fun jv => al.length - (intOf jv).toNat)
              case atStart => exact ⟨m + 1, by omega, by omega, by go_num, Run1.start hlm hk1⟩
              case round =>
                obtain ⟨j, hj1, hj2, rfl, hrun⟩ := hrel
                by_cases hjl : j < al.length
                · have hcj := (hc1 j hjl).1
                  have hcj' : ∀ o, (wx.alloc o).cell? ⟨b1, o1 + j * 3, none⟩ = some (.int .i64 al[j].kind) := fun o => by rw [World.cell?_alloc_lt _ _ _ (by simp; omega)]; exact hcj
                  have i2 : (j : Int) < (al.length : Int) := by omega
                  by_cases hkj : al[j].kind = 1
                  · have hkjb : (al[j].kind == 1) = true := beq_iff_eq.2 hkj
                    have HKJ : Hid (al[j].kind = 1) := hkj
                    clear hkj hcj
                    go_wp2
                    go_round
                    case rel => exact ⟨j + 1, by omega, by omega, by go_num, Run1.next hrun.out hjl HKJ.out⟩
                    case measure => simp [intOf]; omega
                  · have hkjb : (al[j].kind == 1) = false := beq_eq_false_iff_ne.2 hkj
                    have HE : Hid (nGo (al.drop j) (res ++ [⟨1, 0, [32]⟩]) none = nGo al [] none) := by rw [← run_space al res m j hj1 hj2 hrun.out HLS.out]; exact hr
                    have HL : Hid (lastSp (res ++ [⟨1, 0, [32]⟩]) = true → ∀ h : j < al.length, al[j].kind ≠ 1) := fun _ _ => hkj
                    clear hr hsp hc1 hcj
                    go_wp2_with (at_builtin; refine app1 tInl (.tmp 132) (.tmp 134) wo.heap.size _ res (hob.alloc _) ⟨1, 0, [32]⟩ (wx.heap.size + 1) (by simp) rfl rfl rfl rfl rfl (by omega) (by simp; omega) ?_)
                    intro g2 cap2 w2 ho2 hgr2 hat2 hb2
                    go_wp2
                    go_roundw
                    case rel => exact ⟨j, res ++ [⟨1, 0, [32]⟩], by omega, by go_num, by simp; omega, ho2, hbo.trans (((Below.refl _ _).alloc hzo _).trans hb2), HL, HE⟩
                    case measure => simp [intOf]; omega
                · have HE : Hid (nGo (al.drop j) (res ++ [⟨1, 0, [32]⟩]) none = nGo al [] none) := by rw [← run_space al res m j hj1 hj2 hrun.out HLS.out]; exact hr
                  have HL : Hid (lastSp (res ++ [⟨1, 0, [32]⟩]) = true → ∀ h : j < al.length, al[j].kind ≠ 1) := fun _ h => absurd h hjl
                  clear hr hsp hc1
                  go_wp2_with (at_builtin; refine app1 tInl (.tmp 132) (.tmp 134) wo.heap.size _ res (hob.alloc _) ⟨1, 0, [32]⟩ (wx.heap.size + 1) (by simp) rfl rfl rfl rfl rfl (by omega) (by simp; omega) ?_)
                  intro g2 cap2 w2 ho2 hgr2 hat2 hb2
                  go_wp2
                  go_roundw
                  case rel => exact ⟨j, res ++ [⟨1, 0, [32]⟩], by omega, by go_num, by simp; omega, ho2, hbo.trans (((Below.refl _ _).alloc hzo _).trans hb2), HL, HE⟩
                  case measure => simp [intOf]; omega
            · have hk0b : (al[m].kind == 0) = false := beq_eq_false_iff_ne.2 hk0
              have hk1b : (al[m].kind == 1) = false := beq_eq_false_iff_ne.2 hk1
              have HRC := run_code al res hcan m hlm hk0 hk1
              have HE : Hid (nGo (al.drop (m + 1)) (res ++ [al[m]]) none = nGo al [] none) := by rw [← HRC.1]; exact hr
              have HL : Hid (lastSp (res ++ [al[m]]) = true → ∀ h : m + 1 < al.length, al[m + 1].kind ≠ 1) := fun h => by rw [lastSp_snoc] at h; exact absurd (of_decide_eq_true h) hk1
              clear HRC hr hsp hc1
              go_wp2_with (at_builtin; refine app1 tInl (.tmp 137) (.tmp 139) wo.heap.size _ res (hob.alloc _) al[m] (wx.heap.size + 1) (by simp) rfl rfl rfl rfl rfl (by omega) (by simp; omega) ?_)
              intro g2 cap2 w2 ho2 hgr2 hat2 hb2
              go_wp2
              go_roundw
              case rel => exact ⟨m + 1, res ++ [al[m]], by omega, by go_num, by simp; omega, ho2, hbo.trans (((Below.refl _ _).alloc hzo _).trans hb2), HL, HE⟩
              case measure => simp [intOf]; omega
        · have HN : Hid (nGo ps [] none = res) := by rw [← HNG.out, ← hr.out, List.drop_of_length_le (by omega)]; exact rfl
          have hbx := hbel.trans (hbo.mono hz)
          have ho := hob.base hz
          obtain ⟨wr, rfl⟩ : ∃ wr : World, wr = wx := ⟨_, rfl⟩
          clear hob hr hsp HNG
          obtain ⟨cap, rfl⟩ : ∃ cap : Nat, cap = bcap := ⟨_, rfl⟩
          generalize res = r at *
          have HT : Hid (norm ps = trimSp r) := by unfold norm; rw [HN.out]; exact rfl
          clear HN
          by_cases hl : r.length = 0
          · have e0 : r = [] := List.eq_nil_of_length_eq_zero hl
            subst e0
            go_wp2
            go_ret
            exact ⟨_, rfl, by rw [HT.out]; exact ho.ownR, hbx⟩
          · obtain ⟨g, hao, _, hglt, hgc, hgc2⟩ := ho.formS (by omega)
            cases hao
            have hlp : (0 : Int) < (r.length : Int) := by omega
            have hl1 : 0 < r.length := by omega
            have hl2 : r.length - 1 < r.length := by omega
            have hc0 := ho.cellAt 0 hl1 0 (by simp [tInl])
            have hcl := ho.cellAt (r.length - 1) hl2 0 (by simp [tInl])
            by_cases hf : r[0].kind = 1
            · simp [tInl, hf] at hc0
              have hd := ho.ownR.drop1 hl1
              have HD : Hid (trimSp r = dropLs (r.drop 1)) := by unfold trimSp; rw [dropHd_yes r hl1 hf]; exact rfl
              clear hf
              by_cases hn1 : r.length = 1
              · have hdn : r.drop 1 = [] := List.drop_of_length_le (by omega)
                rw [hdn] at hd HD
                have hlz : ¬ (1 : Int) < (r.length : Int) := by omega
                have hlz0 : r.length - 1 = 0 := by omega
                rw [hlz0] at hd
                by_cases hcap1 : cap = 1
                · rw [if_pos hcap1, hcap1] at hd
                  go_wp2
                  go_ret
                  refine ⟨_, rfl, ?_, hbx⟩
                  rw [HT.out, HD.out]
                  exact hd
                · rw [if_neg hcap1] at hd
                  go_wp2
                  go_ret
                  refine ⟨_, rfl, ?_, hbx⟩
                  rw [HT.out, HD.out]
                  exact hd
              · have hcap1 : ¬ cap = 1 := by omega
                rw [if_neg hcap1] at hd
                have hl3 : r.length - 1 < r.length := by omega
                have hn2 : 0 < (r.drop 1).length := by simp; omega
                have hcl1 : wr.cell? ⟨g, 3 + (r.length - 1 - 1) * 3, none⟩ = some (.int .i64 r[r.length - 1].kind) := by
                  rw [show 3 + (r.length - 1 - 1) * 3 = (r.length - 1) * 3 by omega]; simpa [tInl] using hcl
                have hcl2 : wr.cell? ⟨g, 3 + (r.length - 2) * 3, none⟩ = some (.int .i64 r[r.length - 1].kind) := by
                  rw [show 3 + (r.length - 2) * 3 = (r.length - 1) * 3 by omega]; simpa [tInl] using hcl
                have hlast : lastSp (r.drop 1) = decide (r[r.length - 1].kind = 1) := by
                  rw [lastSp_last _ hn2]; congr 3; simp; congr 1; omega
                by_cases hlk : r[r.length - 1].kind = 1
                · have hlb : (r[r.length - 1].kind == 1) = true := beq_iff_eq.2 hlk
                  rw [hlk] at hcl1 hcl2
                  have HX : Hid (dropLs (r.drop 1) = (r.drop 1).take (r.length - 1 - 1)) := by unfold dropLs; rw [hlast, if_pos (decide_eq_true hlk), List.length_drop]; exact rfl
                  clear hcl hlast hlk
                  go_wp2
                  go_ret
                  refine ⟨_, rfl, ?_, hbx⟩
                  rw [HT.out, HD.out, HX.out]
                  exact hd.take _ (by simp)
                · have hlb : (r[r.length - 1].kind == 1) = false := beq_eq_false_iff_ne.2 hlk
                  have HX : Hid (dropLs (r.drop 1) = r.drop 1) := by unfold dropLs; rw [hlast, if_neg (by simpa using hlk)]; exact rfl
                  clear hcl hlast
                  go_wp2
                  go_ret
                  refine ⟨_, rfl, ?_, hbx⟩
                  rw [HT.out, HD.out, HX.out]
                  exact hd
            · simp [tInl] at hc0 hcl
              have hfb : (r[0].kind == 1) = false := beq_eq_false_iff_ne.2 hf
              by_cases hlk : r[r.length - 1].kind = 1
              · have hlb : (r[r.length - 1].kind == 1) = true := beq_iff_eq.2 hlk
                rw [hlk] at hcl
                go_wp2
                go_ret
                refine ⟨_, rfl, ?_, hbx⟩
                rw [HT.out, trimSp, dropHd_no r hl1 hf, dropLs, if_pos (by rw [lastSp_last r hl1]; exact decide_eq_true hlk)]
                exact ho.ownR.take _ (by omega)
              · have hlb : (r[r.length - 1].kind == 1) = false := beq_eq_false_iff_ne.2 hlk
                go_wp2
                go_ret
                refine ⟨_, rfl, ?_, hbx⟩
                rw [HT.out, trimSp, dropHd_no r hl1 hf, dropLs, if_neg (by rw [lastSp_last r hl1]; simpa using hlk)]
                exact ho.ownR
end Go.Proofs.Ybuaaw
