import Derived.Test.YbuaawW25
import Derived.Test.YbuaawPlain13
import Derived.Test.YbuaawW10
import Derived.Test.YbuaawW4
namespace Go.Proofs.Ybuaaw
open Go.RowKit
attribute [local go_sem] mk_size mk_toList mk_getElem mk_extract take_len_drop mk_append_lit

theorem joinGo_len (xs : List (List UInt8)) (i : Nat) (acc : List UInt8) : (joinGo [32] xs i acc).length ≤ acc.length + xs.foldr (fun x n => x.length + 1 + n) 0 := by
  induction xs generalizing i acc with
  | nil => simp [joinGo]
  | cons x xs ih =>
    rw [joinGo]
    refine Nat.le_trans (ih _ _) ?_
    simp only [List.foldr_cons]
    split <;> simp <;> omega
theorem join_words_len (ps : List Inl) : (join [32] ((words ps).map sh)).length ≤ tlen ps + ps.length + 1 := by
  refine Nat.le_trans (joinGo_len _ _ _) ?_
  rw [sh_size, ← wsz_fold]
  have := wsz_words ps
  simp; omega
theorem sh_take (ms : List Inl) (k : Nat) (hk : k < ms.length) : sh (ms.take (k + 1)) = sh (ms.take k) ++ shown ms[k].kind ms[k].style ms[k].text := by
  rw [List.take_succ_eq_append_getElem hk, sh_app]; simp [sh]
theorem wd_len' (ms : List Inl) (h : Wd ms) : ms.length ≤ tlen ms := by
  induction ms with
  | nil => simp
  | cons m ms ih =>
    have h1 := h m (by simp)
    have h2 : m.text.length ≠ 0 := fun e => h1 (List.eq_nil_of_length_eq_zero e)
    have h3 := ih (fun x hx => h x (by simp [hx]))
    simp only [List.length_cons, tlen]; omega
theorem wsz_mem (ws : List (List Inl)) (k : Nat) (h : k < ws.length) : tlen ws[k] ≤ wsz ws := by
  induction ws generalizing k with
  | nil => simp at h
  | cons x ws ih =>
    cases k with
    | zero => simp [wsz]; omega
    | succ k => have := ih k (by simpa using h); simp only [List.getElem_cons_succ, wsz]; omega

set_option maxRecDepth 100000 in
set_option maxHeartbeats 8000000 in
theorem oneLine_any (ps : List Inl) (v : Value) (B : Nat) (w : World) (hB : B ≤ w.heap.size) (h1 : Rdd w B tInl v ps) (hs : ps.length ≤ 1073741824) (ht : tlen ps ≤ 1073741824) :
    Calls Yaac.prog 48 #[v] w fun e w' => e = .returned (.string (mk (join [32] ((words ps).map sh)))) ∧ Below w.heap.size w w' := by
  obtain ⟨a1, c1, rfl, _, _⟩ := h1.shape
  have hwz := wsz_words ps
  have hjl := join_words_len ps
  have HWD : Hid (∀ x ∈ words ps, Wd x ∧ x ≠ []) := words_wd ps
  go_enter Yaac.func48, Yaac.ntmps48
  go_wp2_with (go_at_call 49; refine (words_any ps _ B _ hB h1 (by omega)).mono ?_; rintro e w1 ⟨v1, rfl, rs, hors, hrows, hb1⟩)
  obtain ⟨ro, rcap, rfl⟩ := hors.shape
  have z1 := hb1.size
  have HRL : Hid (rs.length = (words ps).length) := hrows.1
  have hrsl : rs.length ≤ 17179869184 := by rw [HRL.out]; have := wsz_len (words ps); omega
  generalize hws : words ps = ws at *
  have HWS : Hid (words ps = ws) := hws
  clear hws
  go_wp2
  go_loopw [4, 5] (fun pv iv wr => ∃ (i : Nat) (parts : List (List UInt8)), i ≤ rs.length ∧ parts.length ≤ i ∧ iv = .int .i64 i ∧ Hid (parts = (ws.map sh).take i) ∧ Own wr w1.heap.size tStr pv parts ∧ Below w1.heap.size w1 wr) (fun _ iv _ => rs.length - (intOf iv).toNat)
  case atStart => exact ⟨0, [], Nat.zero_le _, Nat.le_refl _, rfl, rfl, Own.nil _ _ _, Below.refl _ _⟩
  case round =>
    obtain ⟨i, parts, hi, hpl, rfl, HP, hop, hbel⟩ := hrel
    obtain ⟨wx, rfl⟩ : ∃ wx : World, wx = wr := ⟨_, rfl⟩
    obtain ⟨po, pcap, rfl⟩ := hop.shape
    have hz := hbel.size
    by_cases hlt2 : i < rs.length
    · have hlt : i < ws.length := by rw [← HRL.out]; exact hlt2
      have i1 : (i : Int) < (rs.length : Int) := by omega
      obtain ⟨hom, -⟩ := hrows.2 i hlt2 hlt
      obtain ⟨b1, o1, rfl, hbb1, hc1⟩ := (hors.below hbel).rdd.row i hlt2
      have HRW : Hid (∀ w' : World, Below w1.heap.size w1 w' → w'.cell? ⟨b1, o1 + i, none⟩ = some (triV rs[i])) := fun w' hb' => by
        obtain ⟨b2, o2, he, -, hc2⟩ := (hors.below hb').rdd.row i hlt2
        simp only [Option.some.injEq, Addr.mk.injEq] at he
        obtain ⟨rfl, rfl, -⟩ := he
        exact hc2 i hlt2
      clear hc1
      have hme := wsz_mem ws i hlt
      have HST : Hid (parts ++ [sh ws[i]] = (ws.map sh).take (i + 1)) := by
        unfold Hid; rw [List.take_succ_eq_append_getElem (by simpa using hlt), HP.out]; simp
      obtain ⟨hwd, -⟩ := HWD.out ws[i] (List.getElem_mem hlt)
      generalize ws[i] = mem at *
      generalize rs[i] = tri at *
      obtain ⟨mo, mn, mcap⟩ := tri
      unfold triV at hom HRW
      simp only at hom HRW
      obtain ⟨mo', mcap', he⟩ := hom.shape
      simp only [Value.slice.injEq] at he
      obtain ⟨rfl, rfl, rfl⟩ := he
      have hml := wd_len' mem hwd
      clear hwd
      go_wp2
      go_loopw [6, 7] (fun bv kv wr => ∃ (k : Nat) (cur : List UInt8), k ≤ mem.length ∧ kv = .int .i64 k ∧ cur.length ≤ 4294967296 ∧ Hid (cur = sh (mem.take k)) ∧ Own wr w1.heap.size tByte bv cur ∧ Own wr w1.heap.size tStr (.slice po parts.length pcap) parts ∧ Below w1.heap.size w1 wr) (fun _ kv _ => mem.length - (intOf kv).toNat)
      case atStart => exact ⟨0, [], Nat.zero_le _, rfl, by simp, rfl, Own.nil _ _ _, hop, hbel⟩
      case round =>
        obtain ⟨k, cur, hk, rfl, hsl, HC, hob, hop2, hb2⟩ := hrel
        obtain ⟨wy, rfl⟩ : ∃ wy : World, wy = wr := ⟨_, rfl⟩
        obtain ⟨bo, bcap, rfl⟩ := hob.shape
        have z2 := hb2.size
        have cr := HRW.out _ hb2
        by_cases hkl : k < mem.length
        · have ik : (k : Int) < (mem.length : Int) := by omega
          obtain ⟨b5, o5, rfl, hb5', hc5⟩ := (hom.below hb2).rdd.inl k hkl
          have hd := hc5 k hkl
          clear hc5
          have htl := tlen_le mem _ (List.getElem_mem hkl)
          have HSH : Hid (cur ++ shown mem[k].kind mem[k].style mem[k].text = sh (mem.take (k + 1))) := by unfold Hid; rw [sh_take mem k hkl, HC.out]
          have HBD : Hid ((sh (mem.take (k + 1))).length ≤ 4294967296) := by unfold Hid; rw [sh_len]; have := tlen_take_le mem (k + 1); omega
          generalize mem[k] = p at *
          obtain ⟨kd, sty, txt⟩ := p
          obtain ⟨f1, f2, f3⟩ := hd
          simp only at f1 f2 f3 htl HSH
          have hshl := shown_len kd sty txt
          have HSL : Hid ((shown kd sty txt).length = txt.length) := hshl
          clear hshl
          go_wp2_with fail
          refine (shown_any kd sty txt _ (by omega)).mono ?_
          rintro e w5 ⟨rfl, hb5⟩
          have z5 := hb5.size
          simp at z5
          have hbw5 : Below w1.heap.size w1 w5 := (hb2.alloc z2 _).trans (hb5.mono (by simp; omega))
          have hob5 := (hob.alloc _).below hb5
          have hop5 := (hop2.alloc _).below hb5
          generalize shown kd sty txt = sx at *
          go_wp2_with (at_builtin; refine appS (.tmp 33) (.tmp 40) w1.heap.size _ cur hob5 sx rfl rfl rfl rfl (by rw [HSL.out]; omega) (by omega) ?_)
          intro ao6 cap6 w6 ho6 hgr6 hb6
          go_wp2
          go_roundw
          case rel => exact ⟨k + 1, cur ++ sx, by omega, by go_num, by rw [HSH.out]; exact HBD.out, HSH, by first | exact ho6 | simpa using ho6, hop5.apart hob5 hgr6 (by simp [tStr, tByte]), hbw5.trans hb6⟩
          case measure => simp [intOf]; omega
        · have ik : ¬ (k : Int) < (mem.length : Int) := by omega
          have HCE : Hid (cur = sh mem) := by have := HC.out; rw [List.take_of_length_le (by omega : mem.length ≤ k)] at this; exact this
          have hcv := conv_own hob
          rw [← HCE.out] at HST
          go_wp2_with (at_builtin; refine app1 tStr (.tmp 42) (.tmp 45) w1.heap.size _ parts hop2 cur _ rfl rfl rfl rfl rfl rfl (by omega) (by omega) ?_)
          intro g3 cap3 w3 ho3 hgr3 hat3 hb3
          go_wp2
          go_roundw
          case rel => exact ⟨i + 1, parts ++ [cur], by omega, by simp; omega, by go_num, HST, by first | exact ho3 | simpa using ho3, hb2.trans hb3⟩
          case measure => simp [intOf]; omega
    · have i1 : ¬ (i : Int) < (rs.length : Int) := by omega
      have HPE : Hid (parts = ws.map sh) := by have := HP.out; rw [List.take_of_length_le (by simp; rw [← HRL.out]; omega)] at this; exact this
      rw [← HPE.out] at hjl
      go_wp2_with fail
      refine (join_any [32] parts _ wx.heap.size _ (Nat.le_refl _) hop.rdd (by omega)).mono ?_
      rintro e w9 ⟨rfl, hb9⟩
      go_wp2
      go_ret
      exact ⟨by rw [HWS.out, ← HPE.out]; rfl, (hb1.trans (hbel.mono z1)).trans (hb9.mono (by omega))⟩

theorem lineIs_true (ls : List (List UInt8)) (x : List UInt8) (nw : Nat) (v : Value) (B : Nat) (w : World) (h1 : Rdd w B tStr v ls) (h : ls = if nw = 0 then [] else [x]) :
    Calls Yaac.prog 50 #[v, .string (mk x), .int .i64 nw] w fun e w' => e = .returned (.bool true) ∧ w' = w := by
  obtain ⟨a1, c1, rfl, _, _⟩ := h1.shape
  by_cases h0 : nw = 0
  · rw [if_pos h0] at h
    subst h
    have hb : ((nw : Int) == 0) = true := beq_iff_eq.2 (by omega)
    clear h0
    go_enter Yaac.func50, Yaac.ntmps50
    go_wp2
    go_ret
    exact ⟨rfl, rfl⟩
  · rw [if_neg h0] at h
    subst h
    have hb : ((nw : Int) == 0) = false := beq_eq_false_iff_ne.2 (by omega)
    obtain ⟨b1, o1, rfl, hb1, hc1⟩ := h1.str 0 (by simp)
    have d1 := hc1 0 (by simp)
    simp only [List.getElem_cons_zero, Nat.add_zero] at d1
    clear hc1
    go_enter Yaac.func50, Yaac.ntmps50
    go_wp2
    go_ret
    exact ⟨by simp, rfl⟩
end Go.Proofs.Ybuaaw
