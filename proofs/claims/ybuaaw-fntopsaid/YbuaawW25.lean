import Derived.Test.YbuaawMem4
import Derived.Test.YbuaawPlain10
namespace Go.Proofs.Ybuaaw
open Go.RowKit
attribute [local go_sem] mk_size mk_toList mk_getElem mk_extract take_len_drop mk_append_lit

abbrev Tri := Option Addr × Nat × Nat
def triV (r : Tri) : Value := .slice r.1 r.2.1 r.2.2
/-- The rows of a slice of slices: each owned, its block below Bc. -/
def RowsR (w : World) (B Bc : Nat) (rs : List Tri) (ws : List (List Inl)) : Prop :=
  rs.length = ws.length ∧ ∀ k (hk : k < rs.length) (hk' : k < ws.length), Own w B tInl (triV rs[k]) ws[k] ∧ ∀ g, (triV rs[k]).ownBlock = some g → g < Bc

theorem RowsR.nil (w : World) (B Bc : Nat) : RowsR w B Bc [] [] := ⟨rfl, fun k hk => by simp at hk⟩
theorem RowsR.mono {w : World} {B Bc Bc' : Nat} {rs : List Tri} {ws : List (List Inl)} (h : RowsR w B Bc rs ws) (hB : Bc ≤ Bc') : RowsR w B Bc' rs ws :=
  ⟨h.1, fun k hk hk' => ⟨(h.2 k hk hk').1, fun g hg => Nat.lt_of_lt_of_le ((h.2 k hk hk').2 g hg) hB⟩⟩
theorem RowsR.alloc {w : World} {B Bc : Nat} {rs : List Tri} {ws : List (List Inl)} (h : RowsR w B Bc rs ws) (o : Obj) : RowsR (w.alloc o) B Bc rs ws :=
  ⟨h.1, fun k hk hk' => ⟨(h.2 k hk hk').1.alloc o, (h.2 k hk hk').2⟩⟩
theorem RowsR.below {w w' : World} {B Bc : Nat} {rs : List Tri} {ws : List (List Inl)} (h : RowsR w B Bc rs ws) (hb : Below w.heap.size w w') : RowsR w' B Bc rs ws :=
  ⟨h.1, fun k hk hk' => ⟨(h.2 k hk hk').1.below hb, (h.2 k hk hk').2⟩⟩
theorem RowsR.apart {α : Type} {T : ET α} {w w' : World} {B Bc B' : Nat} {rs : List Tri} {ws : List (List Inl)} {v : Value} {l : List α} (h : RowsR w B Bc rs ws) (h' : Own w B' T v l) (hg : w.grownBy w' v.ownBlock) (he : 44 ≠ T.e) : RowsR w' B Bc rs ws :=
  ⟨h.1, fun k hk hk' => ⟨(h.2 k hk hk').1.apart h' hg he, (h.2 k hk hk').2⟩⟩
theorem RowsR.cur {w w' : World} {B Bc : Nat} {rs : List Tri} {ws : List (List Inl)} {v : Value} {l : List Inl} (h : RowsR w B Bc rs ws) (h' : Own w Bc tInl v l) (hg : w.grownBy w' v.ownBlock) : RowsR w' B Bc rs ws := by
  refine ⟨h.1, fun k hk hk' => ⟨(h.2 k hk hk').1.kept hg ?_, (h.2 k hk hk').2⟩⟩
  cases e : (triV rs[k]).ownBlock with
  | none => exact .inl rfl
  | some g =>
    refine .inr fun e2 => ?_
    have h1 := (h.2 k hk hk').2 g e
    have h2 := (h'.lt e2.symm).1
    omega
theorem RowsR.snoc {w : World} {B Bc : Nat} {rs : List Tri} {ws : List (List Inl)} {ao : Option Addr} {n cap : Nat} {l : List Inl} (h : RowsR w B Bc rs ws) (hB : Bc ≤ w.heap.size) (h' : Own w B tInl (.slice ao n cap) l) : RowsR w B w.heap.size (rs ++ [(ao, n, cap)]) (ws ++ [l]) := by
  refine ⟨by simp [h.1], fun k hk hk' => ?_⟩
  by_cases hl : k < rs.length
  · have hl' : k < ws.length := by rw [← h.1]; exact hl
    rw [List.getElem_append_left hl, List.getElem_append_left hl']
    exact (h.mono hB).2 k hl hl'
  · have e1 : k = rs.length := by simp at hk; omega
    subst e1
    have e2 : (rs ++ [(ao, n, cap)])[rs.length] = (ao, n, cap) := by simp
    have e3 : (ws ++ [l])[rs.length]'hk' = l := by simp [h.1]
    rw [e2, e3]
    exact ⟨h', fun g hg => (h'.lt hg).2⟩

theorem addW_nil (ws : List (List Inl)) : addW ws [] = ws := by simp [addW]
theorem addW_ne' (ws : List (List Inl)) (ms : List Inl) (h : ms ≠ []) : addW ws ms = ws ++ [ms] := by unfold addW; rw [if_neg h]

set_option maxRecDepth 100000 in
set_option maxHeartbeats 8000000 in
theorem words_any (ps : List Inl) (v : Value) (B : Nat) (w : World) (hB : B ≤ w.heap.size) (h1 : Rdd w B tInl v ps) (hs : ps.length ≤ 4294967296) :
    Calls Yaac.prog 49 #[v] w fun e w' => ∃ v', e = .returned v' ∧ ∃ rs, Own w' w.heap.size tRow v' rs ∧ RowsR w' w.heap.size w'.heap.size rs (words ps) ∧ Below w.heap.size w w' := by
  obtain ⟨a1, c1, rfl, _, _⟩ := h1.shape
  go_enter Yaac.func49, Yaac.ntmps49
  go_wp2
  go_loopw [3, 4, 5] (fun rv cv iv wr => ∃ (i Bc : Nat) (rs : List Tri) (ws : List (List Inl)) (cur : List Inl), i ≤ ps.length ∧ iv = .int .i64 i ∧ rs.length ≤ i ∧ cur.length ≤ i ∧ w.heap.size ≤ Bc ∧ Bc ≤ wr.heap.size ∧ Own wr w.heap.size tRow rv rs ∧ Own wr Bc tInl cv cur ∧ RowsR wr w.heap.size Bc rs ws ∧ Below w.heap.size w wr ∧ Hid (wGo (ps.drop i) cur ws = words ps)) (fun _ _ iv _ => ps.length - (intOf iv).toNat)
  case atStart => exact ⟨0, w.heap.size, [], [], [], Nat.zero_le _, rfl, by simp, by simp, Nat.le_refl _, Nat.le_refl _, Own.nil _ _ _, Own.nil _ _ _, RowsR.nil _ _ _, Below.refl _ _, rfl⟩
  case round =>
    obtain ⟨i, Bc, rs, ws, cur, hi, rfl, hrl, hcl, hBc, hBw, hors, hocur, hrows, hbel, hr⟩ := hrel
    obtain ⟨wx, rfl⟩ : ∃ wx : World, wx = wr := ⟨_, rfl⟩
    obtain ⟨ro, rcap, rfl⟩ := hors.shape
    obtain ⟨co, ccap, rfl⟩ := hocur.shape
    have hz := hbel.size
    by_cases hlt : i < ps.length
    · obtain ⟨b1, o1, rfl, hb1, hc1⟩ := (h1.below (hbel.mono hB)).inl i hlt
      have hd := hc1 i hlt
      clear hc1
      have i1 : (i : Int) < (ps.length : Int) := by omega
      have hr' := hr.out
      rw [wGo_at ps i cur ws hlt] at hr'
      clear hr
      generalize ps[i] = p at *
      obtain ⟨kd, sty, txt⟩ := p
      obtain ⟨d1, d2, d3⟩ := hd
      simp only at d1 d2 d3 hr'
      have hblk0 := heap_alloc_new wx (.cells #[.int .i64 kd, .int .i64 sty, .string (mk txt)] 44)
      by_cases hk1 : kd = 1
      · have hkb : (kd == 1) = true := beq_iff_eq.2 hk1
        rw [if_pos hk1] at hr'
        clear hk1
        by_cases hc : cur = []
        · have hcb : ¬ (0 : Int) < (cur.length : Int) := by rw [hc]; simp
          rw [hc, addW_nil] at hr'
          have HE : Hid (wGo (ps.drop (i + 1)) [] ws = words ps) := hr'
          clear hr' hc
          go_wp2
          go_roundw
          case rel => exact ⟨i + 1, Bc, rs, ws, [], by omega, by go_num, by omega, by simp, hBc, by simp; omega, hors.alloc _, Own.nil _ _ _, hrows.alloc _, hbel.alloc hz _, HE⟩
          case measure => simp [intOf]; omega
        · have hcb : (0 : Int) < (cur.length : Int) := by cases cur with | nil => exact absurd rfl hc | cons _ _ => simp
          rw [addW_ne' ws cur hc] at hr'
          have HE : Hid (wGo (ps.drop (i + 1)) [] (ws ++ [cur]) = words ps) := hr'
          clear hr' hc
          go_wp2_with (at_builtin; refine app1 tRow (.tmp 23) (.tmp 25) w.heap.size _ rs (hors.alloc _) (co, cur.length, ccap) (wx.heap.size + 1) (by simp) rfl rfl rfl rfl rfl (by omega) (by simp; omega) ?_)
          intro g3 cap3 w3 ho3 hgr3 hat3 hb3
          have z3 := hb3.size
          have z3' := hgr3.size
          simp at z3'
          have hrows3 := ((hrows.alloc _).snoc (by simp; omega) ((hocur.alloc _).base hBc)).apart (hors.alloc _) hgr3 (by simp [tRow])
          go_wp2
          go_roundw
          case rel => exact ⟨i + 1, w3.heap.size, rs ++ [(co, cur.length, ccap)], ws ++ [cur], [], by omega, by go_num, by simp; omega, by simp, by omega, Nat.le_refl _, by first | exact ho3 | simpa using ho3, Own.nil _ _ _, hrows3.mono (by simp; omega), (hbel.alloc hz _).trans hb3, HE⟩
          case measure => simp [intOf]; omega
      · have hkb : (kd == 1) = false := beq_eq_false_iff_ne.2 hk1
        rw [if_neg hk1] at hr'
        by_cases hte : txt = []
        · rw [if_pos hte] at hr'
          have HE : Hid (wGo (ps.drop (i + 1)) cur ws = words ps) := hr'
          have hlb : ¬ (0 : Int) < (txt.length : Int) := by rw [hte]; simp
          clear hr' hte
          go_wp2
          go_roundw
          case rel => exact ⟨i + 1, Bc, rs, ws, cur, by omega, by go_num, by omega, by omega, hBc, by simp; omega, hors.alloc _, hocur.alloc _, hrows.alloc _, hbel.alloc hz _, HE⟩
          case measure => simp [intOf]; omega
        · rw [if_neg hte] at hr'
          have HE : Hid (wGo (ps.drop (i + 1)) (cur ++ [⟨kd, sty, txt⟩]) ws = words ps) := hr'
          have hlb : (0 : Int) < (txt.length : Int) := by cases txt with | nil => exact absurd rfl hte | cons _ _ => simp
          clear hr' hte
          go_wp2_with (at_builtin; refine app1 tInl (.tmp 31) (.tmp 33) Bc _ cur (hocur.alloc _) ⟨kd, sty, txt⟩ (wx.heap.size + 1) (by simp) rfl rfl rfl rfl rfl (by omega) (by simp; omega) ?_)
          intro g3 cap3 w3 ho3 hgr3 hat3 hb3
          have z3' := hgr3.size
          simp at z3'
          have hrows3 := (hrows.alloc _).cur (hocur.alloc _) hgr3
          have hors3 := (hors.alloc _).apart (hocur.alloc _) hgr3 (by simp [tRow, tInl])
          go_wp2
          go_roundw
          case rel => exact ⟨i + 1, Bc, rs, ws, cur ++ [⟨kd, sty, txt⟩], by omega, by go_num, by omega, by simp; omega, hBc, by omega, hors3, by first | exact ho3 | simpa using ho3, hrows3, (hbel.alloc hz _).trans (hb3.mono hBc), HE⟩
          case measure => simp [intOf]; omega
    · have i1 : ¬ (i : Int) < (ps.length : Int) := by omega
      have hr' := hr.out
      rw [List.drop_of_length_le (by omega), wGo] at hr'
      clear hr
      by_cases hc : cur = []
      · have hcb : ¬ (0 : Int) < (cur.length : Int) := by rw [hc]; simp
        rw [hc, addW_nil] at hr'
        have HE : Hid (ws = words ps) := hr'
        clear hr' hc
        go_wp2
        go_ret
        exact ⟨_, rfl, rs, hors, by rw [← HE.out]; exact hrows.mono hBw, hbel⟩
      · have hcb : (0 : Int) < (cur.length : Int) := by cases cur with | nil => exact absurd rfl hc | cons _ _ => simp
        rw [addW_ne' ws cur hc] at hr'
        have HE : Hid (ws ++ [cur] = words ps) := hr'
        clear hr' hc
        go_wp2_with (at_builtin; refine app1 tRow (.tmp 38) (.tmp 40) w.heap.size _ rs hors (co, cur.length, ccap) _ rfl rfl rfl rfl rfl rfl (by omega) (by omega) ?_)
        intro g3 cap3 w3 ho3 hgr3 hat3 hb3
        have z3' := hgr3.size
        have hrows3 := (hrows.snoc hBw (hocur.base hBc)).apart hors hgr3 (by simp [tRow])
        go_wp2
        go_ret
        exact ⟨_, rfl, rs ++ [(co, cur.length, ccap)], by first | exact ho3 | simpa using ho3, by rw [← HE.out]; exact hrows3.mono z3', hbel.trans hb3⟩
end Go.Proofs.Ybuaaw
