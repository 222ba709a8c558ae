import Derived.Test.YbuaawMem2
import Derived.Test.YbuaawPlain3
namespace Go.Proofs.Ybuaaw
open Go.RowKit
attribute [local go_sem] mk_size mk_toList mk_getElem mk_extract take_len_drop mk_append_lit

/-- A canonical piece, written out. -/
def CanP (p : Inl) : Prop := p = ⟨1, 0, [32]⟩ ∨ (∃ t, t ≠ [] ∧ p = ⟨2, 0, t⟩) ∨ (∃ t, t ≠ [] ∧ p = ⟨0, 0, t⟩) ∨ (∃ t, t ≠ [] ∧ p = ⟨0, 1, t⟩)
theorem canP_of (ps : List Inl) (h : Canon ps) (k : Nat) (hk : k < ps.length) : CanP ps[k] := by
  rcases h ps[k] (List.getElem_mem hk) with ⟨a, b, c⟩ | ⟨a, b, c⟩ | ⟨a, b | b, c⟩
  · left; cases hp : ps[k]; simp_all
  · right; left; exact ⟨_, c, by cases hp : ps[k]; simp_all⟩
  · right; right; left; exact ⟨_, c, by cases hp : ps[k]; simp_all⟩
  · right; right; right; exact ⟨_, c, by cases hp : ps[k]; simp_all⟩
theorem nf_head (ps : List Inl) (h : NF ps) (hl : 0 < ps.length) : ps[0].kind ≠ 1 ∧ ps[ps.length - 1].kind ≠ 1 := by
  refine ⟨h.2.2.1 _ ?_, h.2.2.2 _ ?_⟩
  · cases ps with
    | nil => simp at hl
    | cons p r => rfl
  · rw [List.getLast?_eq_getElem?, List.getElem?_eq_getElem (by omega)]

set_option maxRecDepth 100000 in
set_option maxHeartbeats 4000000 in
theorem isNormal_true (ps : List Inl) (v : Value) (B : Nat) (w : World) (hB : B ≤ w.heap.size) (h1 : Rdd w B tInl v ps) (hN : NF ps) :
    Calls Yaac.prog 37 #[v] w fun e w' => e = .returned (.bool true) ∧ Below w.heap.size w w' := by
  have hl := h1.len_le
  unfold maxLen at hl
  obtain ⟨a1, c1, rfl, _, _⟩ := h1.shape
  go_enter Yaac.func37, Yaac.ntmps37
  go_wp2
  go_loopw [3] (fun i wr => ∃ (k : Nat), k ≤ ps.length ∧ i = .int .i64 k ∧ Below w.heap.size w wr) (fun i _ => ps.length - (intOf i).toNat)
  case atStart => exact ⟨0, Nat.zero_le _, rfl, Below.refl _ _⟩
  case round =>
    obtain ⟨k, hk, rfl, hbel⟩ := hrel
    have hz := hbel.size
    by_cases hlt : k < ps.length
    · obtain ⟨b1, o1, rfl, hb1, hc1⟩ := (h1.below (hbel.mono hB)).inl k hlt
      have hd := hc1 k hlt
      have i1 : (k : Int) < (ps.length : Int) := by omega
      have hcp := canP_of ps hN.1 k hlt
      cases k with
      | zero =>
        clear hc1
        generalize ps[0] = p at *
        rcases hcp with rfl | ⟨t, ht, rfl⟩ | ⟨t, ht, rfl⟩ | ⟨t, ht, rfl⟩
        all_goals
          obtain ⟨d1, d2, d3⟩ := hd
          simp only [Nat.zero_mul, Nat.add_zero] at d1 d2 d3
          try have htb : (t == []) = false := by simpa using ht
          try have htb2 : t.isEmpty = false := by simpa using ht
          go_wp2
          go_roundw
          case rel => exact ⟨1, by omega, by go_num, hbel.trans ((Below.refl _ _).alloc hz _)⟩
          case measure => simp [intOf]; omega
      | succ m =>
        have hadj := adj_get ps hN.2.1 m hlt
        have hcq := canP_of ps hN.1 m (by omega)
        have hd' := hc1 m (by omega)
        have hq1 : ∀ o, (wr.alloc o).cell? ⟨b1, o1 + m * 3, none⟩ = some (.int .i64 ps[m].kind) := fun o => by rw [World.cell?_alloc_lt _ _ _ (by simp; omega)]; exact hd'.1
        have hq2 : ∀ o, (wr.alloc o).cell? ⟨b1, o1 + m * 3 + 1, none⟩ = some (.int .i64 ps[m].style) := fun o => by rw [World.cell?_alloc_lt _ _ _ (by simp; omega)]; exact hd'.2.1
        have hq3 : ∀ o, (wr.alloc o).cell? ⟨b1, o1 + m * 3 + 2, none⟩ = some (.string (mk ps[m].text)) := fun o => by rw [World.cell?_alloc_lt _ _ _ (by simp; omega)]; exact hd'.2.2
        clear hc1 hd'
        generalize ps[m + 1] = p at *
        generalize ps[m] = q at *
        have i2 : (m : Int) < (ps.length : Int) := by omega
        rcases hcp with rfl | ⟨t, ht, rfl⟩ | ⟨t, ht, rfl⟩ | ⟨t, ht, rfl⟩ <;> rcases hcq with rfl | ⟨t', _, rfl⟩ | ⟨t', _, rfl⟩ | ⟨t', _, rfl⟩
        all_goals try (exfalso; simp [okAdj] at hadj; done)
        all_goals
          obtain ⟨d1, d2, d3⟩ := hd
          simp only at d1 d2 d3 hq1 hq2 hq3
          clear hadj
          try have htb : (t == []) = false := by simpa using ht
          try have htb2 : t.isEmpty = false := by simpa using ht
          go_wp2
          go_roundw
          case rel => exact ⟨m + 1 + 1, by omega, by go_num, hbel.trans (((Below.refl _ _).alloc hz _).alloc (by simp; omega) _)⟩
          case measure => simp [intOf]; omega
    · by_cases hn : ps.length = 0
      · have e0 : ps = [] := List.eq_nil_of_length_eq_zero hn
        subst e0
        go_wp2
        go_ret
        exact ⟨rfl, hbel⟩
      · have hnp : 0 < ps.length := by omega
        obtain ⟨n1, n2⟩ := nf_head ps hN hnp
        have n1b : (ps[0].kind == 1) = false := beq_eq_false_iff_ne.2 n1
        have n2b : (ps[ps.length - 1].kind == 1) = false := beq_eq_false_iff_ne.2 n2
        obtain ⟨b1, o1, rfl, hb1, hc1⟩ := (h1.below (hbel.mono hB)).inl 0 hnp
        have d0 := (hc1 0 hnp).1
        have dl := (hc1 (ps.length - 1) (by omega)).1
        simp only [Nat.zero_mul, Nat.add_zero] at d0
        clear hc1
        have i1 : (0 : Int) < (ps.length : Int) := by omega
        go_wp2
        go_ret
        exact ⟨rfl, hbel⟩
end Go.Proofs.Ybuaaw
