import Derived.Test.YbuaawW4
import Derived.Test.YbuaawW17
import Derived.Deep.RegionHeld3
namespace Go.Proofs.Ybuaaw
open Go.RowKit
attribute [local go_sem] mk_size mk_toList mk_getElem mk_extract take_len_drop mk_append_lit

theorem held_step {b off : Nat} {w3 W w9 : World} {v : Value} (hB : b < w3.heap.size) (hb9 : Below W.heap.size W w9) (hS : W.cell? ⟨b, off, none⟩ = some v ∧ Below w3.heap.size w3 W) :
    w9.cell? ⟨b, off, none⟩ = some v ∧ Below w3.heap.size w3 w9 :=
  have z := hS.2.size
  ⟨(hb9.cell (by simp; omega)).trans hS.1, hS.2.trans (hb9.mono z)⟩
theorem split_mem_len (l : List UInt8) (hl : l.length ≤ 1048576) (k : Nat) (hk : k < (splitS l).length) : (splitS l)[k].length ≤ 4294967296 := by
  have : ∀ s, s = splitS l → ∀ hk : k < s.length, s[k].length ≤ 4294967296 := by
    intro s hs hk
    have e : s = split l := by rw [hs, split_eq]
    subst e
    have := split_mem l k hk
    omega
  exact this _ rfl hk
theorem split_len_s (l : List UInt8) : (splitS l).length ≤ l.length + 1 := by rw [split_eq]; exact split_len l

set_option maxRecDepth 100000 in
set_option maxHeartbeats 4000000 in
theorem fnClassify_walkL (l : List UInt8) (hl : l.length ≤ 1048576) (w : World) :
    Calls Yaac.prog 5 #[.string (mk l)] w fun e w' => e = .returned (.bool true) ∧ Below w.heap.size w w' := by
  have hne : ¬ (1048576 : Int) < (l.length : Int) := by omega
  have hsl := split_len_s l
  have hmem := split_mem_len l hl
  go_enter Yaac.func5, Yaac.ntmps5
  go_wp2_with fail
  refine (classify_any l _ (by omega)).mono ?_
  rintro e w1 ⟨rfl, hb1⟩
  unfold liV
  go_wp2_with fail
  refine (classifyS_any l _ (by omega)).mono ?_
  rintro e w2 ⟨rfl, hb2⟩
  unfold liV
  go_wp2_with fail
  refine (splitLinesS_any l _ (by omega)).mono ?_
  rintro e w3 ⟨v3, rfl, hr3, hb3⟩
  have z1 := hb1.size
  have z2 := hb2.size
  have z3 := hb3.size
  obtain ⟨ao, cap, rfl, _, _⟩ := hr3.shape
  have hbw : Below w.heap.size w w3 := (hb1.trans (hb2.mono z1)).trans (hb3.mono (by omega))
  go_wp2
  generalize splitS l = ls at *
  clear hb1 hb2 hb3
  go_loopw [4] (fun iv wr => ∃ k : Nat, k ≤ ls.length ∧ iv = .int .i64 k ∧ Below w3.heap.size w3 wr) (fun iv _ => ls.length - (intOf iv).toNat)
  case atStart => exact ⟨0, Nat.zero_le _, rfl, Below.refl _ _⟩
  case round =>
    obtain ⟨k, hk, rfl, hbk⟩ := hrel
    have zk := hbk.size
    by_cases hlt : k < ls.length
    · obtain ⟨b1, o1, rfl, hb1, hc1⟩ := hr3.str k hlt
      have d1 := hc1 k hlt
      have d2 := (hbk.cell (p := ⟨b1, o1 + k, none⟩) (by simp; omega)).trans d1
      clear hc1
      have i1 : (k : Int) < (ls.length : Int) := by omega
      have hlen := hmem k hlt
      clear hr3 hmem
      generalize ls[k] = x at *
      obtain ⟨c, hc⟩ : ∃ c, c = classify x := ⟨_, rfl⟩
      obtain ⟨kd, lv, ct⟩ := c
      have HC1 : ∀ W, Calls Yaac.prog 24 #[.string (mk x)] W fun e w' => e = .returned (.agg #[.int .i64 kd, .int .i64 lv, .string (mk ct)]) ∧ Below W.heap.size W w' := fun W => by
        have := classify_any x W hlen
        rw [← hc] at this
        exact this
      have HC2 : ∀ W, Calls Yaac.prog 25 #[.string (mk x)] W fun e w' => e = .returned (.agg #[.int .i64 kd, .int .i64 lv, .string (mk ct)]) ∧ Below W.heap.size W w' := fun W => by
        have := classifyS_any x W hlen
        rw [← hc] at this
        exact this
      clear hc
      go_wp2
      go_region_held3 (fun w' => w'.cell? ⟨b1, o1 + k, none⟩ = some (.string (mk x)) ∧ Below w3.heap.size w3 w')
        (first | exact ⟨by simpa using d2, hbk.drew⟩ | exact held_step hb1 hb9 (by assumption) | go_keep)
        (first | (go_at_call 24; refine (HC1 _).mono ?_; rintro e w9 ⟨rfl, hb9⟩) | (go_at_call 25; refine (HC2 _).mono ?_; rintro e w9 ⟨rfl, hb9⟩))
      all_goals
        rename_i hx
        go_wp2
        go_roundw
        case rel => exact ⟨k + 1, by omega, by go_num, (hx).2⟩
        case measure => simp [intOf]; omega
    · go_wp2
      go_ret
      exact ⟨rfl, hbw.trans (hbk.mono (by omega))⟩

theorem fnClassify_walk (a0 : ByteArray) (w0 : a0.size ≤ maxLen) (w : World) :
    Calls Yaac.prog 5 #[.string a0] w fun e w' => e = .returned (.bool true) ∧ Below w.heap.size w w' := by
  rw [← mk_of a0]
  have e1 : a0.size = a0.toList.length := by rw [← mk_size, mk_of]
  rw [e1] at w0
  generalize a0.toList = l at w0 ⊢
  by_cases hl : l.length ≤ 1048576
  · exact fnClassify_walkL l hl w
  · unfold maxLen at w0
    have hne : (1048576 : Int) < (l.length : Int) := by omega
    go_enter Yaac.func5, Yaac.ntmps5
    go_wp2
    go_ret
    exact ⟨rfl, Below.refl _ _⟩
end Go.Proofs.Ybuaaw
