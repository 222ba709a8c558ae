import Derived.Test.YbuaawMem6
import Derived.Test.YbuaawW23
import Derived.Test.YbuaawPlain14
import Derived.Test.YbuaawW5
import Derived.Test.YbuaawW6
import Derived.Test.YbuaawW7
import Derived.Test.YbuaawW12
import Derived.Test.YbuaawW13
namespace Go.Proofs.Ybuaaw
open Go.RowKit
attribute [local go_sem] mk_size mk_toList mk_getElem mk_extract take_len_drop mk_append_lit

set_option maxHeartbeats 1600000 in
theorem repeatByte_any (c : UInt8) (n : Nat) (w : World) (hn : n ≤ 4294967296) :
    Calls Yaac.prog 71 #[.int .u8 c.toNat, .int .i64 n] w fun e w' => e = .returned (.string (mk (List.replicate n c))) ∧ Below w.heap.size w w' := by
  by_cases h0 : n = 0
  · subst h0
    go_enter Yaac.func71, Yaac.ntmps71
    go_wp2
    go_ret
    exact ⟨rfl, Below.refl _ _⟩
  · have h0' : ¬ (n : Int) ≤ 0 := by omega
    have HL : Hid ((List.replicate n c).length = n) := by simp [Hid]
    go_enter Yaac.func71, Yaac.ntmps71
    go_wp2_with (at_make; refine makeE tByte 0 rfl (.tmp 9) w.heap.size n .i64 rfl rfl rfl (by omega) (by omega) ?_; intro w1 ho hb hlt1)
    generalize hl : List.replicate n c = l at *
    have HC : Hid (∀ k (h : k < l.length), l[k] = c) := fun k h => by subst hl; simp
    have HLL : Hid (List.replicate n c = l) := hl
    clear hl
    go_loopw [6] (fun i wr => ∃ (k : Nat), k ≤ n ∧ i = .int .i64 k ∧ Own wr w.heap.size tByte (.slice (some ⟨w.heap.size, 0, none⟩) n n) (l.take k ++ List.replicate (l.length - k) 0) ∧ Below w.heap.size w wr) (fun i _ => n - (intOf i).toNat)
    case atStart => exact ⟨0, Nat.zero_le _, rfl, by rw [HL.out]; simpa using ho, hb⟩
    case round =>
      obtain ⟨k, hk, rfl, hown, hbel⟩ := hrel
      by_cases hlt : k < n
      · have hkl : k < l.length := by rw [HL.out]; exact hlt
        have c1 := hown.cellAt k (by simp; omega) 0 (by simp [tByte])
        have f1 := hown.frozenAt k
        have h2 := hown.store1 k (by simp; omega) l[k] 0 (.int .u8 c.toNat) (by simp [tByte]) (by simp [tByte, HC.out k hkl])
        rw [set_take_rep l 0 k hkl] at h2
        simp only [tByte, Nat.mul_one, Nat.add_zero] at c1 h2
        have i1 : (k : Int) < (n : Int) := by omega
        obtain ⟨v, c3⟩ : ∃ v, wr.cell? ⟨w.heap.size, k, none⟩ = some v := ⟨_, c1⟩
        clear c1
        go_wp2
        go_roundw
        case rel => exact ⟨k + 1, by omega, by go_num, h2, hbel.setCell (Nat.le_refl _) _⟩
        case measure => simp [intOf]; omega
      · have i1 : ¬ (k : Int) < (n : Int) := by omega
        have e1 : l.take k ++ List.replicate (l.length - k) (0 : UInt8) = l := by rw [List.take_of_length_le (by rw [HL.out]; omega)]; simp; rw [HL.out]; omega
        rw [e1] at hown
        have hcv := conv_own hown
        go_wp2
        go_ret
        exact ⟨by rw [HLL.out]; rfl, hbel⟩

set_option maxHeartbeats 1600000 in
theorem repeatS_any (c : UInt8) (n : Nat) (w : World) (hn : n ≤ 4294967296) :
    Calls Yaac.prog 57 #[.int .u8 c.toNat, .int .i64 n] w fun e w' => e = .returned (.string (mk (List.replicate n c))) ∧ Below w.heap.size w w' := by
  by_cases h0 : n = 0
  · subst h0
    go_enter Yaac.func57, Yaac.ntmps57
    go_wp2
    go_ret
    exact ⟨rfl, Below.refl _ _⟩
  · have h0' : ¬ (n : Int) ≤ 0 := by omega
    have HL : Hid ((List.replicate n c).length = n) := by simp [Hid]
    go_enter Yaac.func57, Yaac.ntmps57
    go_wp2_with (at_make; refine makeE tByte 0 rfl (.tmp 9) w.heap.size n .i64 rfl rfl rfl (by omega) (by omega) ?_; intro w1 ho hb hlt1)
    generalize hl : List.replicate n c = l at *
    have HC : Hid (∀ k (h : k < l.length), l[k] = c) := fun k h => by subst hl; simp
    have HLL : Hid (List.replicate n c = l) := hl
    clear hl
    go_loopw [6] (fun i wr => ∃ (k : Nat), k ≤ n ∧ i = .int .i64 k ∧ Own wr w.heap.size tByte (.slice (some ⟨w.heap.size, 0, none⟩) n n) (l.take k ++ List.replicate (l.length - k) 0) ∧ Below w.heap.size w wr) (fun i _ => n - (intOf i).toNat)
    case atStart => exact ⟨0, Nat.zero_le _, rfl, by rw [HL.out]; simpa using ho, hb⟩
    case round =>
      obtain ⟨k, hk, rfl, hown, hbel⟩ := hrel
      by_cases hlt : k < n
      · have hkl : k < l.length := by rw [HL.out]; exact hlt
        have c1 := hown.cellAt k (by simp; omega) 0 (by simp [tByte])
        have f1 := hown.frozenAt k
        have h2 := hown.store1 k (by simp; omega) l[k] 0 (.int .u8 c.toNat) (by simp [tByte]) (by simp [tByte, HC.out k hkl])
        rw [set_take_rep l 0 k hkl] at h2
        simp only [tByte, Nat.mul_one, Nat.add_zero] at c1 h2
        have i1 : (k : Int) < (n : Int) := by omega
        obtain ⟨v, c3⟩ : ∃ v, wr.cell? ⟨w.heap.size, k, none⟩ = some v := ⟨_, c1⟩
        clear c1
        go_wp2
        go_roundw
        case rel => exact ⟨k + 1, by omega, by go_num, h2, hbel.setCell (Nat.le_refl _) _⟩
        case measure => simp [intOf]; omega
      · have i1 : ¬ (k : Int) < (n : Int) := by omega
        have e1 : l.take k ++ List.replicate (l.length - k) (0 : UInt8) = l := by rw [List.take_of_length_le (by rw [HL.out]; omega)]; simp; rw [HL.out]; omega
        rw [e1] at hown
        have hcv := conv_own hown
        go_wp2
        go_ret
        exact ⟨by rw [HLL.out]; rfl, hbel⟩

theorem pOf_any (l : List UInt8) (w : World) (hs : l.length ≤ 134217728) :
    Calls Yaac.prog 72 #[.string (mk l)] w fun e w' => ∃ v', e = .returned v' ∧ OwnR w' w.heap.size tInl v' (pq l) ∧ Below w.heap.size w w' := by
  have hp := pinl_size l
  go_enter Yaac.func72, Yaac.ntmps72
  go_wp2_with fail
  refine (parseInline_any l _ (by omega)).mono ?_
  rintro e w1 ⟨v1, rfl, ho1, hb1⟩
  have z1 := hb1.size
  go_wp2_with fail
  refine (normalize_any (pinl l) _ w1.heap.size _ (Nat.le_refl _) ho1.rdd (by omega) (by omega)).mono ?_
  rintro e w2 ⟨v2, rfl, ho2, hb2⟩
  go_wp2
  go_ret
  exact ⟨_, rfl, ho2.base z1, hb1.trans (hb2.mono z1)⟩
theorem pS_any (l : List UInt8) (w : World) (hs : l.length ≤ 134217728) :
    Calls Yaac.prog 73 #[.string (mk l)] w fun e w' => ∃ v', e = .returned v' ∧ OwnR w' w.heap.size tInl v' (pq l) ∧ Below w.heap.size w w' := by
  have hp := pinl_size l
  go_enter Yaac.func73, Yaac.ntmps73
  go_wp2_with fail
  refine (parseInlineS_any l _ (by omega)).mono ?_
  rintro e w1 ⟨v1, rfl, ho1, hb1⟩
  have z1 := hb1.size
  go_wp2_with fail
  refine (normalizeS_any (pinl l) _ w1.heap.size _ (Nat.le_refl _) ho1.rdd (by omega) (by omega)).mono ?_
  rintro e w2 ⟨v2, rfl, ho2, hb2⟩
  go_wp2
  go_ret
  exact ⟨_, rfl, ho2.base z1, hb1.trans (hb2.mono z1)⟩
theorem cutGo_mem (l cur : List UInt8) (acc : List (List UInt8)) : ∀ x ∈ cutGo l cur acc, x ∈ acc ∨ x.length ≤ cur.length + l.length := by
  induction l generalizing cur acc with
  | nil =>
    intro x hx
    rw [cutGo] at hx
    rcases List.mem_append.1 hx with h | h
    · exact .inl h
    · simp at h; subst h; exact .inr (by simp)
  | cons c l ih =>
    intro x hx
    rw [cutGo] at hx
    split at hx
    · rcases ih _ _ x hx with h | h
      · rcases List.mem_append.1 h with h2 | h2
        · exact .inl h2
        · simp at h2; subst h2; exact .inr (by omega)
      · simp at h; exact .inr (by simp; omega)
    · rcases ih _ _ x hx with h | h
      · exact .inl h
      · simp at h; exact .inr (by simp; omega)
theorem cut_mem (l : List UInt8) : ∀ x ∈ cut l, x.length ≤ l.length := by
  intro x hx
  rcases cutGo_mem l [] [] x hx with h | h
  · cases h
  · simpa using h
theorem own_lit1 (w : World) (B : Nat) (x : List UInt8) (hB : B ≤ w.heap.size) : Own (w.alloc (.cells #[.string (mk x)] 9)) B tStr (.slice (some ⟨w.heap.size, 0, none⟩) 1 1) [x] := by
  have := World.ownsRow_lit (base := B) (e := 9) (size := 1) w #[.string (mk x)] 1 hB (by unfold maxLen; omega) (by simp)
  simpa [Own, cells, tStr] using this
theorem wid_nat (W : Nat) (h : 0 < W) : wid ((W : Nat) : Int) = W := by unfold wid; rw [if_pos (by omega)]; omega
theorem OwnR.blk_ge {α : Type} {T : ET α} {w : World} {B g off n cap : Nat} {l : List α} (h : OwnR w B T (.slice (some ⟨g, off, none⟩) n cap) l) (hl : 0 < l.length) : B ≤ g := by
  obtain ⟨ao, cap', h0, hn, hc, h1⟩ := h
  simp only [Value.slice.injEq] at h0
  obtain ⟨rfl, rfl, rfl⟩ := h0
  rcases h1 with rfl | ⟨g', off', cur, he, hb, hg, ht⟩
  · simp at hl
  · simp only [Option.some.injEq, Addr.mk.injEq] at he
    obtain ⟨rfl, rfl, -⟩ := he
    exact hb
theorem OwnR.notFrozen {α : Type} {T : ET α} {w : World} {B g off n cap : Nat} {l : List α} (h : OwnR w B T (.slice (some ⟨g, off, none⟩) n cap) l) (hl : 0 < l.length) (j : Nat) : w.frozen? ⟨g, j, none⟩ = false := by
  obtain ⟨ao, cap', h0, hn, hc, h1⟩ := h
  simp only [Value.slice.injEq] at h0
  obtain ⟨rfl, rfl, rfl⟩ := h0
  rcases h1 with rfl | ⟨g', off', cur, he, hb, hg, ht⟩
  · simp at hl
  · simp only [Option.some.injEq, Addr.mk.injEq] at he
    obtain ⟨rfl, rfl, -⟩ := he
    simp [World.frozen?, hg]
end Go.Proofs.Ybuaaw
