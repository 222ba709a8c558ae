import Derived.Test.YbuaawMem
import Derived.Test.YbuaawPlain1
namespace Go.Proofs.Ybuaaw
open Go.RowKit
attribute [local go_sem] mk_size mk_toList mk_getElem mk_extract take_len_drop


set_option maxHeartbeats 1600000 in
theorem sameStrs_true (ss : List (List UInt8)) (v1 v2 : Value) (B : Nat) (w : World) (hB : B ≤ w.heap.size) (h1 : Rdd w B tStr v1 ss) (h2 : Rdd w B tStr v2 ss) :
    Calls Yaac.prog 22 #[v1, v2] w fun e w' => e = .returned (.bool true) ∧ Below w.heap.size w w' := by
  have hl := h1.len_le
  unfold maxLen at hl
  obtain ⟨a1, c1, rfl, _, _⟩ := h1.shape
  obtain ⟨a2, c2, rfl, _, _⟩ := h2.shape
  go_enter Yaac.func22, Yaac.ntmps22
  go_wp2
  go_loopw [5] (fun i wr => ∃ k : Nat, k ≤ ss.length ∧ i = .int .i64 k ∧ Below w.heap.size w wr) (fun i _ => ss.length - (intOf i).toNat)
  case atStart => exact ⟨0, Nat.zero_le _, rfl, Below.refl _ _⟩
  case round =>
    obtain ⟨k, hk, rfl, hbel⟩ := hrel
    by_cases hlt : k < ss.length
    · obtain ⟨b1, o1, rfl, _, hc1⟩ := (h1.below (hbel.mono hB)).str k hlt
      obtain ⟨b2, o2, rfl, _, hc2⟩ := (h2.below (hbel.mono hB)).str k hlt
      have d1 := hc1 k hlt
      have d2 := hc2 k hlt
      clear hc1 hc2
      have i1 : (k : Int) < (ss.length : Int) := by omega
      go_wp2
      go_quiet (fail)
      go_wp2
      go_roundw
      case rel => exact ⟨k + 1, by omega, by go_num, below_drewN hbel _⟩
      case measure => simp [intOf]; omega
    · go_wp2
      go_ret
      exact ⟨rfl, hbel⟩

set_option maxHeartbeats 1600000 in
theorem sameInlines_true (ss : List Inl) (v1 v2 : Value) (B : Nat) (w : World) (hB : B ≤ w.heap.size) (h1 : Rdd w B tInl v1 ss) (h2 : Rdd w B tInl v2 ss) :
    Calls Yaac.prog 30 #[v1, v2] w fun e w' => e = .returned (.bool true) ∧ Below w.heap.size w w' := by
  have hl := h1.len_le
  unfold maxLen at hl
  obtain ⟨a1, c1, rfl, _, _⟩ := h1.shape
  obtain ⟨a2, c2, rfl, _, _⟩ := h2.shape
  go_enter Yaac.func30, Yaac.ntmps30
  go_wp2
  go_loopw [5] (fun i wr => ∃ k : Nat, k ≤ ss.length ∧ i = .int .i64 k ∧ Below w.heap.size w wr) (fun i _ => ss.length - (intOf i).toNat)
  case atStart => exact ⟨0, Nat.zero_le _, rfl, Below.refl _ _⟩
  case round =>
    obtain ⟨k, hk, rfl, hbel⟩ := hrel
    by_cases hlt : k < ss.length
    · obtain ⟨b1, o1, rfl, _, hc1⟩ := (h1.below (hbel.mono hB)).inl k hlt
      obtain ⟨b2, o2, rfl, _, hc2⟩ := (h2.below (hbel.mono hB)).inl k hlt
      have d1 := hc1 k hlt
      have d2 := hc2 k hlt
      clear hc1 hc2
      have i1 : (k : Int) < (ss.length : Int) := by omega
      go_wp2
      go_quiet (fail)
      go_wp2
      go_roundw
      case rel => exact ⟨k + 1, by omega, by go_num, below_drewN hbel _⟩
      case measure => simp [intOf]; omega
    · go_wp2
      go_ret
      exact ⟨rfl, hbel⟩

set_option maxHeartbeats 1600000 in
theorem sameFrags_true (ss : List Frg) (v1 v2 : Value) (B : Nat) (w : World) (hB : B ≤ w.heap.size) (h1 : Rdd w B tFrg v1 ss) (h2 : Rdd w B tFrg v2 ss) :
    Calls Yaac.prog 46 #[v1, v2] w fun e w' => e = .returned (.bool true) ∧ Below w.heap.size w w' := by
  have hl := h1.len_le
  unfold maxLen at hl
  obtain ⟨a1, c1, rfl, _, _⟩ := h1.shape
  obtain ⟨a2, c2, rfl, _, _⟩ := h2.shape
  go_enter Yaac.func46, Yaac.ntmps46
  go_wp2
  go_loopw [5] (fun i wr => ∃ k : Nat, k ≤ ss.length ∧ i = .int .i64 k ∧ Below w.heap.size w wr) (fun i _ => ss.length - (intOf i).toNat)
  case atStart => exact ⟨0, Nat.zero_le _, rfl, Below.refl _ _⟩
  case round =>
    obtain ⟨k, hk, rfl, hbel⟩ := hrel
    by_cases hlt : k < ss.length
    · obtain ⟨b1, o1, rfl, _, hc1⟩ := (h1.below (hbel.mono hB)).frg k hlt
      obtain ⟨b2, o2, rfl, _, hc2⟩ := (h2.below (hbel.mono hB)).frg k hlt
      have d1 := hc1 k hlt
      have d2 := hc2 k hlt
      clear hc1 hc2
      have i1 : (k : Int) < (ss.length : Int) := by omega
      go_wp2
      go_quiet (fail)
      go_wp2
      go_roundw
      case rel => exact ⟨k + 1, by omega, by go_num, below_drewN hbel _⟩
      case measure => simp [intOf]; omega
    · go_wp2
      go_ret
      exact ⟨rfl, hbel⟩

set_option maxHeartbeats 1600000 in
theorem sameBlocks_true (ss : List Blk) (v1 v2 : Value) (B : Nat) (w : World) (hB : B ≤ w.heap.size) (h1 : Rdd w B tBlk v1 ss) (h2 : Rdd w B tBlk v2 ss) :
    Calls Yaac.prog 27 #[v1, v2] w fun e w' => e = .returned (.bool true) ∧ Below w.heap.size w w' := by
  have hl := h1.len_le
  unfold maxLen at hl
  obtain ⟨a1, c1, rfl, _, _⟩ := h1.shape
  obtain ⟨a2, c2, rfl, _, _⟩ := h2.shape
  go_enter Yaac.func27, Yaac.ntmps27
  go_wp2
  go_loopw [5] (fun i wr => ∃ k : Nat, k ≤ ss.length ∧ i = .int .i64 k ∧ Below w.heap.size w wr) (fun i _ => ss.length - (intOf i).toNat)
  case atStart => exact ⟨0, Nat.zero_le _, rfl, Below.refl _ _⟩
  case round =>
    obtain ⟨k, hk, rfl, hbel⟩ := hrel
    by_cases hlt : k < ss.length
    · obtain ⟨b1, o1, rfl, _, hc1⟩ := (h1.below (hbel.mono hB)).blk k hlt
      obtain ⟨b2, o2, rfl, _, hc2⟩ := (h2.below (hbel.mono hB)).blk k hlt
      have d1 := hc1 k hlt
      have d2 := hc2 k hlt
      clear hc1 hc2
      have i1 : (k : Int) < (ss.length : Int) := by omega
      go_wp2
      go_quiet (fail)
      go_wp2
      go_roundw
      case rel => exact ⟨k + 1, by omega, by go_num, below_drewN hbel _⟩
      case measure => simp [intOf]; omega
    · go_wp2
      go_ret
      exact ⟨rfl, hbel⟩
end Go.Proofs.Ybuaaw
