import Derived.Test.YbuaawMem2
import Derived.Test.YbuaawPlain1
import Derived.Deep.RegionHeld3
import Derived.Deep.DrawnRows
namespace Go.Proofs.Ybuaaw
open Go.RowKit
attribute [local go_sem] mk_size mk_toList mk_getElem mk_extract take_len_drop mk_append_lit

theorem set_take_rep {α : Type} (l : List α) (z : α) (k : Nat) (hk : k < l.length) : (l.take k ++ List.replicate (l.length - k) z).set k l[k] = l.take (k + 1) ++ List.replicate (l.length - (k + 1)) z := by
  have e1 : l.length - k = (l.length - (k + 1)) + 1 := by omega
  rw [e1, List.replicate_succ, List.set_append_right _ _ (by simp; omega)]
  have e2 : k - (l.take k).length = 0 := by simp; omega
  rw [e2, List.set_cons_zero, List.take_succ_eq_append_getElem hk, List.append_assoc]
  rfl

set_option maxHeartbeats 800000 in
theorem freshStr_any (l : List UInt8) (w : World) (hs : l.length ≤ 4294967296) :
    Calls Yaac.prog 68 #[.string (mk l)] w fun e w' => e = .returned (.string (mk l)) ∧ Below w.heap.size w w' := by
  go_enter Yaac.func68, Yaac.ntmps68
  go_wp2_with (at_make; refine makeE tByte 0 rfl (.tmp 6) w.heap.size l.length .i64 rfl rfl rfl (by omega) (by omega) ?_; intro w1 ho hb hlt1)
  go_loopw [4] (fun i wr => ∃ (k : Nat), k ≤ l.length ∧ i = .int .i64 k ∧ Own wr w.heap.size tByte (.slice (some ⟨w.heap.size, 0, none⟩) l.length l.length) (l.take k ++ List.replicate (l.length - k) 0) ∧ Below w.heap.size w wr) (fun i _ => l.length - (intOf i).toNat)
  case atStart => exact ⟨0, Nat.zero_le _, rfl, by simpa using ho, hb⟩
  case round =>
    obtain ⟨k, hk, rfl, hown, hbel⟩ := hrel
    have hll : (l.take k ++ List.replicate (l.length - k) (0 : UInt8)).length = l.length := by simp; omega
    by_cases hlt : k < l.length
    · have c1 := hown.cellAt k (by omega) 0 (by simp [tByte])
      have f1 := hown.frozenAt k
      have h2 := hown.store1 k (by omega) l[k] 0 (.int .u8 l[k].toNat) (by simp [tByte]) rfl
      rw [set_take_rep l 0 k hlt] at h2
      simp only [tByte, Nat.mul_one, Nat.add_zero] at c1 h2
      have i1 : (k : Int) < (l.length : Int) := by omega
      have c2 : ∃ v, wr.cell? ⟨w.heap.size, k, none⟩ = some v := ⟨_, c1⟩
      obtain ⟨v, c3⟩ := c2
      clear c1
      go_wp2
      go_roundw
      case rel => exact ⟨k + 1, by omega, by go_num, h2, hbel.setCell (Nat.le_refl _) _⟩
      case measure => simp [intOf]; omega
    · have e1 : l.take k ++ List.replicate (l.length - k) (0 : UInt8) = l := by rw [List.take_of_length_le (by omega)]; simp; omega
      rw [e1] at hown
      have hcv := conv_own hown
      go_wp2
      go_ret
      exact ⟨rfl, hbel⟩

set_option maxHeartbeats 1600000 in
theorem cpInlines_any (ps : List Inl) (v : Value) (B : Nat) (w : World) (hB : B ≤ w.heap.size) (h1 : Rdd w B tInl v ps) (hs : ps.length ≤ 4294967296) (ht : ∀ p ∈ ps, p.text.length ≤ 4294967296) :
    Calls Yaac.prog 36 #[v] w fun e w' => ∃ v', e = .returned v' ∧ Own w' w.heap.size tInl v' ps ∧ Below w.heap.size w w' := by
  obtain ⟨a1, c1, rfl, _, _⟩ := h1.shape
  go_enter Yaac.func36, Yaac.ntmps36
  go_wp2_with (at_make; refine makeE tInl ⟨0, 0, []⟩ rfl (.tmp 6) w.heap.size ps.length .i64 rfl rfl rfl (by omega) (by omega) ?_; intro w1 ho hb hlt1)
  go_loopw [4] (fun i wr => ∃ (k : Nat), k ≤ ps.length ∧ i = .int .i64 k ∧ Own wr w.heap.size tInl (.slice (some ⟨w.heap.size, 0, none⟩) ps.length ps.length) (ps.take k ++ List.replicate (ps.length - k) ⟨0, 0, []⟩) ∧ Below w.heap.size w wr) (fun i _ => ps.length - (intOf i).toNat)
  case atStart => exact ⟨0, Nat.zero_le _, rfl, by simpa using ho, hb⟩
  case round =>
    obtain ⟨k, hk, rfl, hown, hbel⟩ := hrel
    have hll : (ps.take k ++ List.replicate (ps.length - k) (⟨0, 0, []⟩ : Inl)).length = ps.length := by simp; omega
    by_cases hlt : k < ps.length
    · obtain ⟨b1, o1, rfl, hb1, hc1⟩ := (h1.below (hbel.mono hB)).inl k hlt
      obtain ⟨d1, d2, d3⟩ := hc1 k hlt
      have i1 : (k : Int) < (ps.length : Int) := by omega
      have i0 : (0 : Int) ≤ (k : Int) := by omega
      have hlen := ht ps[k] (List.getElem_mem hlt)
      have z1 := hbel.size
      have z2 : w.heap.size < wr.heap.size := (hown.lt rfl).2
      have hst0 := hown.cellAt k (by omega) 0 (by simp [tInl])
      have hst1 := hown.cellAt k (by omega) 1 (by simp [tInl])
      have hst2 := hown.cellAt k (by omega) 2 (by simp [tInl])
      have f0 := hown.frozenAt (k * 3)
      have f1 := hown.frozenAt (k * 3 + 1)
      have f2 := hown.frozenAt (k * 3 + 2)
      obtain ⟨x0, s0⟩ : ∃ x, wr.cell? ⟨w.heap.size, k * 3, none⟩ = some x := ⟨_, hst0⟩
      obtain ⟨x1, s1⟩ : ∃ x, wr.cell? ⟨w.heap.size, k * 3 + 1, none⟩ = some x := ⟨_, hst1⟩
      obtain ⟨x2, s2⟩ : ∃ x, wr.cell? ⟨w.heap.size, k * 3 + 2, none⟩ = some x := ⟨_, hst2⟩
      clear hst0 hst1 hst2 hc1
      go_wp2
      go_region_held3 (fun w' => w'.cell? ⟨b1, o1 + k * 3, none⟩ = some (.int .i64 ps[k].kind) ∧ w'.cell? ⟨b1, o1 + k * 3 + 1, none⟩ = some (.int .i64 ps[k].style) ∧ w'.cell? ⟨b1, o1 + k * 3 + 2, none⟩ = some (.string (mk ps[k].text)))
        (first | exact ⟨g1, g2, g3⟩ | (refine ⟨?_, ?_, ?_⟩ <;> (rw [cell_set3 (by simp; omega)]; assumption)) | go_keep)
        (first | (go_at_call 68; refine (freshStr_any ps[k].text _ hlen).mono ?_; rintro e w2 ⟨rfl, hb2⟩; have g1 := (hb2.cell (p := ⟨b1, o1 + k * 3, none⟩) (by simp; omega)).trans (by simpa using d1); have g2 := (hb2.cell (p := ⟨b1, o1 + k * 3 + 1, none⟩) (by simp; omega)).trans (by simpa using d2); have g3 := (hb2.cell (p := ⟨b1, o1 + k * 3 + 2, none⟩) (by simp; omega)).trans (by simpa using d3); have t0 := (hb2.cell (p := ⟨w.heap.size, k * 3, none⟩) (by simp; omega)).trans (by simpa using s0); have t1 := (hb2.cell (p := ⟨w.heap.size, k * 3 + 1, none⟩) (by simp; omega)).trans (by simpa using s1); have t2 := (hb2.cell (p := ⟨w.heap.size, k * 3 + 2, none⟩) (by simp; omega)).trans (by simpa using s2); have e0 := (hb2.frozen (p := ⟨w.heap.size, k * 3, none⟩) (by simp; omega)).trans (by simpa using f0); have e1 := (hb2.frozen (p := ⟨w.heap.size, k * 3 + 1, none⟩) (by simp; omega)).trans (by simpa using f1); have e2 := (hb2.frozen (p := ⟨w.heap.size, k * 3 + 2, none⟩) (by simp; omega)).trans (by simpa using f2)))
      have h3 := (Own.below (Own.drew hown) hb2).storeInl k (by omega) ps[k]
      rw [set_take_rep ps ⟨0, 0, []⟩ k hlt] at h3
      have hb3 : Below w.heap.size w w2 := hbel.trans ((below_of_drew hb2).mono z1)
      clear t0 t1 t2 e0 e1 e2 s0 s1 s2 f0 f1 f2 g1 d1 g2 d2 g3 d3
      go_wp2
      go_roundw
      case rel => exact ⟨k + 1, by omega, by go_num, h3, (((hb3.setCell (Nat.le_refl _) _).setCell (Nat.le_refl _) _).setCell (Nat.le_refl _) _)⟩
      case measure => simp [intOf]; omega
    · have e1 : ps.take k ++ List.replicate (ps.length - k) (⟨0, 0, []⟩ : Inl) = ps := by rw [List.take_of_length_le (by omega)]; simp; omega
      rw [e1] at hown
      go_wp2
      go_ret
      exact ⟨_, rfl, hown, hbel⟩

set_option maxHeartbeats 1600000 in
theorem cpFrags_any (ps : List Frg) (v : Value) (B : Nat) (w : World) (hB : B ≤ w.heap.size) (h1 : Rdd w B tFrg v ps) (hs : ps.length ≤ 4294967296) (ht : ∀ p ∈ ps, p.text.length ≤ 4294967296) :
    Calls Yaac.prog 45 #[v] w fun e w' => ∃ v', e = .returned v' ∧ Own w' w.heap.size tFrg v' ps ∧ Below w.heap.size w w' := by
  obtain ⟨a1, c1, rfl, _, _⟩ := h1.shape
  go_enter Yaac.func45, Yaac.ntmps45
  go_wp2_with (at_make; refine makeE tFrg ⟨0, 0, 0, []⟩ rfl (.tmp 6) w.heap.size ps.length .i64 rfl rfl rfl (by omega) (by omega) ?_; intro w1 ho hb hlt1)
  go_loopw [4] (fun i wr => ∃ (k : Nat), k ≤ ps.length ∧ i = .int .i64 k ∧ Own wr w.heap.size tFrg (.slice (some ⟨w.heap.size, 0, none⟩) ps.length ps.length) (ps.take k ++ List.replicate (ps.length - k) ⟨0, 0, 0, []⟩) ∧ Below w.heap.size w wr) (fun i _ => ps.length - (intOf i).toNat)
  case atStart => exact ⟨0, Nat.zero_le _, rfl, by simpa using ho, hb⟩
  case round =>
    obtain ⟨k, hk, rfl, hown, hbel⟩ := hrel
    have hll : (ps.take k ++ List.replicate (ps.length - k) (⟨0, 0, 0, []⟩ : Frg)).length = ps.length := by simp; omega
    by_cases hlt : k < ps.length
    · obtain ⟨b1, o1, rfl, hb1, hc1⟩ := (h1.below (hbel.mono hB)).frg k hlt
      obtain ⟨d1, d2, d3, d4⟩ := hc1 k hlt
      have i1 : (k : Int) < (ps.length : Int) := by omega
      have i0 : (0 : Int) ≤ (k : Int) := by omega
      have hlen := ht ps[k] (List.getElem_mem hlt)
      have z1 := hbel.size
      have z2 : w.heap.size < wr.heap.size := (hown.lt rfl).2
      have hst0 := hown.cellAt k (by omega) 0 (by simp [tFrg])
      have hst1 := hown.cellAt k (by omega) 1 (by simp [tFrg])
      have hst2 := hown.cellAt k (by omega) 2 (by simp [tFrg])
      have hst3 := hown.cellAt k (by omega) 3 (by simp [tFrg])
      have f0 := hown.frozenAt (k * 4)
      have f1 := hown.frozenAt (k * 4 + 1)
      have f2 := hown.frozenAt (k * 4 + 2)
      have f3 := hown.frozenAt (k * 4 + 3)
      obtain ⟨x0, s0⟩ : ∃ x, wr.cell? ⟨w.heap.size, k * 4, none⟩ = some x := ⟨_, hst0⟩
      obtain ⟨x1, s1⟩ : ∃ x, wr.cell? ⟨w.heap.size, k * 4 + 1, none⟩ = some x := ⟨_, hst1⟩
      obtain ⟨x2, s2⟩ : ∃ x, wr.cell? ⟨w.heap.size, k * 4 + 2, none⟩ = some x := ⟨_, hst2⟩
      obtain ⟨x3, s3⟩ : ∃ x, wr.cell? ⟨w.heap.size, k * 4 + 3, none⟩ = some x := ⟨_, hst3⟩
      clear hst0 hst1 hst2 hst3 hc1
      go_wp2
      go_region_held3 (fun w' => w'.cell? ⟨b1, o1 + k * 4, none⟩ = some (.int .i64 ps[k].brk) ∧ w'.cell? ⟨b1, o1 + k * 4 + 1, none⟩ = some (.int .i64 ps[k].kind) ∧ w'.cell? ⟨b1, o1 + k * 4 + 2, none⟩ = some (.int .i64 ps[k].style) ∧ w'.cell? ⟨b1, o1 + k * 4 + 3, none⟩ = some (.string (mk ps[k].text)))
        (first | exact ⟨g1, g2, g3, g4⟩ | (refine ⟨?_, ?_, ?_, ?_⟩ <;> (rw [cell_set4 (by simp; omega)]; assumption)) | go_keep)
        (first | (go_at_call 68; refine (freshStr_any ps[k].text _ hlen).mono ?_; rintro e w2 ⟨rfl, hb2⟩; have g1 := (hb2.cell (p := ⟨b1, o1 + k * 4, none⟩) (by simp; omega)).trans (by simpa using d1); have g2 := (hb2.cell (p := ⟨b1, o1 + k * 4 + 1, none⟩) (by simp; omega)).trans (by simpa using d2); have g3 := (hb2.cell (p := ⟨b1, o1 + k * 4 + 2, none⟩) (by simp; omega)).trans (by simpa using d3); have g4 := (hb2.cell (p := ⟨b1, o1 + k * 4 + 3, none⟩) (by simp; omega)).trans (by simpa using d4); have t0 := (hb2.cell (p := ⟨w.heap.size, k * 4, none⟩) (by simp; omega)).trans (by simpa using s0); have t1 := (hb2.cell (p := ⟨w.heap.size, k * 4 + 1, none⟩) (by simp; omega)).trans (by simpa using s1); have t2 := (hb2.cell (p := ⟨w.heap.size, k * 4 + 2, none⟩) (by simp; omega)).trans (by simpa using s2); have t3 := (hb2.cell (p := ⟨w.heap.size, k * 4 + 3, none⟩) (by simp; omega)).trans (by simpa using s3); have e0 := (hb2.frozen (p := ⟨w.heap.size, k * 4, none⟩) (by simp; omega)).trans (by simpa using f0); have e1 := (hb2.frozen (p := ⟨w.heap.size, k * 4 + 1, none⟩) (by simp; omega)).trans (by simpa using f1); have e2 := (hb2.frozen (p := ⟨w.heap.size, k * 4 + 2, none⟩) (by simp; omega)).trans (by simpa using f2); have e3 := (hb2.frozen (p := ⟨w.heap.size, k * 4 + 3, none⟩) (by simp; omega)).trans (by simpa using f3)))
      have h3 := (Own.below (Own.drew hown) hb2).storeFrg k (by omega) ps[k]
      rw [set_take_rep ps ⟨0, 0, 0, []⟩ k hlt] at h3
      have hb3 : Below w.heap.size w w2 := hbel.trans ((below_of_drew hb2).mono z1)
      clear t0 t1 t2 t3 e0 e1 e2 e3 s0 s1 s2 s3 f0 f1 f2 f3 g1 d1 g2 d2 g3 d3 g4 d4
      go_wp2
      go_roundw
      case rel => exact ⟨k + 1, by omega, by go_num, h3, ((((hb3.setCell (Nat.le_refl _) _).setCell (Nat.le_refl _) _).setCell (Nat.le_refl _) _).setCell (Nat.le_refl _) _)⟩
      case measure => simp [intOf]; omega
    · have e1 : ps.take k ++ List.replicate (ps.length - k) (⟨0, 0, 0, []⟩ : Frg) = ps := by rw [List.take_of_length_le (by omega)]; simp; omega
      rw [e1] at hown
      go_wp2
      go_ret
      exact ⟨_, rfl, hown, hbel⟩

set_option maxHeartbeats 1600000 in
theorem cpBlocks_any (ps : List Blk) (v : Value) (B : Nat) (w : World) (hB : B ≤ w.heap.size) (h1 : Rdd w B tBlk v ps) (hs : ps.length ≤ 4294967296) (ht : ∀ p ∈ ps, p.text.length ≤ 4294967296) :
    Calls Yaac.prog 54 #[v] w fun e w' => ∃ v', e = .returned v' ∧ Own w' w.heap.size tBlk v' ps ∧ Below w.heap.size w w' := by
  obtain ⟨a1, c1, rfl, _, _⟩ := h1.shape
  go_enter Yaac.func54, Yaac.ntmps54
  go_wp2_with (at_make; refine makeE tBlk ⟨0, 0, []⟩ rfl (.tmp 6) w.heap.size ps.length .i64 rfl rfl rfl (by omega) (by omega) ?_; intro w1 ho hb hlt1)
  go_loopw [4] (fun i wr => ∃ (k : Nat), k ≤ ps.length ∧ i = .int .i64 k ∧ Own wr w.heap.size tBlk (.slice (some ⟨w.heap.size, 0, none⟩) ps.length ps.length) (ps.take k ++ List.replicate (ps.length - k) ⟨0, 0, []⟩) ∧ Below w.heap.size w wr) (fun i _ => ps.length - (intOf i).toNat)
  case atStart => exact ⟨0, Nat.zero_le _, rfl, by simpa using ho, hb⟩
  case round =>
    obtain ⟨k, hk, rfl, hown, hbel⟩ := hrel
    have hll : (ps.take k ++ List.replicate (ps.length - k) (⟨0, 0, []⟩ : Blk)).length = ps.length := by simp; omega
    by_cases hlt : k < ps.length
    · obtain ⟨b1, o1, rfl, hb1, hc1⟩ := (h1.below (hbel.mono hB)).blk k hlt
      obtain ⟨d1, d2, d3⟩ := hc1 k hlt
      have i1 : (k : Int) < (ps.length : Int) := by omega
      have i0 : (0 : Int) ≤ (k : Int) := by omega
      have hlen := ht ps[k] (List.getElem_mem hlt)
      have z1 := hbel.size
      have z2 : w.heap.size < wr.heap.size := (hown.lt rfl).2
      have hst0 := hown.cellAt k (by omega) 0 (by simp [tBlk])
      have hst1 := hown.cellAt k (by omega) 1 (by simp [tBlk])
      have hst2 := hown.cellAt k (by omega) 2 (by simp [tBlk])
      have f0 := hown.frozenAt (k * 3)
      have f1 := hown.frozenAt (k * 3 + 1)
      have f2 := hown.frozenAt (k * 3 + 2)
      obtain ⟨x0, s0⟩ : ∃ x, wr.cell? ⟨w.heap.size, k * 3, none⟩ = some x := ⟨_, hst0⟩
      obtain ⟨x1, s1⟩ : ∃ x, wr.cell? ⟨w.heap.size, k * 3 + 1, none⟩ = some x := ⟨_, hst1⟩
      obtain ⟨x2, s2⟩ : ∃ x, wr.cell? ⟨w.heap.size, k * 3 + 2, none⟩ = some x := ⟨_, hst2⟩
      clear hst0 hst1 hst2 hc1
      go_wp2
      go_region_held3 (fun w' => w'.cell? ⟨b1, o1 + k * 3, none⟩ = some (.int .i64 ps[k].kind) ∧ w'.cell? ⟨b1, o1 + k * 3 + 1, none⟩ = some (.int .i64 ps[k].level) ∧ w'.cell? ⟨b1, o1 + k * 3 + 2, none⟩ = some (.string (mk ps[k].text)))
        (first | exact ⟨g1, g2, g3⟩ | (refine ⟨?_, ?_, ?_⟩ <;> (rw [cell_set3 (by simp; omega)]; assumption)) | go_keep)
        (first | (go_at_call 68; refine (freshStr_any ps[k].text _ hlen).mono ?_; rintro e w2 ⟨rfl, hb2⟩; have g1 := (hb2.cell (p := ⟨b1, o1 + k * 3, none⟩) (by simp; omega)).trans (by simpa using d1); have g2 := (hb2.cell (p := ⟨b1, o1 + k * 3 + 1, none⟩) (by simp; omega)).trans (by simpa using d2); have g3 := (hb2.cell (p := ⟨b1, o1 + k * 3 + 2, none⟩) (by simp; omega)).trans (by simpa using d3); have t0 := (hb2.cell (p := ⟨w.heap.size, k * 3, none⟩) (by simp; omega)).trans (by simpa using s0); have t1 := (hb2.cell (p := ⟨w.heap.size, k * 3 + 1, none⟩) (by simp; omega)).trans (by simpa using s1); have t2 := (hb2.cell (p := ⟨w.heap.size, k * 3 + 2, none⟩) (by simp; omega)).trans (by simpa using s2); have e0 := (hb2.frozen (p := ⟨w.heap.size, k * 3, none⟩) (by simp; omega)).trans (by simpa using f0); have e1 := (hb2.frozen (p := ⟨w.heap.size, k * 3 + 1, none⟩) (by simp; omega)).trans (by simpa using f1); have e2 := (hb2.frozen (p := ⟨w.heap.size, k * 3 + 2, none⟩) (by simp; omega)).trans (by simpa using f2)))
      have h3 := (Own.below (Own.drew hown) hb2).storeBlk k (by omega) ps[k]
      rw [set_take_rep ps ⟨0, 0, []⟩ k hlt] at h3
      have hb3 : Below w.heap.size w w2 := hbel.trans ((below_of_drew hb2).mono z1)
      clear t0 t1 t2 e0 e1 e2 s0 s1 s2 f0 f1 f2 g1 d1 g2 d2 g3 d3
      go_wp2
      go_roundw
      case rel => exact ⟨k + 1, by omega, by go_num, h3, (((hb3.setCell (Nat.le_refl _) _).setCell (Nat.le_refl _) _).setCell (Nat.le_refl _) _)⟩
      case measure => simp [intOf]; omega
    · have e1 : ps.take k ++ List.replicate (ps.length - k) (⟨0, 0, []⟩ : Blk) = ps := by rw [List.take_of_length_le (by omega)]; simp; omega
      rw [e1] at hown
      go_wp2
      go_ret
      exact ⟨_, rfl, hown, hbel⟩

end Go.Proofs.Ybuaaw
