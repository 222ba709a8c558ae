import Derived.Test.YbuaawMem2
import Derived.Test.YbuaawPlain3
namespace Go.Proofs.Ybuaaw
open Go.RowKit
attribute [local go_sem] mk_size mk_toList mk_getElem mk_extract take_len_drop mk_append_lit

set_option maxHeartbeats 800000 in
theorem nonSpaceText_any (ps : List Inl) (v : Value) (B : Nat) (w : World) (hB : B ≤ w.heap.size) (h1 : Rdd w B tInl v ps) (hs : ps.length ≤ 4294967296) (ht : tlen ps ≤ 4294967296) :
    Calls Yaac.prog 34 #[v] w fun e w' => e = .returned (.string (mk (nst ps))) ∧ Below w.heap.size w w' := by
  obtain ⟨a1, c1, rfl, _, _⟩ := h1.shape
  go_enter Yaac.func34, Yaac.ntmps34
  go_wp2
  go_loopw [3, 4] (fun v i wr => ∃ (k : Nat) (acc : List UInt8), k ≤ ps.length ∧ i = .int .i64 k ∧ acc.length + tlen (ps.drop k) ≤ tlen ps ∧ Own wr w.heap.size tByte v acc ∧ Below w.heap.size w wr ∧ Hid (nstGo (ps.drop k) acc = nst ps)) (fun _ i _ => ps.length - (intOf i).toNat)
  case atStart => exact ⟨0, [], Nat.zero_le _, rfl, by simp, Own.nil _ _ _, Below.refl _ _, by rw [List.drop_zero, nstGo_eq]; exact rfl⟩
  case round =>
    obtain ⟨k, acc, hk, rfl, hacc, hown, hbel, hr⟩ := hrel
    obtain ⟨ao, cap, rfl⟩ := hown.shape
    have hz := hbel.size
    by_cases hlt : k < ps.length
    · obtain ⟨b1, o1, rfl, hb1, hc1⟩ := (h1.below (hbel.mono hB)).inl k hlt
      obtain ⟨d1, d2, d3⟩ := hc1 k hlt
      clear hc1
      have i1 : (k : Int) < (ps.length : Int) := by omega
      rw [tlen_at ps k hlt] at hacc
      by_cases hk1 : ps[k].kind = 1
      · have hkb : (ps[k].kind != 1) = false := by simp [hk1]
        have HE : Hid (nstGo (ps.drop (k + 1)) acc = nst ps) := by rw [← hr.out, nstGo_at ps acc k hlt, if_pos hk1]; exact rfl
        clear hk1 hr
        go_wp2
        go_roundw
        case rel => exact ⟨k + 1, acc, by omega, by go_num, by omega, hown, hbel, HE⟩
        case measure => simp [intOf]; omega
      · have hkb : (ps[k].kind != 1) = true := by simp [hk1]
        have HE : Hid (nstGo (ps.drop (k + 1)) (acc ++ ps[k].text) = nst ps) := by rw [← hr.out, nstGo_at ps acc k hlt, if_neg hk1]; exact rfl
        clear hr
        go_wp2_with (at_builtin; refine appS (.tmp 17) (.tmp 22) w.heap.size _ acc hown ps[k].text rfl rfl rfl rfl (by omega) (by omega) ?_)
        intro ao' cap' w1 ho hgr hb2
        go_wp2
        go_roundw
        case rel => exact ⟨k + 1, acc ++ ps[k].text, by omega, by go_num, by simp; omega, ho, hbel.trans hb2, HE⟩
        case measure => simp [intOf]; omega
    · have hcv := conv_own hown
      go_wp2
      go_ret
      exact ⟨ret_str (by rw [← hr.out, List.drop_of_length_le (by omega), nstGo]), hbel⟩

set_option maxHeartbeats 800000 in
theorem fragText_any (ps : List Frg) (v : Value) (B : Nat) (w : World) (hB : B ≤ w.heap.size) (h1 : Rdd w B tFrg v ps) (hs : ps.length ≤ 4294967296) (ht : flen ps ≤ 4294967296) :
    Calls Yaac.prog 42 #[v] w fun e w' => e = .returned (.string (mk (ftx ps))) ∧ Below w.heap.size w w' := by
  obtain ⟨a1, c1, rfl, _, _⟩ := h1.shape
  go_enter Yaac.func42, Yaac.ntmps42
  go_wp2
  go_loopw [3, 4] (fun v i wr => ∃ (k : Nat) (acc : List UInt8), k ≤ ps.length ∧ i = .int .i64 k ∧ acc.length + flen (ps.drop k) ≤ flen ps ∧ Own wr w.heap.size tByte v acc ∧ Below w.heap.size w wr ∧ Hid (acc ++ ftx (ps.drop k) = ftx ps)) (fun _ i _ => ps.length - (intOf i).toNat)
  case atStart => exact ⟨0, [], Nat.zero_le _, rfl, by simp, Own.nil _ _ _, Below.refl _ _, rfl⟩
  case round =>
    obtain ⟨k, acc, hk, rfl, hacc, hown, hbel, hr⟩ := hrel
    obtain ⟨ao, cap, rfl⟩ := hown.shape
    have hz := hbel.size
    by_cases hlt : k < ps.length
    · obtain ⟨b1, o1, rfl, hb1, hc1⟩ := (h1.below (hbel.mono hB)).frg k hlt
      obtain ⟨d1, d2, d3, d4⟩ := hc1 k hlt
      clear hc1
      have i1 : (k : Int) < (ps.length : Int) := by omega
      rw [flen_at ps k hlt] at hacc
      have HE : Hid (acc ++ ps[k].text ++ ftx (ps.drop (k + 1)) = ftx ps) := by rw [← hr.out, ftx_at ps k hlt, List.append_assoc]; exact rfl
      clear hr
      go_wp2_with (at_builtin; refine appS (.tmp 11) (.tmp 16) w.heap.size _ acc hown ps[k].text rfl rfl rfl rfl (by omega) (by omega) ?_)
      intro ao' cap' w1 ho hgr hb2
      go_wp2
      go_roundw
      case rel => exact ⟨k + 1, acc ++ ps[k].text, by omega, by go_num, by simp; omega, ho, hbel.trans hb2, HE⟩
      case measure => simp [intOf]; omega
    · have hcv := conv_own hown
      go_wp2
      go_ret
      exact ⟨ret_str (by rw [← hr.out, List.drop_of_length_le (by omega), ftx, List.append_nil]), hbel⟩
end Go.Proofs.Ybuaaw
