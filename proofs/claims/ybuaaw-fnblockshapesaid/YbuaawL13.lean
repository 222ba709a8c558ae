import Derived.Test.YbuaawW3
import Derived.Test.YbuaawW35
namespace Go.Proofs.Ybuaaw
open Go.RowKit
attribute [local go_sem] mk_size mk_toList mk_getElem mk_extract take_len_drop mk_append_lit

theorem i64_max {n : Int} (h : (Lit.int .i64 n).wf = true) : n ≤ 9223372036854775807 := by
  have hmax : IntKind.i64.max = 9223372036854775807 := rfl
  simp only [Lit.wf, Bool.and_eq_true, decide_eq_true_eq] at h
  omega
theorem rblock_cnt (W : Nat) (hW : 0 < W) (b : Blk) (hb : b.text.length ≤ 67108864) : (rblock W b).length ≤ 4294967296 := by
  have hp := pq_size b.text
  have hit : ∀ (ls acc : List (List UInt8)) (i : Nat), (itGo ls i acc).length = acc.length + ls.length := by
    intro ls
    induction ls with
    | nil => intro acc i; simp [itGo]
    | cons l ls ih => intro acc i; rw [itGo, ih]; simp; omega
  unfold rblock
  split
  · rw [qGo_acc]; have := (cut_len b.text).1; simp; omega
  · split
    · simp
    · split
      · have := (rl_size W hW (hdg (norm (pinl b.text)))).1
        rw [hdg_tlen] at this
        unfold pq at hp
        simp; omega
      · unfold pq at hp
        split
        · have := (rl_size (iw W) (iw_pos W) (norm (pinl b.text))).1
          unfold itemL
          split
          · simp
          · rw [hit]; simp; omega
        · split
          · have := (rl_size (iw W) (iw_pos W) (norm (pinl b.text))).1
            unfold quoteL
            split
            · simp
            · rw [qGo_acc]; simp; omega
          · have := (rl_size W hW (norm (pinl b.text))).1; omega

set_option maxRecDepth 100000 in
set_option maxHeartbeats 8000000 in
theorem fnBlockShape_walk (b : Blk) (n : Int) (w : World) (ht : b.text.length ≤ 140737488355328) (hwf : (Lit.int .i64 n).wf = true) :
    Calls Yaac.prog 13 #[.agg #[.int .i64 b.kind, .int .i64 b.level, .string (mk b.text)], .int .i64 n] w fun e w' => e = .returned (.bool true) ∧ Below w.heap.size w w' := by
  have hn := i64_max hwf
  by_cases hbig : 1048576 < b.text.length
  · have hne : (1048576 : Int) < (b.text.length : Int) := by omega
    obtain ⟨kd, lv, txt⟩ := b
    simp only at hne ht hbig ⊢
    go_enter Yaac.func13, Yaac.ntmps13
    go_wp2
    go_ret
    exact ⟨rfl, (Below.refl _ _).alloc (Nat.le_refl _) _⟩
  · have hne : ¬ (1048576 : Int) < (b.text.length : Int) := by omega
    have hW0 := wid_pos n
    have hWm : wid n ≤ 9223372036854775807 := by unfold wid; split <;> omega
    have HC51 : Hid (∀ W : World, Calls Yaac.prog 51 #[.agg #[.int .i64 b.kind, .int .i64 b.level, .string (mk b.text)], .int .i64 n] W fun e w' => ∃ v', e = .returned v' ∧ Own w' W.heap.size tStr v' (rblock (wid n) b) ∧ Below W.heap.size W w') := fun W => renderBlock_any b n W (by omega) hn
    have HC52 : Hid (∀ W : World, Calls Yaac.prog 52 #[.agg #[.int .i64 b.kind, .int .i64 b.level, .string (mk b.text)], .int .i64 n] W fun e w' => ∃ v', e = .returned v' ∧ Own w' W.heap.size tStr v' (rblock (wid n) b) ∧ Below W.heap.size W w') := fun W => renderBlockS_any b n W (by omega) hn
    have HWI : Hid (3 ≤ wid n → b.kind ≠ 5 → ∀ l ∈ rblock (wid n) b, l.length ≤ wid n) := fun h1 h2 => rblock_wid _ b h1 h2
    have hcnt := rblock_cnt (wid n) hW0 b (by omega)
    generalize rblock (wid n) b = ls at *
    obtain ⟨kd, lv, txt⟩ := b
    simp only at hne ht HC51 HC52 HWI hbig ⊢
    go_enter Yaac.func13, Yaac.ntmps13
    go_wp2_with fail
    refine (HC51.out _).mono ?_
    rintro e w1 ⟨v1, rfl, ho1, hb1⟩
    have z1 := hb1.size
    have hblk1 := blk_below hb1 (heap_alloc_new w (.cells #[.int .i64 kd, .int .i64 lv, .string (mk txt)] 39))
    have x0 := blk_cell (j := 0) hblk1 rfl
    have x1 := blk_cell (j := 1) hblk1 rfl
    have x2 := blk_cell (j := 2) hblk1 rfl
    simp at z1
    have hbA : Below w.heap.size w w1 := ((Below.refl _ _).alloc (Nat.le_refl _) _).trans (hb1.mono (by simp))
    obtain ⟨ao1, cap1, rfl⟩ := ho1.shape
    go_wp2_with fail
    refine (HC52.out _).mono ?_
    rintro e w2 ⟨v2, rfl, ho2, hb2⟩
    have z2 := hb2.size
    have ho12 := ho1.below hb2
    go_wp2_with fail
    refine (sameStrs_true ls _ _ w2.heap.size _ (Nat.le_refl _) ho12.rdd ho2.rdd).mono ?_
    rintro e w3 ⟨rfl, hb3⟩
    have z3 := hb3.size
    have ho13 := ho12.below hb3
    have hb23 : Below w1.heap.size w1 w3 := hb2.trans (hb3.mono z2)
    have hblk3 := blk_below hb23 hblk1
    have y0 := blk_cell (j := 0) hblk3 rfl
    have hbB : Below w.heap.size w w3 := hbA.trans (hb23.mono (by omega))
    go_wp2_with fail
    refine (widS_any n _).mono ?_
    rintro e w' ⟨rfl, hw⟩
    replace hw := hw.symm
    subst hw
    by_cases h3 : 3 ≤ wid n
    · have h3b : (3 : Int) ≤ (wid n : Int) := by omega
      by_cases h5 : kd = 5
      · have h5b : (kd != 5) = false := by rw [h5]; rfl
        clear h5
        go_wp2
        go_ret
        exact ⟨rfl, hbB⟩
      · have h5b : (kd != 5) = true := by simpa using h5
        have HWJ : Hid (∀ l ∈ ls, l.length ≤ wid n) := HWI.out h3 h5
        generalize wid n = W at *
        go_wp2
        go_loop [8] (fun i => ∃ k : Nat, k ≤ ls.length ∧ i = .int .i64 k) (fun i => ls.length - (intOf i).toNat)
        case atStart => exact ⟨0, Nat.zero_le _, rfl⟩
        case round =>
          obtain ⟨k3, hk3, rfl⟩ := hrel
          by_cases hlt3 : k3 < ls.length
          · obtain ⟨b8, o8, rfl, hb8, hc8⟩ := ho13.rdd.str k3 hlt3
            have d8 := hc8 k3 hlt3
            clear hc8
            have i3 : (k3 : Int) < (ls.length : Int) := by omega
            have hwl := HWJ.out ls[k3] (List.getElem_mem hlt3)
            generalize ls[k3] = x at *
            have hwb : ¬ (W : Int) < (x.length : Int) := by omega
            go_wp2
            go_round
            case rel => exact ⟨k3 + 1, by omega, by go_num⟩
            case measure => simp [intOf]; omega
          · have i3 : ¬ (k3 : Int) < (ls.length : Int) := by omega
            go_wp2
            go_ret
            exact ⟨rfl, hbB⟩
    · have h3b : ¬ (3 : Int) ≤ (wid n : Int) := by omega
      go_wp2
      go_ret
      exact ⟨rfl, hbB⟩
end Go.Proofs.Ybuaaw
