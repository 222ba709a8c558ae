import Derived.Test.YbuaawW3
import Derived.Test.YbuaawW18
import Derived.Test.YbuaawW38
import Derived.Test.YbuaawPlain16
import Derived.Deep.RegionHeld3
namespace Go.Proofs.Ybuaaw
open Go.RowKit
attribute [local go_sem] mk_size mk_toList mk_getElem mk_extract take_len_drop mk_append_lit

theorem field33b (a b c : Value) (w : World) : (Instr.field 33 (.agg #[a, b, c]) 0).run Yaac.prog w = .ok a w := rfl
attribute [local go_sem] field33b

theorem own_lits {α : Type} (T : ET α) (w : World) (B : Nat) (l : List α) (hB : B ≤ w.heap.size) (hl : l.length ≤ 1000) (cs : Array Value) (hcs : cs.toList = cells T l) (N : Nat) (hN : w.heap.size = N) : Own (w.alloc (.cells cs T.e)) B T (.slice (some ⟨N, 0, none⟩) l.length l.length) l := by
  subst hN
  have hsz : cs.size = l.length * T.size := by rw [← cells_length T l, ← hcs, Array.length_toList]
  have := World.ownsRow_lit (base := B) (e := T.e) (size := T.size) w cs l.length hB (by unfold maxLen; omega) hsz
  unfold Own
  rw [← hcs]
  exact this
theorem split_ex (l : List UInt8) (r : List (List UInt8)) (h : split l = r) (w : World) (hs : l.length ≤ 4294967296) : Calls Yaac.prog 18 #[.string (mk l)] w fun e w' => ∃ v, e = .returned v ∧ Own w' w.heap.size tStr v r ∧ Below w.heap.size w w' := by
  have := splitLines_any l w hs
  rw [h] at this
  exact this
theorem class_ex (l : List UInt8) (x : LI) (h : classify l = x) (w : World) (hs : l.length ≤ 4294967296) : Calls Yaac.prog 24 #[.string (mk l)] w fun e w' => e = .returned (.agg #[.int .i64 x.kind, .int .i64 x.level, .string (mk x.content)]) ∧ Below w.heap.size w w' := by
  have := classify_any l w hs
  rw [h] at this
  exact this
theorem pb_ex (l : List UInt8) (r : List Blk) (h : pblocks l = r) (w : World) (hs : l.length ≤ 1048576) : Calls Yaac.prog 26 #[.string (mk l)] w fun e w' => ∃ v', e = .returned v' ∧ Own w' w.heap.size tBlk v' r ∧ Below w.heap.size w w' := by
  have := parseBlocks_any l w hs
  rw [h] at this
  exact this
theorem pinl_ex (l : List UInt8) (r : List Inl) (h : pinl l = r) (w : World) (hs : l.length ≤ 2147483648) : Calls Yaac.prog 29 #[.string (mk l)] w fun e w' => ∃ v', e = .returned v' ∧ Own w' w.heap.size tInl v' r ∧ Below w.heap.size w w' := by
  have := parseInline_any l w hs
  rw [h] at this
  exact this
theorem unp_ex (ps : List Inl) (r : List UInt8) (h : unp ps = r) (v : Value) (w : World) (h1 : Rdd w w.heap.size tInl v ps) (hs : ps.length ≤ 4294967296) (ht : tlen ps ≤ 4294967296) : Calls Yaac.prog 38 #[v] w fun e w' => e = .returned (.string (mk r)) ∧ Below w.heap.size w w' := by
  have := unparse_any ps v w.heap.size w (Nat.le_refl _) h1 hs ht
  rw [h] at this
  exact this
theorem layout_ex (ps : List Inl) (r : List Frg) (n : Int) (h : layout (wid n) ps = r) (v : Value) (w : World) (h1 : Rdd w w.heap.size tInl v ps) (hs : ps.length ≤ 4294967296) (ht : tlen ps ≤ 4294967296) (hn : n ≤ 9223372036854775807) : Calls Yaac.prog 41 #[v, .int .i64 n] w fun e w' => ∃ v', e = .returned v' ∧ Own w' w.heap.size tFrg v' r ∧ Below w.heap.size w w' := by
  have := layout_any ps n v w.heap.size w (Nat.le_refl _) h1 hs ht hn
  rw [h] at this
  exact this
theorem rl_ex (fs : List Frg) (r : List (List UInt8)) (h : rlines fs = r) (v : Value) (w : World) (h1 : Rdd w w.heap.size tFrg v fs) (hs : fs.length ≤ 2147483648) (ht : flen fs ≤ 2147483648) : Calls Yaac.prog 44 #[v] w fun e w' => ∃ v', e = .returned v' ∧ Own w' w.heap.size tStr v' r ∧ Below w.heap.size w w' := by
  have := renderLines_any fs v w.heap.size w (Nat.le_refl _) h1 hs ht
  rw [h] at this
  exact this
theorem render_ex (l r : List UInt8) (n : Int) (h : rall (wid n) (pblocks l) = r) (w : World) (hs : l.length ≤ 1048576) (hn : n ≤ 9223372036854775807) : Calls Yaac.prog 16 #[.string (mk l), .int .i64 n] w fun e w' => e = .returned (.string (mk r)) ∧ Below w.heap.size w w' := by
  have := render_any l n w hs hn
  rw [h] at this
  exact this

theorem held_ci {w0 W w9 : World} {N : Nat} {a b c : Value} (hN : N < w0.heap.size) (hb9 : Below W.heap.size W w9) (hS : W.cell? ⟨N, 0, none⟩ = some a ∧ W.cell? ⟨N, 1, none⟩ = some b ∧ W.cell? ⟨N, 2, none⟩ = some c ∧ Below w0.heap.size w0 W) :
    w9.cell? ⟨N, 0, none⟩ = some a ∧ w9.cell? ⟨N, 1, none⟩ = some b ∧ w9.cell? ⟨N, 2, none⟩ = some c ∧ Below w0.heap.size w0 w9 :=
  have z := hS.2.2.2.size
  ⟨(hb9.cell (by simp; omega)).trans hS.1, (hb9.cell (by simp; omega)).trans hS.2.1, (hb9.cell (by simp; omega)).trans hS.2.2.1, hS.2.2.2.trans (hb9.mono z)⟩
theorem held_ci0 {w : World} {a b c : Value} : ∀ W, W = w.alloc (.cells #[a, b, c] 33) → W.cell? ⟨w.heap.size, 0, none⟩ = some a ∧ W.cell? ⟨w.heap.size, 1, none⟩ = some b ∧ W.cell? ⟨w.heap.size, 2, none⟩ = some c ∧ Below (w.alloc (.cells #[a, b, c] 33)).heap.size (w.alloc (.cells #[a, b, c] 33)) W := by
  intro W hW
  subst hW
  have h := heap_alloc_new w (.cells #[a, b, c] 33)
  exact ⟨blk_cell h rfl, blk_cell h rfl, blk_cell h rfl, Below.refl _ _⟩

set_option maxHeartbeats 1600000 in
theorem ci_true (l : List UInt8) (kd lv : Int) (ct : List UInt8) (w : World) (hs : l.length ≤ 4294967296) (h : classify l = ⟨kd, lv, ct⟩) :
    Calls Yaac.prog 56 #[.string (mk l), .int .i64 kd, .int .i64 lv, .string (mk ct)] w fun e w' => e = .returned (.bool true) ∧ Below w.heap.size w w' := by
  have HC : ∀ W, Calls Yaac.prog 24 #[.string (mk l)] W fun e w' => e = .returned (.agg #[.int .i64 kd, .int .i64 lv, .string (mk ct)]) ∧ Below W.heap.size W w' := fun W => class_ex l _ h W hs
  clear h
  have hN : w.heap.size < (w.alloc (.cells #[.int .i64 kd, .int .i64 lv, .string (mk ct)] 33)).heap.size := by simp
  obtain ⟨-, -, -, k4⟩ := held_ci0 (w := w) (a := .int .i64 kd) (b := .int .i64 lv) (c := .string (mk ct)) _ rfl
  go_enter Yaac.func56, Yaac.ntmps56
  go_wp2
  go_region_held3 (fun w' => w'.cell? ⟨w.heap.size, 0, none⟩ = some (.int .i64 kd) ∧ w'.cell? ⟨w.heap.size, 1, none⟩ = some (.int .i64 lv) ∧ w'.cell? ⟨w.heap.size, 2, none⟩ = some (.string (mk ct)) ∧ Below (w.alloc (.cells #[.int .i64 kd, .int .i64 lv, .string (mk ct)] 33)).heap.size (w.alloc (.cells #[.int .i64 kd, .int .i64 lv, .string (mk ct)] 33)) w')
    (first | exact ⟨by simp, by simp, by simp, k4.drew⟩ | exact held_ci hN hb9 (by assumption) | go_keep)
    (first | (go_at_call 24; refine (HC _).mono ?_; rintro e w9 ⟨rfl, hb9⟩))
  all_goals
    rename_i hx
    go_wp2
    go_ret
    exact ⟨by simp, ((Below.refl _ _).alloc (Nat.le_refl _) _).trans (hx.2.2.2.mono (by simp))⟩

set_option maxRecDepth 100000 in
set_option maxHeartbeats 16000000 in
theorem examplesHold_true (w : World) : Calls Yaac.prog 17 #[] w fun e w' => e = .returned (.bool true) ∧ Below w.heap.size w w' := by
  have hB0 : Below w.heap.size w w := Below.refl _ _
  go_enter Yaac.func17, Yaac.ntmps17
  go_wp2_with fail
  refine (split_ex [97, 10, 98] [[97], [98]] ex1 _ (by decide)).mono ?_
  rintro e w1 ⟨v1, rfl, ho1, hb1⟩
  have z1 := hb1.size
  have hB1 : Below w.heap.size w w1 := hB0.trans (hb1.mono (by first | omega | (simp; omega)))
  go_wp2_with fail
  refine (sameStrs_true [[97], [98]] _ _ _ _ (Nat.le_refl _) (ho1.alloc _).rdd (own_lits tStr w1 0 _ (Nat.zero_le _) (by decide) _ (by rfl) _ rfl).rdd).mono ?_
  rintro e w2 ⟨rfl, hb2⟩
  have z2 := hb2.size
  simp only [World.size_alloc] at z2
  have hB2 : Below w.heap.size w w2 := (hB1.alloc (by first | omega | (simp; omega)) _).trans (hb2.mono (by first | omega | (simp; omega)))
  go_wp2_with fail
  refine (split_ex [97, 10, 98, 10] [[97], [98]] ex2 _ (by decide)).mono ?_
  rintro e w3 ⟨v3, rfl, ho3, hb3⟩
  have z3 := hb3.size
  have hB3 : Below w.heap.size w w3 := hB2.trans (hb3.mono (by first | omega | (simp; omega)))
  go_wp2_with fail
  refine (sameStrs_true [[97], [98]] _ _ _ _ (Nat.le_refl _) (ho3.alloc _).rdd (own_lits tStr w3 0 _ (Nat.zero_le _) (by decide) _ (by rfl) _ rfl).rdd).mono ?_
  rintro e w4 ⟨rfl, hb4⟩
  have z4 := hb4.size
  simp only [World.size_alloc] at z4
  have hB4 : Below w.heap.size w w4 := (hB3.alloc (by first | omega | (simp; omega)) _).trans (hb4.mono (by first | omega | (simp; omega)))
  go_wp2_with fail
  refine (split_ex [10] [[]] ex3 _ (by decide)).mono ?_
  rintro e w5 ⟨v5, rfl, ho5, hb5⟩
  have z5 := hb5.size
  have hB5 : Below w.heap.size w w5 := hB4.trans (hb5.mono (by first | omega | (simp; omega)))
  go_wp2_with fail
  refine (sameStrs_true [[]] _ _ _ _ (Nat.le_refl _) (ho5.alloc _).rdd (own_lits tStr w5 0 _ (Nat.zero_le _) (by decide) _ (by rfl) _ rfl).rdd).mono ?_
  rintro e w6 ⟨rfl, hb6⟩
  have z6 := hb6.size
  simp only [World.size_alloc] at z6
  have hB6 : Below w.heap.size w w6 := (hB5.alloc (by first | omega | (simp; omega)) _).trans (hb6.mono (by first | omega | (simp; omega)))
  go_wp2_with fail
  refine (split_ex [97, 10, 10] [[97], []] ex4 _ (by decide)).mono ?_
  rintro e w7 ⟨v7, rfl, ho7, hb7⟩
  have z7 := hb7.size
  have hB7 : Below w.heap.size w w7 := hB6.trans (hb7.mono (by first | omega | (simp; omega)))
  go_wp2_with fail
  refine (sameStrs_true [[97], []] _ _ _ _ (Nat.le_refl _) (ho7.alloc _).rdd (own_lits tStr w7 0 _ (Nat.zero_le _) (by decide) _ (by rfl) _ rfl).rdd).mono ?_
  rintro e w8 ⟨rfl, hb8⟩
  have z8 := hb8.size
  simp only [World.size_alloc] at z8
  have hB8 : Below w.heap.size w w8 := (hB7.alloc (by first | omega | (simp; omega)) _).trans (hb8.mono (by first | omega | (simp; omega)))
  go_wp2_with fail
  refine (class_ex [96, 96, 96, 103, 111] _ ec0 _ (by decide)).mono ?_
  rintro e w9 ⟨rfl, hb9⟩
  have z9 := hb9.size
  have hB9 : Below w.heap.size w w9 := hB8.trans (hb9.mono (by first | omega | (simp; omega)))
  go_wp2_with fail
  refine (ci_true [35, 35, 32, 97, 32] 2 2 [97] _ (by decide) ec1).mono ?_
  rintro e w10 ⟨rfl, hb10⟩
  have z10 := hb10.size
  have hB10 : Below w.heap.size w w10 := hB9.trans (hb10.mono (by first | omega | (simp; omega)))
  go_wp2_with fail
  refine (ci_true [35] 2 1 [] _ (by decide) ec2).mono ?_
  rintro e w11 ⟨rfl, hb11⟩
  have z11 := hb11.size
  have hB11 : Below w.heap.size w w11 := hB10.trans (hb11.mono (by first | omega | (simp; omega)))
  go_wp2_with fail
  refine (ci_true [35, 97] 6 0 [35, 97] _ (by decide) ec3).mono ?_
  rintro e w12 ⟨rfl, hb12⟩
  have z12 := hb12.size
  have hB12 : Below w.heap.size w w12 := hB11.trans (hb12.mono (by first | omega | (simp; omega)))
  go_wp2_with fail
  refine (ci_true [35, 35, 35, 35, 35, 35, 35, 32, 97] 6 0 [35, 35, 35, 35, 35, 35, 35, 32, 97] _ (by decide) ec4).mono ?_
  rintro e w13 ⟨rfl, hb13⟩
  have z13 := hb13.size
  have hB13 : Below w.heap.size w w13 := hB12.trans (hb13.mono (by first | omega | (simp; omega)))
  go_wp2_with fail
  refine (ci_true [32, 35, 32, 97] 6 0 [35, 32, 97] _ (by decide) ec5).mono ?_
  rintro e w14 ⟨rfl, hb14⟩
  have z14 := hb14.size
  have hB14 : Below w.heap.size w w14 := hB13.trans (hb14.mono (by first | omega | (simp; omega)))
  go_wp2_with fail
  refine (ci_true [32, 45, 45, 45, 32] 3 0 [] _ (by decide) ec6).mono ?_
  rintro e w15 ⟨rfl, hb15⟩
  have z15 := hb15.size
  have hB15 : Below w.heap.size w w15 := hB14.trans (hb15.mono (by first | omega | (simp; omega)))
  go_wp2_with fail
  refine (ci_true [45, 45] 6 0 [45, 45] _ (by decide) ec7).mono ?_
  rintro e w16 ⟨rfl, hb16⟩
  have z16 := hb16.size
  have hB16 : Below w.heap.size w w16 := hB15.trans (hb16.mono (by first | omega | (simp; omega)))
  go_wp2_with fail
  refine (ci_true [45, 32, 45, 45] 4 0 [45, 45] _ (by decide) ec8).mono ?_
  rintro e w17 ⟨rfl, hb17⟩
  have z17 := hb17.size
  have hB17 : Below w.heap.size w w17 := hB16.trans (hb17.mono (by first | omega | (simp; omega)))
  go_wp2_with fail
  refine (ci_true [45, 97] 6 0 [45, 97] _ (by decide) ec9).mono ?_
  rintro e w18 ⟨rfl, hb18⟩
  have z18 := hb18.size
  have hB18 : Below w.heap.size w w18 := hB17.trans (hb18.mono (by first | omega | (simp; omega)))
  go_wp2_with fail
  refine (ci_true [62, 113] 5 0 [113] _ (by decide) ec10).mono ?_
  rintro e w19 ⟨rfl, hb19⟩
  have z19 := hb19.size
  have hB19 : Below w.heap.size w w19 := hB18.trans (hb19.mono (by first | omega | (simp; omega)))
  go_wp2_with fail
  refine (ci_true [32, 9] 0 0 [] _ (by decide) ec11).mono ?_
  rintro e w20 ⟨rfl, hb20⟩
  have z20 := hb20.size
  have hB20 : Below w.heap.size w w20 := hB19.trans (hb20.mono (by first | omega | (simp; omega)))
  go_wp2_with fail
  refine (pb_ex [97, 10, 98] [⟨1, 0, [97, 32, 98]⟩] ep1 _ (by decide)).mono ?_
  rintro e w21 ⟨v21, rfl, ho21, hb21⟩
  have z21 := hb21.size
  have hB21 : Below w.heap.size w w21 := hB20.trans (hb21.mono (by first | omega | (simp; omega)))
  go_wp2_with fail
  refine (sameBlocks_true [⟨1, 0, [97, 32, 98]⟩] _ _ _ _ (Nat.le_refl _) (ho21.alloc _).rdd (own_lits tBlk w21 0 _ (Nat.zero_le _) (by decide) _ (by rfl) _ rfl).rdd).mono ?_
  rintro e w22 ⟨rfl, hb22⟩
  have z22 := hb22.size
  simp only [World.size_alloc] at z22
  have hB22 : Below w.heap.size w w22 := (hB21.alloc (by first | omega | (simp; omega)) _).trans (hb22.mono (by first | omega | (simp; omega)))
  go_wp2_with fail
  refine (pb_ex [45, 32, 120, 10, 32, 32, 121] [⟨3, 0, [120, 32, 121]⟩] ep2 _ (by decide)).mono ?_
  rintro e w23 ⟨v23, rfl, ho23, hb23⟩
  have z23 := hb23.size
  have hB23 : Below w.heap.size w w23 := hB22.trans (hb23.mono (by first | omega | (simp; omega)))
  go_wp2_with fail
  refine (sameBlocks_true [⟨3, 0, [120, 32, 121]⟩] _ _ _ _ (Nat.le_refl _) (ho23.alloc _).rdd (own_lits tBlk w23 0 _ (Nat.zero_le _) (by decide) _ (by rfl) _ rfl).rdd).mono ?_
  rintro e w24 ⟨rfl, hb24⟩
  have z24 := hb24.size
  simp only [World.size_alloc] at z24
  have hB24 : Below w.heap.size w w24 := (hB23.alloc (by first | omega | (simp; omega)) _).trans (hb24.mono (by first | omega | (simp; omega)))
  go_wp2_with fail
  refine (pb_ex [62, 32, 120, 10, 121] [⟨4, 0, [120]⟩, ⟨1, 0, [121]⟩] ep3 _ (by decide)).mono ?_
  rintro e w25 ⟨v25, rfl, ho25, hb25⟩
  have z25 := hb25.size
  have hB25 : Below w.heap.size w w25 := hB24.trans (hb25.mono (by first | omega | (simp; omega)))
  go_wp2_with fail
  refine (sameBlocks_true [⟨4, 0, [120]⟩, ⟨1, 0, [121]⟩] _ _ _ _ (Nat.le_refl _) (ho25.alloc _).rdd (own_lits tBlk w25 0 _ (Nat.zero_le _) (by decide) _ (by rfl) _ rfl).rdd).mono ?_
  rintro e w26 ⟨rfl, hb26⟩
  have z26 := hb26.size
  simp only [World.size_alloc] at z26
  have hB26 : Below w.heap.size w w26 := (hB25.alloc (by first | omega | (simp; omega)) _).trans (hb26.mono (by first | omega | (simp; omega)))
  go_wp2_with fail
  refine (pb_ex [97, 10, 45, 45, 45] [⟨1, 0, [97]⟩, ⟨6, 0, []⟩] ep4 _ (by decide)).mono ?_
  rintro e w27 ⟨v27, rfl, ho27, hb27⟩
  have z27 := hb27.size
  have hB27 : Below w.heap.size w w27 := hB26.trans (hb27.mono (by first | omega | (simp; omega)))
  go_wp2_with fail
  refine (sameBlocks_true [⟨1, 0, [97]⟩, ⟨6, 0, []⟩] _ _ _ _ (Nat.le_refl _) (ho27.alloc _).rdd (own_lits tBlk w27 0 _ (Nat.zero_le _) (by decide) _ (by rfl) _ rfl).rdd).mono ?_
  rintro e w28 ⟨rfl, hb28⟩
  have z28 := hb28.size
  simp only [World.size_alloc] at z28
  have hB28 : Below w.heap.size w w28 := (hB27.alloc (by first | omega | (simp; omega)) _).trans (hb28.mono (by first | omega | (simp; omega)))
  go_wp2_with fail
  refine (pinl_ex [97, 98, 32, 42, 99, 32, 100, 42, 96, 101, 32, 102, 96] exIn ei1 _ (by decide)).mono ?_
  rintro e w29 ⟨v29, rfl, ho29, hb29⟩
  have z29 := hb29.size
  simp only [World.size_alloc] at z29
  have hB29 : Below w.heap.size w w29 := (hB28.alloc (by first | omega | (simp; omega)) _).trans (hb29.mono (by first | omega | (simp; omega)))
  have hin := (own_lits tInl w28 0 exIn (Nat.zero_le _) (by decide) _ (by rfl) _ rfl).below hb29
  go_wp2_with fail
  refine (sameInlines_true exIn _ _ _ _ (Nat.le_refl _) ho29.rdd hin.rdd).mono ?_
  rintro e w30 ⟨rfl, hb30⟩
  have z30 := hb30.size
  have hB30 : Below w.heap.size w w30 := hB29.trans (hb30.mono (by first | omega | (simp; omega)))
  go_wp2_with fail
  refine (unp_ex exUn [42, 97, 92, 32, 98, 32, 96, 120, 121, 96, 42, 92, 42] eu1 _ _ (own_lits tInl w30 0 exUn (Nat.zero_le _) (by decide) _ (by rfl) _ rfl).rdd (by decide) (by decide)).mono ?_
  rintro e w31 ⟨rfl, hb31⟩
  have z31 := hb31.size
  simp only [World.size_alloc] at z31
  have hB31 : Below w.heap.size w w31 := (hB30.alloc (by first | omega | (simp; omega)) _).trans (hb31.mono (by first | omega | (simp; omega)))
  go_wp2_with fail
  refine (layout_ex exOne exL1 3 el1 _ _ (own_lits tInl (w31.alloc _) 0 exOne (Nat.zero_le _) (by decide) _ (by rfl) (w31.heap.size + 1) (by simp)).rdd (by decide) (by decide) (by decide)).mono ?_
  rintro e w32 ⟨v32, rfl, ho32, hb32⟩
  have z32 := hb32.size
  simp only [World.size_alloc] at z32
  have hB32 : Below w.heap.size w w32 := ((hB31.alloc (by first | omega | (simp; omega)) _).alloc (by first | omega | (simp; omega)) _).trans (hb32.mono (by first | omega | (simp; omega)))
  have hl1 := ((own_lits tFrg w31 0 exL1 (Nat.zero_le _) (by decide) _ (by rfl) _ rfl).alloc _).below hb32
  go_wp2_with fail
  refine (sameFrags_true exL1 _ _ _ _ (Nat.le_refl _) ho32.rdd hl1.rdd).mono ?_
  rintro e w33 ⟨rfl, hb33⟩
  have z33 := hb33.size
  have hB33 : Below w.heap.size w w33 := hB32.trans (hb33.mono (by first | omega | (simp; omega)))
  go_wp2_with fail
  refine (cpInlines_any exSrc _ _ _ (Nat.le_refl _) ((own_lits tInl w33 0 exSrc (Nat.zero_le _) (by decide) _ (by rfl) _ rfl).alloc _).rdd (by decide) (by decide)).mono ?_
  rintro e w34 ⟨v34, rfl, ho34, hb34⟩
  have z34 := hb34.size
  simp only [World.size_alloc] at z34
  have hB34 : Below w.heap.size w w34 := ((hB33.alloc (by first | omega | (simp; omega)) _).alloc (by first | omega | (simp; omega)) _).trans (hb34.mono (by first | omega | (simp; omega)))
  have hl2 := (own_lits tFrg (w33.alloc _) 0 exL2 (Nat.zero_le _) (by decide) _ (by rfl) (w33.heap.size + 1) (by simp)).below hb34
  go_wp2_with fail
  refine (layout_ex exSrc exL2 3 el2 _ _ ho34.rdd (by decide) (by decide) (by decide)).mono ?_
  rintro e w35 ⟨v35, rfl, ho35, hb35⟩
  have z35 := hb35.size
  have hB35 : Below w.heap.size w w35 := hB34.trans (hb35.mono (by first | omega | (simp; omega)))
  have hl2x35 := hl2.below hb35
  go_wp2_with fail
  refine (sameFrags_true exL2 _ _ _ _ (Nat.le_refl _) ho35.rdd hl2x35.rdd).mono ?_
  rintro e w36 ⟨rfl, hb36⟩
  have z36 := hb36.size
  have hB36 : Below w.heap.size w w36 := hB35.trans (hb36.mono (by first | omega | (simp; omega)))
  have hl2x36 := hl2x35.below hb36
  go_wp2_with fail
  refine (cpFrags_any exL2 _ _ _ (Nat.le_refl _) hl2x36.rdd (by decide) (by decide)).mono ?_
  rintro e w37 ⟨v37, rfl, ho37, hb37⟩
  have z37 := hb37.size
  have hB37 : Below w.heap.size w w37 := hB36.trans (hb37.mono (by first | omega | (simp; omega)))
  have hl2x37 := hl2x36.below hb37
  go_wp2_with fail
  refine (rl_ex exL2 [[97, 98], [99, 100, 69], [70, 71], [104]] er1 _ _ ho37.rdd (by decide) (by decide)).mono ?_
  rintro e w38 ⟨v38, rfl, ho38, hb38⟩
  have z38 := hb38.size
  have hB38 : Below w.heap.size w w38 := hB37.trans (hb38.mono (by first | omega | (simp; omega)))
  go_wp2_with fail
  refine (sameStrs_true [[97, 98], [99, 100, 69], [70, 71], [104]] _ _ _ _ (Nat.le_refl _) (ho38.alloc _).rdd (own_lits tStr w38 0 _ (Nat.zero_le _) (by decide) _ (by rfl) _ rfl).rdd).mono ?_
  rintro e w39 ⟨rfl, hb39⟩
  have z39 := hb39.size
  simp only [World.size_alloc] at z39
  have hB39 : Below w.heap.size w w39 := (hB38.alloc (by first | omega | (simp; omega)) _).trans (hb39.mono (by first | omega | (simp; omega)))
  go_wp2_with fail
  refine (render_ex [35, 32, 84, 105, 116, 108, 101, 10, 10, 72, 101, 108, 108, 111, 32, 42, 98, 105, 103, 42, 32, 119, 111, 114, 108, 100, 10, 45, 32, 111, 110, 101, 10, 45, 32, 116, 119, 111, 10] [84, 73, 84, 76, 69, 10, 61, 61, 61, 61, 61, 10, 10, 72, 101, 108, 108, 111, 32, 66, 73, 71, 10, 119, 111, 114, 108, 100, 10, 10, 42, 32, 111, 110, 101, 10, 10, 42, 32, 116, 119, 111, 10] 10 ea1 _ (by decide) (by decide)).mono ?_
  rintro e w40 ⟨rfl, hb40⟩
  have z40 := hb40.size
  have hB40 : Below w.heap.size w w40 := hB39.trans (hb40.mono (by first | omega | (simp; omega)))
  go_wp2_with fail
  refine (render_ex [96, 96, 96, 103, 111, 10, 32, 32, 120, 10, 10, 96, 96, 96, 10, 121] [32, 32, 32, 32, 32, 32, 120, 10, 32, 32, 32, 32, 10, 10, 121, 10] 80 ea2 _ (by decide) (by decide)).mono ?_
  rintro e w41 ⟨rfl, hb41⟩
  have z41 := hb41.size
  have hB41 : Below w.heap.size w w41 := hB40.trans (hb41.mono (by first | omega | (simp; omega)))
  go_wp2_with fail
  refine (render_ex [35] [10] 5 ea3 _ (by decide) (by decide)).mono ?_
  rintro e w42 ⟨rfl, hb42⟩
  have z42 := hb42.size
  have hB42 : Below w.heap.size w w42 := hB41.trans (hb42.mono (by first | omega | (simp; omega)))
  go_wp2_with fail
  refine (render_ex [45, 45, 45] (List.replicate 80 45 ++ [10]) 200 ea4 _ (by decide) (by decide)).mono ?_
  rintro e w43 ⟨rfl, hb43⟩
  have z43 := hb43.size
  have hB43 : Below w.heap.size w w43 := hB42.trans (hb43.mono (by first | omega | (simp; omega)))
  go_wp2_with fail
  refine (repeatS_any 45 80 _ (by decide)).mono ?_
  rintro e w44 ⟨rfl, hb44⟩
  have z44 := hb44.size
  have hB44 : Below w.heap.size w w44 := hB43.trans (hb44.mono (by first | omega | (simp; omega)))
  go_wp2_with fail
  refine (render_ex [62, 32, 97, 10, 62, 98, 10, 10, 45, 32] [124, 32, 97, 10, 124, 32, 98, 10, 10, 42, 10] 0 ea5 _ (by decide) (by decide)).mono ?_
  rintro e w45 ⟨rfl, hb45⟩
  have z45 := hb45.size
  have hB45 : Below w.heap.size w w45 := hB44.trans (hb45.mono (by first | omega | (simp; omega)))
  go_wp2_with fail
  refine (render_ex [96, 96, 96] [] 7 ea6 _ (by decide) (by decide)).mono ?_
  rintro e w46 ⟨rfl, hb46⟩
  have z46 := hb46.size
  have hB46 : Below w.heap.size w w46 := hB45.trans (hb46.mono (by first | omega | (simp; omega)))
  go_wp2_with fail
  refine (render_ex [] [] 7 ea7 _ (by decide) (by decide)).mono ?_
  rintro e w47 ⟨rfl, hb47⟩
  have z47 := hb47.size
  have hB47 : Below w.heap.size w w47 := hB46.trans (hb47.mono (by first | omega | (simp; omega)))
  go_wp2_with fail
  refine (render_ex [32, 10, 9, 10] [] 7 ea8 _ (by decide) (by decide)).mono ?_
  rintro e w48 ⟨rfl, hb48⟩
  have z48 := hb48.size
  have hB48 : Below w.heap.size w w48 := hB47.trans (hb48.mono (by first | omega | (simp; omega)))
  go_wp2
  go_ret
  exact ⟨rfl, hB48⟩
end Go.Proofs.Ybuaaw
