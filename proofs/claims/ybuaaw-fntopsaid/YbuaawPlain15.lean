/-
  Plain functions: the rendering of all blocks. No Go in sight.
-/
import Derived.Test.YbuaawPlain14
import Derived.Test.YbuaawPlain8
namespace Go.Proofs.Ybuaaw

def gGo : List (List UInt8) → List UInt8 → List UInt8
  | [], acc => acc
  | l :: g, acc => gGo g (acc ++ l ++ [10])
theorem gGo_at (ls : List (List UInt8)) (k : Nat) (acc : List UInt8) (h : k < ls.length) : gGo (ls.drop k) acc = gGo (ls.drop (k + 1)) (acc ++ ls[k] ++ [10]) := by
  rw [List.drop_eq_getElem_cons h, gGo]
theorem gGo_app (a b : List (List UInt8)) (acc : List UInt8) : gGo (a ++ b) acc = gGo b (gGo a acc) := by
  induction a generalizing acc with
  | nil => rfl
  | cons l a ih => exact ih _
theorem gGo_ge (ls : List (List UInt8)) (acc : List UInt8) : acc.length ≤ (gGo ls acc).length := by
  induction ls generalizing acc with
  | nil => exact Nat.le_refl _
  | cons l ls ih => refine Nat.le_trans ?_ (ih _); simp
/-- Lines with their ends. -/
def tot : List (List UInt8) → Nat
  | [] => 0
  | l :: ls => l.length + 1 + tot ls
theorem tot_app (a b : List (List UInt8)) : tot (a ++ b) = tot a + tot b := by
  induction a with
  | nil => simp [tot]
  | cons l a ih => simp only [List.cons_append, tot, ih]; omega
theorem gGo_len (ls : List (List UInt8)) (acc : List UInt8) : (gGo ls acc).length = acc.length + tot ls := by
  induction ls generalizing acc with
  | nil => simp [gGo, tot]
  | cons l ls ih => rw [gGo, ih]; simp [tot]; omega
theorem tot_cnt (ls : List (List UInt8)) : ls.length ≤ tot ls := by
  induction ls with
  | nil => simp [tot]
  | cons l ls ih => simp only [List.length_cons, tot]; omega
theorem tot_mem (ls : List (List UInt8)) (x : List UInt8) (h : x ∈ ls) : x.length + 1 ≤ tot ls := by
  induction ls with
  | nil => cases h
  | cons l ls ih =>
    simp only [tot]
    rcases List.mem_cons.1 h with e | e
    · subst e; omega
    · have := ih e; omega

def raGo (W : Nat) : List Blk → Bool → List UInt8 → List UInt8
  | [], _, acc => acc
  | b :: bs, seen, acc => if rblock W b = [] then raGo W bs seen acc else raGo W bs true (gGo (rblock W b) (if seen = true then acc ++ [10] else acc))
def rall (W : Nat) (bs : List Blk) : List UInt8 := raGo W bs false []
theorem raGo_at (W : Nat) (bs : List Blk) (k : Nat) (seen : Bool) (acc : List UInt8) (h : k < bs.length) : raGo W (bs.drop k) seen acc =
    if rblock W bs[k] = [] then raGo W (bs.drop (k + 1)) seen acc else raGo W (bs.drop (k + 1)) true (gGo (rblock W bs[k]) (if seen = true then acc ++ [10] else acc)) := by
  rw [List.drop_eq_getElem_cons h, raGo]
theorem raGo_ge (W : Nat) (bs : List Blk) (seen : Bool) (acc : List UInt8) : acc.length ≤ (raGo W bs seen acc).length := by
  induction bs generalizing seen acc with
  | nil => exact Nat.le_refl _
  | cons b bs ih =>
    rw [raGo]
    split
    · exact ih _ _
    · refine Nat.le_trans ?_ (ih _ _)
      refine Nat.le_trans ?_ (gGo_ge _ _)
      split <;> simp

/-! ### Sizes -/
def bln : List Blk → Nat
  | [] => 0
  | b :: bs => b.text.length + 1 + bln bs
theorem bln_app (a b : List Blk) : bln (a ++ b) = bln a + bln b := by
  induction a with
  | nil => simp [bln]
  | cons l a ih => simp only [List.cons_append, bln, ih]; omega
theorem bln_mem (bs : List Blk) (x : Blk) (h : x ∈ bs) : x.text.length + 1 ≤ bln bs := by
  induction bs with
  | nil => cases h
  | cons l ls ih =>
    simp only [bln]
    rcases List.mem_cons.1 h with e | e
    · subst e; omega
    · have := ih e; omega
theorem bln_cnt (bs : List Blk) : bs.length ≤ bln bs := by
  induction bs with
  | nil => simp [bln]
  | cons l ls ih => simp only [List.length_cons, bln]; omega
theorem rlGo_tot (fs : List Frg) (i : Nat) (lines : List (List UInt8)) (cur : List UInt8) : tot (rlGo fs i lines cur) ≤ tot lines + cur.length + 1 + flen fs + fs.length := by
  induction fs generalizing i lines cur with
  | nil => rw [rlGo, tot_app]; simp [tot, flen]; omega
  | cons f fs ih =>
    rw [rlGo]
    simp only [flen, List.length_cons]
    split
    · have := ih (i + 1) (lines ++ [cur]) (shown f.kind f.style f.text)
      rw [tot_app, shown_len] at this
      simp only [tot] at this
      omega
    · split
      · have := ih (i + 1) lines (cur ++ [32] ++ shown f.kind f.style f.text)
        simp only [List.length_append, shown_len, List.length_cons, List.length_nil] at this
        omega
      · have := ih (i + 1) lines (cur ++ shown f.kind f.style f.text)
        simp only [List.length_append, shown_len] at this
        omega
theorem rl_tot (W : Nat) (hW : 0 < W) (q : List Inl) : tot (rlines (layout W q)) ≤ 2 * tlen q + 1 := by
  have h1 := layout_len W hW q
  have h2 := flen_layout W hW q
  unfold rlines
  split
  · simp [tot]
  · have := rlGo_tot (layout W q) 0 [] []
    simp [tot] at this
    omega
theorem cutGo_tot (l cur : List UInt8) (acc : List (List UInt8)) : tot (cutGo l cur acc) = tot acc + cur.length + 1 + l.length := by
  induction l generalizing cur acc with
  | nil => rw [cutGo, tot_app]; simp [tot]; omega
  | cons c l ih =>
    rw [cutGo]
    split
    · rw [ih, tot_app]; simp [tot]; omega
    · rw [ih]; simp; omega
theorem pre_tot (p : List UInt8) (ls : List (List UInt8)) : tot (ls.map (p ++ ·)) = tot ls + p.length * ls.length := by
  induction ls with
  | nil => simp [tot]
  | cons l ls ih => simp only [List.map_cons, tot, List.length_append, List.length_cons, ih, Nat.mul_add, Nat.mul_one]; omega
theorem itGo_tot (ls : List (List UInt8)) (i : Nat) (acc : List (List UInt8)) : tot (itGo ls i acc) = tot acc + tot ls + 2 * ls.length := by
  induction ls generalizing i acc with
  | nil => simp [itGo, tot]
  | cons l ls ih => rw [itGo, ih, tot_app]; split <;> simp [tot] <;> omega
theorem rblock_tot (W : Nat) (hW : 0 < W) (b : Blk) : tot (rblock W b) ≤ 100 * (b.text.length + 1) := by
  have hp := pq_size b.text
  unfold pq at hp
  unfold rblock
  split
  · rw [qGo_acc, List.nil_append, pre_tot]
    have h1 := cutGo_tot b.text [] []
    have h2 := tot_cnt (cut b.text)
    change tot (cut b.text) = _ at h1
    simp [tot] at h1 ⊢
    omega
  · split
    · simp [tot]; omega
    · split
      · have h1 := rl_tot W hW (hdg (norm (pinl b.text)))
        have h2 := rl_size W hW (hdg (norm (pinl b.text)))
        have h3 := mxGo_le (rlines (layout W (hdg (norm (pinl b.text))))) 0 _ (Nat.zero_le _) h2.2
        rw [hdg_tlen] at h1 h3
        rw [tot_app]
        simp [tot]
        omega
      · split
        · have h1 := rl_tot (iw W) (iw_pos W) (norm (pinl b.text))
          have h2 := tot_cnt (rlines (layout (iw W) (norm (pinl b.text))))
          unfold itemL
          split
          · simp [tot]; omega
          · rw [itGo_tot]; simp [tot]; omega
        · split
          · have h1 := rl_tot (iw W) (iw_pos W) (norm (pinl b.text))
            have h2 := tot_cnt (rlines (layout (iw W) (norm (pinl b.text))))
            unfold quoteL
            split
            · simp [tot]; omega
            · rw [qGo_acc, List.nil_append, pre_tot]; simp; omega
          · have h1 := rl_tot W hW (norm (pinl b.text)); omega
theorem raGo_len (W : Nat) (hW : 0 < W) (bs : List Blk) (seen : Bool) (acc : List UInt8) : (raGo W bs seen acc).length ≤ acc.length + 101 * bln bs := by
  induction bs generalizing seen acc with
  | nil => simp [raGo]
  | cons b bs ih =>
    rw [raGo]
    simp only [bln]
    split
    · have := ih seen acc; omega
    · refine Nat.le_trans (ih _ _) ?_
      rw [gGo_len]
      have := rblock_tot W hW b
      split <;> simp <;> omega
theorem rall_len (W : Nat) (hW : 0 < W) (bs : List Blk) : (rall W bs).length ≤ 101 * bln bs := by
  have := raGo_len W hW bs false []
  simpa [rall] using this

/-! ### The same by way of all lines -/
def lnGo (W : Nat) : List Blk → Nat → List (List UInt8) → List (List UInt8)
  | [], _, ls => ls
  | b :: bs, g, ls => if rblock W b = [] then lnGo W bs g ls else lnGo W bs (g + 1) ((if 0 < g then ls ++ [[]] else ls) ++ rblock W b)
theorem lnGo_at (W : Nat) (bs : List Blk) (k g : Nat) (ls : List (List UInt8)) (h : k < bs.length) : lnGo W (bs.drop k) g ls =
    if rblock W bs[k] = [] then lnGo W (bs.drop (k + 1)) g ls else lnGo W (bs.drop (k + 1)) (g + 1) ((if 0 < g then ls ++ [[]] else ls) ++ rblock W bs[k]) := by
  rw [List.drop_eq_getElem_cons h, lnGo]
def grGo (W : Nat) : List Blk → Nat → Nat
  | [], g => g
  | b :: bs, g => if rblock W b = [] then grGo W bs g else grGo W bs (g + 1)
theorem grGo_at (W : Nat) (bs : List Blk) (k g : Nat) (h : k < bs.length) : grGo W (bs.drop k) g = if rblock W bs[k] = [] then grGo W (bs.drop (k + 1)) g else grGo W (bs.drop (k + 1)) (g + 1) := by
  rw [List.drop_eq_getElem_cons h, grGo]
theorem grGo_ge (W : Nat) (bs : List Blk) (g : Nat) : g ≤ grGo W bs g := by
  induction bs generalizing g with
  | nil => exact Nat.le_refl _
  | cons b bs ih =>
    rw [grGo]
    split
    · exact ih g
    · exact Nat.le_trans (by omega) (ih (g + 1))
theorem raGo_ln (W : Nat) (bs : List Blk) (g : Nat) (ls : List (List UInt8)) : gGo (lnGo W bs g ls) [] = raGo W bs (decide (0 < g)) (gGo ls []) := by
  induction bs generalizing g ls with
  | nil => rfl
  | cons b bs ih =>
    rw [lnGo, raGo]
    split
    · exact ih g ls
    · rw [ih, gGo_app]
      simp only [Nat.zero_lt_succ, decide_true]
      congr 2
      by_cases hg : 0 < g
      · rw [if_pos hg, if_pos (decide_eq_true hg), gGo_app]; simp [gGo]
      · rw [if_neg hg, if_neg (by simpa using hg)]
theorem rall_ln (W : Nat) (bs : List Blk) : gGo (lnGo W bs 0 []) [] = rall W bs := raGo_ln W bs 0 []
theorem grGo_zero (W : Nat) (bs : List Blk) (h : grGo W bs 0 = 0) : rall W bs = [] := by
  unfold rall
  induction bs with
  | nil => rfl
  | cons b bs ih =>
    rw [grGo] at h
    rw [raGo]
    split
    · rename_i h1; rw [if_pos h1] at h; exact ih h
    · rename_i h1; rw [if_neg h1] at h; have := grGo_ge W bs (0 + 1); omega
theorem lnGo_tot (W : Nat) (hW : 0 < W) (bs : List Blk) (g : Nat) (ls : List (List UInt8)) : tot (lnGo W bs g ls) ≤ tot ls + 101 * bln bs := by
  induction bs generalizing g ls with
  | nil => simp [lnGo]
  | cons b bs ih =>
    rw [lnGo]
    simp only [bln]
    split
    · have := ih g ls; omega
    · refine Nat.le_trans (ih _ _) ?_
      rw [tot_app]
      have := rblock_tot W hW b
      split
      · rw [tot_app]; simp [tot]; omega
      · omega
theorem lnGo_pre (W : Nat) (bs : List Blk) (g : Nat) (ls : List (List UInt8)) : tot ls ≤ tot (lnGo W bs g ls) := by
  induction bs generalizing g ls with
  | nil => exact Nat.le_refl _
  | cons b bs ih =>
    rw [lnGo]
    split
    · exact ih g ls
    · refine Nat.le_trans ?_ (ih _ _)
      rw [tot_app]
      split
      · rw [tot_app]; omega
      · omega

/-! ### The sizes of a text's blocks -/
def pend (op : Int) (cs : List (List UInt8)) : Nat := if op = 0 then 0 else slen cs + cs.length + 1
theorem closeB_bln (out : List Blk) (op : Int) (cs : List (List UInt8)) : bln (closeB out op cs) ≤ bln out + pend op cs := by
  unfold closeB pend
  split
  · omega
  · rw [bln_app]
    have := tGo_len cs []
    simp [bln, tx] at this ⊢
    omega
theorem joinGo_bd (sep : List UInt8) (ps : List (List UInt8)) (i : Nat) (acc : List UInt8) : (joinGo sep ps i acc).length ≤ acc.length + slen ps + sep.length * ps.length := by
  induction ps generalizing i acc with
  | nil => simp [joinGo, slen]
  | cons p ps ih =>
    rw [joinGo]
    refine Nat.le_trans (ih _ _) ?_
    simp only [slen, List.length_cons, Nat.mul_add, Nat.mul_one]
    split <;> simp <;> omega
theorem flushCode_bln (out : List Blk) (cd : List (List UInt8)) : bln (flushCode out cd) ≤ bln out + (slen cd + cd.length + 1) := by
  unfold flushCode
  split
  · omega
  · rw [bln_app]
    have := joinGo_bd [10] cd 0 []
    simp [bln, join] at this ⊢
    omega
theorem pb_bln (ls : List (List UInt8)) (m : Option (List (List UInt8))) (out : List Blk) (op : Int) (cs : List (List UInt8)) :
    bln (pb ls m out op cs) ≤ bln out + pend op cs + (match m with | none => 0 | some cd => slen cd + cd.length + 1) + (slen ls + 3 * ls.length) := by
  induction ls generalizing m out op cs with
  | nil =>
    cases m with
    | none => have := closeB_bln out op cs; simp [pb, slen]; omega
    | some cd => have := flushCode_bln out cd; simp [pb, slen]; omega
  | cons l ls ih =>
    cases m with
    | some cd =>
      rw [pb]
      simp only [slen, List.length_cons]
      split
      · have h1 := ih none (flushCode out cd) op cs
        have h2 := flushCode_bln out cd
        simp only at h1
        omega
      · have h1 := ih (some (cd ++ [l])) out op cs
        simp only [slen_append, slen, List.length_append, List.length_cons, List.length_nil] at h1
        omega
    | none =>
      have hc := classify_len l
      have hcl := closeB_bln out op cs
      have p0 : ∀ x, pend 0 x = 0 := fun x => by simp [pend]
      have pn : ∀ (o : Int) x, o ≠ 0 → pend o x = slen x + x.length + 1 := fun o x h => by simp [pend, h]
      rw [pb]
      simp only [slen, List.length_cons]
      split
      · have h1 := ih none (closeB out op cs) 0 []; rw [p0] at h1; simp only at h1; omega
      · split
        · have h1 := ih (some []) (closeB out op cs) 0 []; rw [p0] at h1; simp only [slen, List.length_nil] at h1; omega
        · split
          · have h1 := ih none (closeB out op cs ++ [⟨2, (classify l).level, (classify l).content⟩]) 0 []; rw [p0, bln_app] at h1; simp only [bln] at h1; omega
          · split
            · have h1 := ih none (closeB out op cs ++ [⟨6, 0, []⟩]) 0 []; rw [p0, bln_app] at h1; simp only [bln, List.length_nil] at h1; omega
            · split
              · have h1 := ih none (closeB out op cs) 3 [(classify l).content]; rw [pn 3 _ (by decide)] at h1; simp only [slen, List.length_cons, List.length_nil] at h1; omega
              · split
                · split
                  · rename_i h4
                    have h1 := ih none out op (cs ++ [(classify l).content]); rw [pn op _ (by omega), slen_append] at h1; rw [pn op _ (by omega)]; simp only [slen, List.length_append, List.length_cons, List.length_nil] at h1; omega
                  · have h1 := ih none (closeB out op cs) 4 [(classify l).content]; rw [pn 4 _ (by decide)] at h1; simp only [slen, List.length_cons, List.length_nil] at h1; omega
                · split
                  · rename_i h4
                    have h1 := ih none out op (cs ++ [(classify l).content]); rw [pn op _ (by omega), slen_append] at h1; rw [pn op _ (by omega)]; simp only [slen, List.length_append, List.length_cons, List.length_nil] at h1; omega
                  · have h1 := ih none (closeB out op cs) 1 [(classify l).content]; rw [pn 1 _ (by decide)] at h1; simp only [slen, List.length_cons, List.length_nil] at h1; omega
theorem splitGo_slen (l cur : List UInt8) (acc : List (List UInt8)) : slen (splitGo l cur acc) ≤ slen acc + cur.length + l.length := by
  induction l generalizing cur acc with
  | nil =>
    rw [splitGo]
    split
    · simp
    · rw [slen_append]; simp [slen]
  | cons c l ih =>
    rw [splitGo]
    split
    · have := ih [] (acc ++ [cur]); rw [slen_append] at this; simp [slen] at this ⊢; omega
    · have := ih (cur ++ [c]) acc; simp at this ⊢; omega
theorem pblocks_bln (l : List UInt8) : bln (pblocks l) ≤ 4 * l.length + 3 := by
  have h1 := pb_bln (split l) none [] 0 []
  have h2 := split_len l
  have h3 := splitGo_slen l [] []
  change slen (split l) ≤ _ at h3
  simp [bln, pend, slen] at h1 h3
  unfold pblocks
  omega
end Go.Proofs.Ybuaaw
