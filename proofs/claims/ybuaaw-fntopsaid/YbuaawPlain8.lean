/-
  Plain functions: the blocks of a text. No Go in sight.
-/
import Derived.Test.YbuaawPlain6
namespace Go.Proofs.Ybuaaw

/-- The contents that are not empty, with one blank between. -/
def tGo : List (List UInt8) → List UInt8 → List UInt8
  | [], acc => acc
  | c :: cs, acc => if c = [] then tGo cs acc else tGo cs ((if acc = [] then acc else acc ++ [32]) ++ c)
def tx (cs : List (List UInt8)) : List UInt8 := tGo cs []
def closeB (bs : List Blk) (op : Int) (cs : List (List UInt8)) : List Blk := if op = 0 then bs else bs ++ [⟨op, 0, tx cs⟩]
def keepNE (cs : List (List UInt8)) : List (List UInt8) := cs.filter (fun c => !c.isEmpty)

theorem tGo_at (cs : List (List UInt8)) (k : Nat) (acc : List UInt8) (h : k < cs.length) : tGo (cs.drop k) acc = if cs[k] = [] then tGo (cs.drop (k + 1)) acc else tGo (cs.drop (k + 1)) ((if acc = [] then acc else acc ++ [32]) ++ cs[k]) := by
  rw [List.drop_eq_getElem_cons h, tGo]
theorem tGo_ge (cs : List (List UInt8)) (acc : List UInt8) : acc.length ≤ (tGo cs acc).length := by
  induction cs generalizing acc with
  | nil => simp [tGo]
  | cons c cs ih =>
    rw [tGo]
    split
    · exact ih acc
    · refine Nat.le_trans ?_ (ih _)
      split <;> simp <;> omega
/-- The sum of the lengths. -/
def slen : List (List UInt8) → Nat
  | [] => 0
  | c :: cs => c.length + slen cs
theorem slen_append (a b : List (List UInt8)) : slen (a ++ b) = slen a + slen b := by
  induction a with
  | nil => simp [slen]
  | cons c a ih => simp only [List.cons_append, slen, ih]; omega
theorem slen_at (ps : List (List UInt8)) (k : Nat) (hk : k < ps.length) : slen (ps.drop k) = ps[k].length + slen (ps.drop (k + 1)) := by
  rw [List.drop_eq_getElem_cons hk, slen]
theorem tGo_len (cs : List (List UInt8)) (acc : List UInt8) : (tGo cs acc).length ≤ acc.length + slen cs + cs.length := by
  induction cs generalizing acc with
  | nil => simp [tGo, slen]
  | cons c cs ih =>
    rw [tGo]
    split
    · have := ih acc; simp [slen]; omega
    · by_cases ha : acc = []
      · rw [if_pos ha]; have := ih (acc ++ c); simp [slen] at this ⊢; omega
      · rw [if_neg ha]; have := ih (acc ++ [32] ++ c); simp [slen] at this ⊢; omega

theorem join_tGo (cs : List (List UInt8)) (i : Nat) (acc : List UInt8) (h : i = 0 ↔ acc = []) : joinGo [32] (keepNE cs) i acc = tGo cs acc := by
  induction cs generalizing i acc with
  | nil => simp [keepNE, joinGo, tGo]
  | cons c cs ih =>
    rw [tGo]
    unfold keepNE at ih ⊢
    by_cases hc : c = []
    · subst hc; rw [if_pos rfl]; simpa using ih i acc h
    · rw [if_neg hc, List.filter_cons_of_pos (by simpa using hc), joinGo, ih]
      · by_cases hi : i = 0
        · rw [if_pos hi, if_pos (h.1 hi)]
        · rw [if_neg hi, if_neg (fun e => hi (h.2 e))]
      · constructor
        · intro e; omega
        · intro e
          exact absurd (List.append_eq_nil_iff.1 e).2 hc
theorem tx_join (cs : List (List UInt8)) : tx cs = join [32] (keepNE cs) := (join_tGo cs 0 [] (by simp)).symm

def flushCode (bs : List Blk) (code : List (List UInt8)) : List Blk := if code = [] then bs else bs ++ [⟨5, 0, join [10] code⟩]
/-- The blocks, line by line. The mode: 'some code' inside a fence. -/
def pb : List (List UInt8) → Option (List (List UInt8)) → List Blk → Int → List (List UInt8) → List Blk
  | [], none, out, op, cs => closeB out op cs
  | [], some code, out, _, _ => flushCode out code
  | l :: ls, some code, out, op, cs => if ticks l = true then pb ls none (flushCode out code) op cs else pb ls (some (code ++ [l])) out op cs
  | l :: ls, none, out, op, cs =>
    if (classify l).kind = 0 then pb ls none (closeB out op cs) 0 []
    else if (classify l).kind = 1 then pb ls (some []) (closeB out op cs) 0 []
    else if (classify l).kind = 2 then pb ls none (closeB out op cs ++ [⟨2, (classify l).level, (classify l).content⟩]) 0 []
    else if (classify l).kind = 3 then pb ls none (closeB out op cs ++ [⟨6, 0, []⟩]) 0 []
    else if (classify l).kind = 4 then pb ls none (closeB out op cs) 3 [(classify l).content]
    else if (classify l).kind = 5 then (if op = 4 then pb ls none out op (cs ++ [(classify l).content]) else pb ls none (closeB out op cs) 4 [(classify l).content])
    else if op = 1 ∨ op = 3 then pb ls none out op (cs ++ [(classify l).content])
    else pb ls none (closeB out op cs) 1 [(classify l).content]
def pblocks (l : List UInt8) : List Blk := pb (split l) none [] 0 []

theorem pb_zero (ls : List (List UInt8)) (m : Option (List (List UInt8))) (out : List Blk) (cs cs' : List (List UInt8)) : pb ls m out 0 cs = pb ls m out 0 cs' := by
  induction ls generalizing m out with
  | nil => cases m <;> simp [pb, closeB]
  | cons l ls ih =>
    cases m with
    | none => simp [pb, closeB]
    | some code =>
      rw [pb, pb]
      split
      · exact ih _ _
      · exact ih _ _

theorem classify_len (l : List UInt8) : (classify l).content.length ≤ l.length := by
  unfold classify
  have h1 := trimB_len l
  have h2 := trimB_len l.tail
  have h3 := trimB_len (l.drop (hashes l))
  simp at h2 h3
  repeat' split
  all_goals simp
  all_goals omega
theorem classify_kind (l : List UInt8) : 0 ≤ (classify l).kind ∧ (classify l).kind ≤ 6 := by
  unfold classify
  repeat' split
  all_goals simp
/-- A paragraph's line is not empty. -/
theorem classify_para (l : List UInt8) (h : (classify l).kind = 6) : (classify l).content ≠ [] := by
  unfold classify at h ⊢
  by_cases h0 : trimB l = []
  · rw [if_pos h0] at h; simp at h
  · rw [if_neg h0] at h ⊢
    by_cases h1 : ticks l = true
    · rw [if_pos h1] at h; simp at h
    · rw [if_neg h1] at h ⊢
      by_cases h2 : headOk l (hashes l) = true
      · rw [if_pos h2] at h; simp at h
      · rw [if_neg h2] at h ⊢
        by_cases h3 : 3 ≤ (trimB l).length ∧ dashes (trimB l) = true
        · rw [if_pos h3] at h; simp at h
        · rw [if_neg h3] at h ⊢
          by_cases h4 : itemOk l = true
          · rw [if_pos h4] at h; simp at h
          · rw [if_neg h4] at h ⊢
            by_cases h5 : (l.getD 0 0).toNat = 62
            · rw [if_pos h5] at h; simp at h
            · rw [if_neg h5]; exact h0
end Go.Proofs.Ybuaaw
