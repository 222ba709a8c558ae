/-
  Plain laws of the blocks. No Go in sight.
-/
import Derived.Test.YbuaawPlain8
namespace Go.Proofs.Ybuaaw

def OkB (bs : List Blk) : Prop := ∀ b ∈ bs, b.kind = 1 → b.text ≠ []
def HdNE (cs : List (List UInt8)) : Prop := match cs with
  | [] => False
  | c :: _ => c ≠ []
theorem tx_ne (cs : List (List UInt8)) (h : HdNE cs) : tx cs ≠ [] := by
  cases cs with
  | nil => exact absurd h (by simp [HdNE])
  | cons c cs =>
    have hc : c ≠ [] := h
    unfold tx
    rw [tGo, if_neg hc, if_pos rfl, List.nil_append]
    intro e
    have := tGo_ge cs c
    rw [e] at this
    cases c with
    | nil => exact hc rfl
    | cons _ _ => simp at this
theorem HdNE.snoc {cs : List (List UInt8)} (h : HdNE cs) (x : List UInt8) : HdNE (cs ++ [x]) := by
  cases cs with
  | nil => exact absurd h (by simp [HdNE])
  | cons c cs => exact h
theorem OkB.snoc {bs : List Blk} {x : Blk} (h : OkB bs) (hx : x.kind = 1 → x.text ≠ []) : OkB (bs ++ [x]) := by
  intro p hp
  rcases List.mem_append.1 hp with hp | hp
  · exact h p hp
  · simp at hp; subst hp; exact hx
theorem OkB.closeB {bs : List Blk} (h : OkB bs) (op : Int) (cs : List (List UInt8)) (hc : op = 1 → HdNE cs) : OkB (closeB bs op cs) := by
  unfold Ybuaaw.closeB
  split
  · exact h
  · exact h.snoc (fun e => tx_ne _ (hc e))
theorem OkB.flushCode {bs : List Blk} (h : OkB bs) (cd : List (List UInt8)) : OkB (flushCode bs cd) := by
  unfold Ybuaaw.flushCode
  split
  · exact h
  · exact h.snoc (fun e => absurd e (by simp))
theorem pb_ok (ls : List (List UInt8)) (m : Option (List (List UInt8))) (out : List Blk) (op : Int) (cs : List (List UInt8)) (h : OkB out) (hc : op = 1 → HdNE cs) : OkB (pb ls m out op cs) := by
  induction ls generalizing m out op cs with
  | nil =>
    cases m with
    | none => exact h.closeB op cs hc
    | some cd => exact h.flushCode cd
  | cons l ls ih =>
    cases m with
    | some cd =>
      rw [pb]
      split
      · exact ih _ _ _ _ (h.flushCode cd) hc
      · exact ih _ _ _ _ h hc
    | none =>
      have hcl := h.closeB op cs hc
      have n0 : (0 : Int) = 1 → HdNE [] := fun e => absurd e (by decide)
      rw [pb]
      by_cases k0 : (classify l).kind = 0
      · rw [if_pos k0]; exact ih _ _ _ _ hcl n0
      · rw [if_neg k0]
        by_cases k1 : (classify l).kind = 1
        · rw [if_pos k1]; exact ih _ _ _ _ hcl n0
        · rw [if_neg k1]
          by_cases k2 : (classify l).kind = 2
          · rw [if_pos k2]; exact ih _ _ _ _ (hcl.snoc (fun e => absurd e (by simp))) n0
          · rw [if_neg k2]
            by_cases k3 : (classify l).kind = 3
            · rw [if_pos k3]; exact ih _ _ _ _ (hcl.snoc (fun e => absurd e (by simp))) n0
            · rw [if_neg k3]
              by_cases k4 : (classify l).kind = 4
              · rw [if_pos k4]; exact ih _ _ _ _ hcl (fun e => absurd e (by decide))
              · rw [if_neg k4]
                by_cases k5 : (classify l).kind = 5
                · rw [if_pos k5]
                  split
                  · rename_i h4; exact ih _ _ _ _ h (fun e => absurd e (by omega))
                  · exact ih _ _ _ _ hcl (fun e => absurd e (by decide))
                · rw [if_neg k5]
                  have hk := classify_kind l
                  have k6 : (classify l).kind = 6 := by omega
                  split
                  · exact ih _ _ _ _ h (fun e => (hc e).snoc _)
                  · exact ih _ _ _ _ hcl (fun _ => classify_para l k6)
theorem pblocks_ok (l : List UInt8) : OkB (pblocks l) := pb_ok _ _ _ _ _ (by intro b hb; cases hb) (fun e => absurd e (by decide))
theorem pb_blank (ls : List (List UInt8)) (out : List Blk) (h : ∀ x (hx : x < ls.length), (classify ls[x]).kind = 0) : pb ls none out 0 [] = out := by
  induction ls generalizing out with
  | nil => simp [pb, closeB]
  | cons l ls ih =>
    have h0 := h 0 (by simp)
    rw [List.getElem_cons_zero] at h0
    rw [pb, if_pos h0, show closeB out 0 [] = out by simp [closeB]]
    exact ih out (fun x hx => by have := h (x + 1) (by simp; omega); simpa using this)
theorem flushCode_len2 (out : List Blk) (cd : List (List UInt8)) : (flushCode out cd).length ≤ out.length + 1 := by unfold flushCode; split <;> simp
end Go.Proofs.Ybuaaw
