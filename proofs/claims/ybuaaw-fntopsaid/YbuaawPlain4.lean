/-
  Plain functions: lines out of fragments. No Go in sight.
-/
import Derived.Test.YbuaawPlain3
namespace Go.Proofs.Ybuaaw

def up (c : UInt8) : UInt8 := if 97 ≤ c.toNat ∧ c.toNat ≤ 122 then c - 32 else c
theorem up_yes (c : UInt8) (h : 97 ≤ c.toNat ∧ c.toNat ≤ 122) : ((up c).toNat : Int) = (c.toNat : Int) - 32 := by
  unfold up
  rw [if_pos h, UInt8.toNat_sub_of_le]
  · simp; omega
  · rw [UInt8.le_iff_toNat_le]; simp; omega
theorem up_no (c : UInt8) (h : ¬ (97 ≤ c.toNat ∧ c.toNat ≤ 122)) : up c = c := by unfold up; rw [if_neg h]
def shown (kind style : Int) (text : List UInt8) : List UInt8 := if kind = 2 ∨ style = 0 then text else text.map up
theorem shown_len (kind style : Int) (text : List UInt8) : (shown kind style text).length = text.length := by unfold shown; split <;> simp

def rlGo : List Frg → Nat → List (List UInt8) → List UInt8 → List (List UInt8)
  | [], _, lines, cur => lines ++ [cur]
  | f :: fs, i, lines, cur =>
    if i ≠ 0 ∧ f.brk = 2 then rlGo fs (i + 1) (lines ++ [cur]) (shown f.kind f.style f.text)
    else if i ≠ 0 ∧ f.brk = 1 then rlGo fs (i + 1) lines (cur ++ [32] ++ shown f.kind f.style f.text)
    else rlGo fs (i + 1) lines (cur ++ shown f.kind f.style f.text)
def rlines (fs : List Frg) : List (List UInt8) := if fs = [] then [] else rlGo fs 0 [] []
theorem rlines_ne (fs : List Frg) (h : fs.length ≠ 0) : rlines fs = rlGo fs 0 [] [] := by
  unfold rlines; rw [if_neg]; intro e; subst e; simp at h

theorem rlGo_brk2 (fs : List Frg) (k : Nat) (lines : List (List UInt8)) (cur : List UInt8) (hk : k < fs.length) (h0 : k ≠ 0) (hb : fs[k].brk = 2) :
    rlGo (fs.drop k) k lines cur = rlGo (fs.drop (k + 1)) (k + 1) (lines ++ [cur]) (shown fs[k].kind fs[k].style fs[k].text) := by
  rw [List.drop_eq_getElem_cons hk, rlGo, if_pos ⟨h0, hb⟩]
theorem rlGo_brk1 (fs : List Frg) (k : Nat) (lines : List (List UInt8)) (cur : List UInt8) (hk : k < fs.length) (h0 : k ≠ 0) (hb : fs[k].brk = 1) :
    rlGo (fs.drop k) k lines cur = rlGo (fs.drop (k + 1)) (k + 1) lines (cur ++ [32] ++ shown fs[k].kind fs[k].style fs[k].text) := by
  rw [List.drop_eq_getElem_cons hk, rlGo, if_neg (by omega), if_pos ⟨h0, hb⟩]
theorem rlGo_none (fs : List Frg) (k : Nat) (lines : List (List UInt8)) (cur : List UInt8) (hk : k < fs.length) (h : ¬ (k ≠ 0 ∧ (fs[k].brk = 2 ∨ fs[k].brk = 1))) :
    rlGo (fs.drop k) k lines cur = rlGo (fs.drop (k + 1)) (k + 1) lines (cur ++ shown fs[k].kind fs[k].style fs[k].text) := by
  rw [List.drop_eq_getElem_cons hk, rlGo, if_neg (fun c => h ⟨c.1, .inl c.2⟩), if_neg (fun c => h ⟨c.1, .inr c.2⟩)]

/-- How many line breaks from the second fragment on. -/
def cnt2 : List Frg → Nat
  | [] => 0
  | f :: fs => if f.brk = 2 then cnt2 fs + 1 else cnt2 fs
theorem rlGo_len (fs : List Frg) (i : Nat) (lines : List (List UInt8)) (cur : List UInt8) (hi : i ≠ 0) : (rlGo fs i lines cur).length = lines.length + 1 + cnt2 fs := by
  induction fs generalizing i lines cur with
  | nil => simp [rlGo, cnt2]
  | cons f fs ih =>
    rw [rlGo, cnt2]
    by_cases h2 : f.brk = 2
    · rw [if_pos ⟨hi, h2⟩, if_pos h2, ih _ _ _ (by omega)]; simp; omega
    · rw [if_neg (fun c => h2 c.2), if_neg h2]
      split
      · rw [ih _ _ _ (by omega)]
      · rw [ih _ _ _ (by omega)]
theorem rlines_len (f : Frg) (fs : List Frg) : (rlines (f :: fs)).length = 1 + cnt2 fs := by
  unfold rlines
  rw [if_neg (by simp), rlGo, if_neg (by simp), if_neg (by simp), rlGo_len _ _ _ _ (by simp)]
  simp
theorem cnt2_at (fs : List Frg) (k : Nat) (hk : k < fs.length) : cnt2 (fs.drop k) = if fs[k].brk = 2 then cnt2 (fs.drop (k + 1)) + 1 else cnt2 (fs.drop (k + 1)) := by
  rw [List.drop_eq_getElem_cons hk, cnt2]
theorem cnt2_le (fs : List Frg) : cnt2 fs ≤ fs.length := by
  induction fs with
  | nil => simp [cnt2]
  | cons f fs ih => rw [cnt2]; split <;> simp <;> omega
end Go.Proofs.Ybuaaw
