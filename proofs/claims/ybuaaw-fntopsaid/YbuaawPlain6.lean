/-
  Plain functions: the class of a line. No Go in sight.
-/
import Derived.Test.YbuaawPlain1
namespace Go.Proofs.Ybuaaw

def trimB (l : List UInt8) : List UInt8 := ((l.dropWhile isSp).reverse.dropWhile isSp).reverse

theorem dropWhile_at {α : Type} (p : α → Bool) (l : List α) (a : Nat) (ha : a ≤ l.length) (h1 : ∀ x (hx : x < l.length), x < a → p l[x] = true) (h2 : ∀ h : a < l.length, p l[a] = false) : l.dropWhile p = l.drop a := by
  induction l generalizing a with
  | nil => simp
  | cons c l ih =>
    cases a with
    | zero =>
      have := h2 (by simp)
      rw [List.getElem_cons_zero] at this
      simp [this]
    | succ a =>
      have h0 := h1 0 (by simp) (by omega)
      rw [List.getElem_cons_zero] at h0
      rw [List.dropWhile_cons_of_pos h0, List.drop_succ_cons]
      refine ih a (by simpa using ha) ?_ ?_
      · intro x hx hxa
        have := h1 (x + 1) (by simp; omega) (by omega)
        simpa using this
      · intro h
        have := h2 (by simp; omega)
        simpa using this

theorem trimB_at (l : List UInt8) (a b : Nat) (hab : a ≤ b) (hb : b ≤ l.length) (h1 : ∀ x (hx : x < l.length), x < a → isSp l[x] = true) (h2 : ∀ h : a < l.length, isSp l[a] = false)
    (h3 : ∀ x (hx : x < l.length), b ≤ x → isSp l[x] = true) (h4 : ∀ h : a < b, isSp (l[b - 1]'(by omega)) = false) : trimB l = (l.drop a).take (b - a) := by
  unfold trimB
  rw [dropWhile_at isSp l a (by omega) h1 h2]
  have hlen : (l.drop a).reverse.length = l.length - a := by simp
  rw [dropWhile_at isSp (l.drop a).reverse (l.length - b) (by omega)]
  · rw [List.drop_reverse, List.reverse_reverse, List.length_drop, show l.length - a - (l.length - b) = b - a by omega]
  · intro x hx hxa
    rw [List.getElem_reverse, List.getElem_drop]
    simp only [List.length_drop]
    exact h3 _ (by omega) (by simp at hx; omega)
  · intro h
    rw [List.getElem_reverse, List.getElem_drop]
    simp only [List.length_drop]
    have := h4 (by simp at h; omega)
    have e : a + (l.length - a - 1 - (l.length - b)) = b - 1 := by simp at h; omega
    simp only [e]
    exact this
theorem dropWhile_le {α : Type} (p : α → Bool) (l : List α) : (l.dropWhile p).length ≤ l.length := by
  induction l with
  | nil => simp
  | cons c l ih =>
    rw [List.dropWhile_cons]
    split
    · simp; omega
    · simp
theorem trimB_len (l : List UInt8) : (trimB l).length ≤ l.length := by
  unfold trimB
  simp only [List.length_reverse]
  refine Nat.le_trans (dropWhile_le _ _) ?_
  rw [List.length_reverse]
  exact dropWhile_le _ _

structure LI where
  kind : Int
  level : Int
  content : List UInt8

def ticks (l : List UInt8) : Bool := match l with
  | a :: b :: c :: _ => decide (a.toNat = 96 ∧ b.toNat = 96 ∧ c.toNat = 96)
  | _ => false
theorem ticks_short (l : List UInt8) (h : ¬ 3 ≤ l.length) : ticks l = false := by
  match l, h with
  | [], _ => rfl
  | [_], _ => rfl
  | [_, _], _ => rfl
  | _ :: _ :: _ :: _, h => simp at h
theorem ticks_at (l : List UInt8) (h : 3 ≤ l.length) : ticks l = decide (l[0].toNat = 96 ∧ l[1].toNat = 96 ∧ l[2].toNat = 96) := by
  match l, h with
  | _ :: _ :: _ :: _, _ => rfl

/-- How many '#' at the head. -/
def hashes : List UInt8 → Nat
  | [] => 0
  | c :: l => if c.toNat = 35 then hashes l + 1 else 0
theorem hashes_at (l : List UInt8) (k : Nat) (hk : k ≤ l.length) (h1 : ∀ x (hx : x < l.length), x < k → l[x].toNat = 35) (h2 : ∀ h : k < l.length, l[k].toNat ≠ 35) : hashes l = k := by
  induction l generalizing k with
  | nil => simp at hk; subst hk; rfl
  | cons c l ih =>
    cases k with
    | zero =>
      have := h2 (by simp)
      rw [List.getElem_cons_zero] at this
      rw [hashes, if_neg this]
    | succ k =>
      have h0 := h1 0 (by simp) (by omega)
      rw [List.getElem_cons_zero] at h0
      rw [hashes, if_pos h0, ih k (by simpa using hk)]
      · intro x hx hxa
        have := h1 (x + 1) (by simp; omega) (by omega)
        simpa using this
      · intro h
        have := h2 (by simp; omega)
        simpa using this
def dashes : List UInt8 → Bool
  | [] => true
  | c :: l => if c.toNat = 45 then dashes l else false
theorem dashes_at (l : List UInt8) (k : Nat) (hk : k < l.length) : dashes (l.drop k) = if l[k].toNat = 45 then dashes (l.drop (k + 1)) else false := by
  rw [List.drop_eq_getElem_cons hk, dashes]
theorem dashes_end (l : List UInt8) (k : Nat) (h : l.length ≤ k) : dashes (l.drop k) = true := by
  rw [List.drop_of_length_le h, dashes]

def headOk (l : List UInt8) (k : Nat) : Bool := decide (1 ≤ k ∧ k ≤ 6) && (decide (l.length = k) || isSp (l.getD k 0))
def itemOk (l : List UInt8) : Bool := match l with
  | a :: b :: _ => decide (a.toNat = 45) && isSp b
  | _ => false
theorem itemOk_short (l : List UInt8) (h : ¬ 2 ≤ l.length) : itemOk l = false := by
  match l, h with
  | [], _ => rfl
  | [_], _ => rfl
  | _ :: _ :: _, h => simp at h
theorem itemOk_at (l : List UInt8) (h : 2 ≤ l.length) : itemOk l = (decide (l[0].toNat = 45) && isSp l[1]) := by
  match l, h with
  | _ :: _ :: _, _ => rfl

def classify (l : List UInt8) : LI :=
  if trimB l = [] then ⟨0, 0, []⟩
  else if ticks l = true then ⟨1, 0, []⟩
  else if headOk l (hashes l) = true then ⟨2, hashes l, trimB (l.drop (hashes l))⟩
  else if 3 ≤ (trimB l).length ∧ dashes (trimB l) = true then ⟨3, 0, []⟩
  else if itemOk l = true then ⟨4, 0, trimB l.tail⟩
  else if (l.getD 0 0).toNat = 62 then ⟨5, 0, trimB l.tail⟩
  else ⟨6, 0, trimB l⟩
theorem trimB_ne (l : List UInt8) (h : trimB l ≠ []) : 0 < l.length := by
  cases l with
  | nil => exact absurd rfl h
  | cons _ _ => simp
end Go.Proofs.Ybuaaw
