/-
  Plain functions: the rendering of one block. No Go in sight.
-/
import Derived.Test.YbuaawPlain12
import Derived.Test.YbuaawPlain5
namespace Go.Proofs.Ybuaaw

def hd1 (p : Inl) : Inl := if p.kind = 0 then ⟨p.kind, 1, p.text⟩ else p
def hdg (q : List Inl) : List Inl := q.map hd1
theorem hd1_text (p : Inl) : (hd1 p).text = p.text := by unfold hd1; split <;> rfl
theorem hdg_tlen (q : List Inl) : tlen (hdg q) = tlen q := by
  induction q with
  | nil => rfl
  | cons p q ih => simp only [hdg, List.map_cons, tlen, hd1_text] at ih ⊢; rw [ih]
theorem hdg_len (q : List Inl) : (hdg q).length = q.length := by simp [hdg]
/-- The heading's pieces while the loop runs. -/
def hdK (q : List Inl) (k : Nat) : List Inl := (q.take k).map hd1 ++ q.drop k
theorem hdK_zero (q : List Inl) : hdK q 0 = q := by simp [hdK]
theorem hdK_end (q : List Inl) (k : Nat) (h : q.length ≤ k) : hdK q k = hdg q := by
  unfold hdK hdg; rw [List.take_of_length_le h, List.drop_of_length_le h, List.append_nil]
theorem hdK_len (q : List Inl) (k : Nat) : (hdK q k).length = q.length := by unfold hdK; simp; omega
theorem hdK_at (q : List Inl) (k : Nat) (h : k < q.length) : (hdK q k)[k]'(by rw [hdK_len]; exact h) = q[k] := by
  unfold hdK
  rw [List.getElem_append_right (by simp; omega)]
  simp
  congr 1
  omega
theorem hdK_step (q : List Inl) (k : Nat) (h : k < q.length) : (hdK q k).set k (hd1 q[k]) = hdK q (k + 1) := by
  unfold hdK
  rw [List.set_append_right _ _ (by simp; omega)]
  have e : k - ((q.take k).map hd1).length = 0 := by simp; omega
  rw [e, List.drop_eq_getElem_cons h, List.set_cons_zero, List.take_succ_eq_append_getElem h, List.map_append, List.append_assoc]
  rfl
theorem hdK_same (q : List Inl) (k : Nat) (h : k < q.length) (hk : q[k].kind ≠ 0) : hdK q k = hdK q (k + 1) := by
  rw [← hdK_step q k h]
  have e : hd1 q[k] = (hdK q k)[k]'(by rw [hdK_len]; exact h) := by rw [hdK_at q k h]; unfold hd1; rw [if_neg hk]
  rw [e]
  simp

def mxGo : List (List UInt8) → Nat → Nat
  | [], m => m
  | l :: ls, m => mxGo ls (if m < l.length then l.length else m)
theorem mxGo_le (ls : List (List UInt8)) (m N : Nat) (hm : m ≤ N) (h : ∀ l ∈ ls, l.length ≤ N) : mxGo ls m ≤ N := by
  induction ls generalizing m with
  | nil => exact hm
  | cons l ls ih =>
    rw [mxGo]
    refine ih _ ?_ (fun x hx => h x (by simp [hx]))
    have := h l (by simp)
    split <;> omega
theorem mxGo_ge (ls : List (List UInt8)) (m : Nat) : m ≤ mxGo ls m := by
  induction ls generalizing m with
  | nil => exact Nat.le_refl _
  | cons l ls ih =>
    rw [mxGo]
    refine Nat.le_trans ?_ (ih _)
    split <;> omega
theorem mxGo_at (ls : List (List UInt8)) (k m : Nat) (h : k < ls.length) : mxGo (ls.drop k) m = mxGo (ls.drop (k + 1)) (if m < ls[k].length then ls[k].length else m) := by
  rw [List.drop_eq_getElem_cons h, mxGo]

def iw (W : Nat) : Nat := if 3 ≤ W then W - 2 else 1
theorem iw_pos (W : Nat) : 0 < iw W := by unfold iw; split <;> omega
def cL (lv : Int) : UInt8 := if lv = 1 then 61 else 45

def itGo : List (List UInt8) → Nat → List (List UInt8) → List (List UInt8)
  | [], _, acc => acc
  | l :: ls, i, acc => itGo ls (i + 1) (acc ++ [(if i = 0 then [42, 32] else [32, 32]) ++ l])
theorem itGo_at (ls : List (List UInt8)) (k : Nat) (acc : List (List UInt8)) (h : k < ls.length) : itGo (ls.drop k) k acc = itGo (ls.drop (k + 1)) (k + 1) (acc ++ [(if k = 0 then [42, 32] else [32, 32]) ++ ls[k]]) := by
  rw [List.drop_eq_getElem_cons h, itGo]
theorem itGo_wid (ls : List (List UInt8)) (i : Nat) (acc : List (List UInt8)) (N : Nat) (ha : ∀ l ∈ acc, l.length ≤ N) (h : ∀ l ∈ ls, l.length + 2 ≤ N) : ∀ l ∈ itGo ls i acc, l.length ≤ N := by
  induction ls generalizing i acc with
  | nil => exact ha
  | cons x ls ih =>
    rw [itGo]
    refine ih _ _ ?_ (fun y hy => h y (by simp [hy]))
    intro y hy
    rcases List.mem_append.1 hy with h1 | h1
    · exact ha y h1
    · simp at h1; subst h1
      have := h x (by simp)
      split <;> simp <;> omega
def qGo (p : List UInt8) : List (List UInt8) → List (List UInt8) → List (List UInt8)
  | [], acc => acc
  | l :: ls, acc => qGo p ls (acc ++ [p ++ l])
theorem qGo_at (p : List UInt8) (ls : List (List UInt8)) (k : Nat) (acc : List (List UInt8)) (h : k < ls.length) : qGo p (ls.drop k) acc = qGo p (ls.drop (k + 1)) (acc ++ [p ++ ls[k]]) := by
  rw [List.drop_eq_getElem_cons h, qGo]
theorem qGo_acc (p : List UInt8) (ls acc : List (List UInt8)) : qGo p ls acc = acc ++ ls.map (p ++ ·) := by
  induction ls generalizing acc with
  | nil => simp [qGo]
  | cons l ls ih => rw [qGo, ih]; simp
def itemL (ls : List (List UInt8)) : List (List UInt8) := if ls = [] then [[42]] else itGo ls 0 []
def quoteL (ls : List (List UInt8)) : List (List UInt8) := if ls = [] then [[124]] else qGo [124, 32] ls []

def rblock (W : Nat) (b : Blk) : List (List UInt8) :=
  if b.kind = 5 then qGo [32, 32, 32, 32] (cut b.text) []
  else if b.kind = 6 then [List.replicate (min W 80) 45]
  else if b.kind = 2 then rlines (layout W (hdg (norm (pinl b.text)))) ++ [List.replicate (mxGo (rlines (layout W (hdg (norm (pinl b.text))))) 0) (cL b.level)]
  else if b.kind = 3 then itemL (rlines (layout (iw W) (norm (pinl b.text))))
  else if b.kind = 4 then quoteL (rlines (layout (iw W) (norm (pinl b.text))))
  else rlines (layout W (norm (pinl b.text)))

theorem rlGo_bd (fs : List Frg) (i : Nat) (lines : List (List UInt8)) (cur : List UInt8) : ∀ l ∈ rlGo fs i lines cur, l ∈ lines ∨ l.length ≤ cur.length + flen fs + fs.length := by
  induction fs generalizing i lines cur with
  | nil =>
    intro l hl
    rw [rlGo] at hl
    rcases List.mem_append.1 hl with h | h
    · exact .inl h
    · simp at h; subst h; exact .inr (by simp [flen])
  | cons f fs ih =>
    intro l hl
    rw [rlGo] at hl
    simp only [flen, List.length_cons]
    split at hl
    · rcases ih _ _ _ l hl with h | h
      · rcases List.mem_append.1 h with h2 | h2
        · exact .inl h2
        · simp at h2; subst h2; exact .inr (by omega)
      · rw [shown_len] at h; exact .inr (by omega)
    · split at hl
      · rcases ih _ _ _ l hl with h | h
        · exact .inl h
        · simp only [List.length_append, shown_len, List.length_cons, List.length_nil] at h; exact .inr (by omega)
      · rcases ih _ _ _ l hl with h | h
        · exact .inl h
        · simp only [List.length_append, shown_len] at h; exact .inr (by omega)
theorem rlines_bd (fs : List Frg) : ∀ l ∈ rlines fs, l.length ≤ flen fs + fs.length := by
  intro l hl
  unfold rlines at hl
  split at hl
  · cases hl
  · rcases rlGo_bd fs 0 [] [] l hl with h | h
    · cases h
    · simpa using h
theorem rlines_cnt (fs : List Frg) : (rlines fs).length ≤ 1 + fs.length := by
  cases fs with
  | nil => simp [rlines]
  | cons f fs => rw [rlines_len]; have := cnt2_le fs; simp; omega

/-- The pieces of a text, normalized: their sizes. -/
def pq (t : List UInt8) : List Inl := norm (pinl t)
theorem pq_size (t : List UInt8) : (pq t).length + tlen (pq t) ≤ 9 * t.length + 3 := by
  have h1 := pinl_size t
  have h2 := norm_len (pinl t)
  have h3 := norm_tlen (pinl t)
  unfold pq
  omega
theorem lay_size (W : Nat) (hW : 0 < W) (q : List Inl) : (layout W q).length ≤ tlen q ∧ flen (layout W q) ≤ tlen q := ⟨layout_len W hW q, flen_layout W hW q⟩
theorem rl_size (W : Nat) (hW : 0 < W) (q : List Inl) : (rlines (layout W q)).length ≤ 1 + tlen q ∧ ∀ l ∈ rlines (layout W q), l.length ≤ 2 * tlen q := by
  have h1 := layout_len W hW q
  have h2 := flen_layout W hW q
  refine ⟨Nat.le_trans (rlines_cnt _) (by omega), fun l hl => Nat.le_trans (rlines_bd _ l hl) (by omega)⟩

theorem rblock_wid (W : Nat) (b : Blk) (hW : 3 ≤ W) (hk : b.kind ≠ 5) : ∀ l ∈ rblock W b, l.length ≤ W := by
  have hW0 : 0 < W := by omega
  have hiw : iw W = W - 2 := by unfold iw; rw [if_pos hW]
  unfold rblock
  rw [if_neg hk]
  split
  · intro l hl; simp at hl; subst hl; simp; omega
  · split
    · intro l hl
      have hw := layout_wid W hW0 (hdg (norm (pinl b.text)))
      rcases List.mem_append.1 hl with h | h
      · exact hw l h
      · simp at h; subst h
        rw [List.length_replicate]
        exact mxGo_le _ 0 W (Nat.zero_le _) hw
    · split
      · have hw := layout_wid (iw W) (iw_pos W) (norm (pinl b.text))
        unfold itemL
        split
        · intro l hl; simp at hl; subst hl; simp; omega
        · exact itGo_wid _ _ _ W (by intro l hl; cases hl) (fun l hl => by have := hw l hl; omega)
      · split
        · have hw := layout_wid (iw W) (iw_pos W) (norm (pinl b.text))
          unfold quoteL
          split
          · intro l hl; simp at hl; subst hl; simp; omega
          · intro l hl
            rw [qGo_acc] at hl
            simp at hl
            obtain ⟨x, hx, rfl⟩ := hl
            have := hw x hx
            simp; omega
        · exact layout_wid W hW0 _
end Go.Proofs.Ybuaaw
