/-
  Plain functions: the layout. No Go in sight.
-/
import Derived.Test.YbuaawPlain3
namespace Go.Proofs.Ybuaaw

/-- The words: runs of pieces between spaces, without empty texts. -/
def addW (ws : List (List Inl)) (cur : List Inl) : List (List Inl) := if cur = [] then ws else ws ++ [cur]
def wGo : List Inl → List Inl → List (List Inl) → List (List Inl)
  | [], cur, ws => addW ws cur
  | p :: ps, cur, ws => if p.kind = 1 then wGo ps [] (addW ws cur) else if p.text = [] then wGo ps cur ws else wGo ps (cur ++ [p]) ws
def words (ps : List Inl) : List (List Inl) := wGo ps [] []
theorem wGo_at (ps : List Inl) (k : Nat) (cur : List Inl) (ws : List (List Inl)) (h : k < ps.length) : wGo (ps.drop k) cur ws =
    if ps[k].kind = 1 then wGo (ps.drop (k + 1)) [] (addW ws cur) else if ps[k].text = [] then wGo (ps.drop (k + 1)) cur ws else wGo (ps.drop (k + 1)) (cur ++ [ps[k]]) ws := by
  rw [List.drop_eq_getElem_cons h, wGo]

/-- A word that fits: the break at its first piece, none at the others. -/
def fit (f : Int) : List Inl → List Frg
  | [] => []
  | m :: ms => ⟨f, m.kind, m.style, m.text⟩ :: fit 0 ms
def brF (W : Nat) (st : Bool) (col L : Nat) : Int := if st = true then (if col + 1 + L ≤ W then 1 else 2) else 0
/-- The break ahead of place pos in a word that is cut. -/
def brC (W : Nat) (st : Bool) (pos : Nat) : Int := if pos % W = 0 then (if pos = 0 then (if st = true then 2 else 0) else 2) else 0
/-- A word that does not fit: cut at each multiple of W and at each piece. The head's text: what is left of it. -/
def ch (W : Nat) (st : Bool) : List Inl → Nat → List Frg
  | [], _ => []
  | m :: ms, pos =>
    if _h : m.text = [] ∨ W = 0 then ch W st ms pos
    else ⟨brC W st pos, m.kind, m.style, m.text.take (W - pos % W)⟩ :: ch W st (⟨m.kind, m.style, m.text.drop (W - pos % W)⟩ :: ms) (pos + min (W - pos % W) m.text.length)
termination_by ms _ => tlen ms + ms.length
decreasing_by
  · simp [tlen]; omega
  · have h0 : ¬ m.text = [] := fun e => _h (.inl e)
    have hW : 0 < W := by omega
    have := Nat.mod_lt pos hW
    have hl : 0 < m.text.length := by cases e : m.text with | nil => exact absurd e h0 | cons _ _ => simp
    simp [tlen]
    omega
def lGo (W : Nat) : List (List Inl) → Bool → Nat → List Frg → List Frg
  | [], _, _, out => out
  | ms :: ws, st, col, out =>
    if tlen ms ≤ W then lGo W ws true (if st = true ∧ col + 1 + tlen ms ≤ W then col + 1 + tlen ms else tlen ms) (out ++ fit (brF W st col (tlen ms)) ms)
    else lGo W ws true (if tlen ms % W = 0 then W else tlen ms % W) (out ++ ch W st ms 0)
def layout (W : Nat) (ps : List Inl) : List Frg := lGo W (words ps) false 0 []
def wid (n : Int) : Nat := if 1 ≤ n then n.toNat else 1

theorem addW_acc (ws : List (List Inl)) (cur : List Inl) : addW ws cur = ws ++ addW [] cur := by unfold addW; split <;> simp
theorem wGo_acc (ps cur : List Inl) (ws : List (List Inl)) : wGo ps cur ws = ws ++ wGo ps cur [] := by
  induction ps generalizing cur ws with
  | nil => rw [wGo, wGo, addW_acc]
  | cons p ps ih =>
    rw [wGo, wGo]
    split
    · rw [ih, addW_acc, ih [] (addW [] cur), List.append_assoc]
    · split
      · exact ih _ _
      · exact ih _ _
/-- Where the next piece is a space, or there is none, the word is done. -/
theorem wGo_stop (ps : List Inl) (k : Nat) (cur : List Inl) (h : ∀ hk : k < ps.length, ps[k].kind = 1) : wGo (ps.drop k) cur [] = addW [] cur ++ wGo (ps.drop k) [] [] := by
  by_cases hk : k < ps.length
  · rw [wGo_at ps k cur [] hk, wGo_at ps k [] [] hk, if_pos (h hk), if_pos (h hk), wGo_acc]
    simp [addW]
  · rw [List.drop_of_length_le (by omega), wGo, wGo]
    simp [addW]
theorem wGo_sp (ps : List Inl) (k : Nat) (hk : k < ps.length) (h : ps[k].kind = 1) : wGo (ps.drop k) [] [] = wGo (ps.drop (k + 1)) [] [] := by
  rw [wGo_at ps k [] [] hk, if_pos h]; rfl
theorem fit_at (f : Int) (ms : List Inl) (k : Nat) (h : k < ms.length) : fit (if k = 0 then f else 0) (ms.drop k) = ⟨if k = 0 then f else 0, ms[k].kind, ms[k].style, ms[k].text⟩ :: fit 0 (ms.drop (k + 1)) := by
  rw [List.drop_eq_getElem_cons h, fit]
theorem ch_nil (W : Nat) (st : Bool) (kd sty : Int) (ms : List Inl) (pos : Nat) : ch W st (⟨kd, sty, []⟩ :: ms) pos = ch W st ms pos := by
  rw [ch, dif_pos (.inl rfl)]
theorem ch_step (W : Nat) (st : Bool) (kd sty : Int) (t : List UInt8) (ms : List Inl) (pos : Nat) (hW : 0 < W) (ht : t ≠ []) : ch W st (⟨kd, sty, t⟩ :: ms) pos =
    ⟨brC W st pos, kd, sty, t.take (W - pos % W)⟩ :: ch W st (⟨kd, sty, t.drop (W - pos % W)⟩ :: ms) (pos + min (W - pos % W) t.length) := by
  rw [ch, dif_neg (by simp [ht]; omega)]
end Go.Proofs.Ybuaaw
