/-
  Plain laws for the reference layout: the owner of a place in a word. No Go in sight.
-/
import Derived.Test.YbuaawPlain12
namespace Go.Proofs.Ybuaaw

def wsz : List (List Inl) → Nat
  | [] => 0
  | x :: ws => tlen x + 1 + wsz ws
theorem wsz_fold (ws : List (List Inl)) : wsz ws = ws.foldr (fun x n => tlen x + 1 + n) 0 := by
  induction ws with
  | nil => rfl
  | cons x ws ih => rw [wsz, ih]; rfl
theorem wsz_words (ps : List Inl) : wsz (words ps) ≤ tlen ps + ps.length + 1 := by
  rw [wsz_fold]
  have := wGo_size ps [] []
  simp [tlen] at this
  unfold words
  omega
theorem wsz_at (ws : List (List Inl)) (k : Nat) (h : k < ws.length) : wsz (ws.drop k) = tlen ws[k] + 1 + wsz (ws.drop (k + 1)) := by
  rw [List.drop_eq_getElem_cons h, wsz]
theorem wsz_len (ws : List (List Inl)) : ws.length ≤ wsz ws := by
  induction ws with
  | nil => simp [wsz]
  | cons x ws ih => simp only [wsz, List.length_cons]; omega
theorem lGo_at (W : Nat) (ws : List (List Inl)) (k : Nat) (st : Bool) (col : Nat) (out : List Frg) (h : k < ws.length) : lGo W (ws.drop k) st col out =
    if tlen ws[k] ≤ W then lGo W (ws.drop (k + 1)) true (if st = true ∧ col + 1 + tlen ws[k] ≤ W then col + 1 + tlen ws[k] else tlen ws[k]) (out ++ fit (brF W st col (tlen ws[k])) ws[k])
    else lGo W (ws.drop (k + 1)) true (if tlen ws[k] % W = 0 then W else tlen ws[k] % W) (out ++ ch W st ws[k] 0) := by
  rw [List.drop_eq_getElem_cons h, lGo]

theorem tlen_take1 (ps : List Inl) (k : Nat) (hk : k < ps.length) : tlen (ps.take (k + 1)) = tlen (ps.take k) + ps[k].text.length := by
  rw [List.take_succ_eq_append_getElem hk, tlen_append]; simp [tlen]
theorem tlen_take_le (ps : List Inl) (k : Nat) : tlen (ps.take k) ≤ tlen ps := by
  have e := congrArg tlen (List.take_append_drop k ps)
  rw [tlen_append] at e; omega
theorem tlen_take_mono (ps : List Inl) (a b : Nat) (h : a ≤ b) : tlen (ps.take a) ≤ tlen (ps.take b) := by
  have e : ps.take a = (ps.take b).take a := by rw [List.take_take, Nat.min_eq_left h]
  rw [e]; exact tlen_take_le _ _

/-- Which piece the place x lies in. -/
def loc : List Inl → Nat → Nat
  | [], _ => 0
  | m :: ms, x => if x < m.text.length then 0 else 1 + loc ms (x - m.text.length)
theorem loc_spec (ms : List Inl) (x : Nat) (h : x < tlen ms) : loc ms x < ms.length ∧ tlen (ms.take (loc ms x)) ≤ x ∧ x < tlen (ms.take (loc ms x + 1)) := by
  induction ms generalizing x with
  | nil => simp [tlen] at h
  | cons m ms ih =>
    rw [loc]
    split
    · rename_i hx; simp [tlen]; exact hx
    · rename_i hx
      have := ih (x - m.text.length) (by simp only [tlen] at h; omega)
      rw [Nat.add_comm 1]
      simp only [List.take_succ_cons, tlen, List.length_cons]
      omega
theorem loc_uniq (ms : List Inl) (x k : Nat) (h : x < tlen ms) (h1 : tlen (ms.take k) ≤ x) (h2 : x < tlen (ms.take (k + 1))) : loc ms x = k := by
  obtain ⟨a, b, c⟩ := loc_spec ms x h
  rcases Nat.lt_trichotomy (loc ms x) k with h3 | h3 | h3
  · have := tlen_take_mono ms (loc ms x + 1) k h3; omega
  · exact h3
  · have := tlen_take_mono ms (k + 1) (loc ms x) h3; omega
def ownL (ms : List Inl) : List Int := (List.range (tlen ms)).map fun x => (loc ms x : Int)
theorem ownL_len (ms : List Inl) : (ownL ms).length = tlen ms := by simp [ownL]
theorem ownL_get (ms : List Inl) (x : Nat) (h : x < (ownL ms).length) : (ownL ms)[x] = (loc ms x : Int) := by simp [ownL]

/-- What is left of a word from place p on. -/
def dropB : List Inl → Nat → List Inl
  | [], _ => []
  | m :: ms, p => if p < m.text.length then ⟨m.kind, m.style, m.text.drop p⟩ :: ms else dropB ms (p - m.text.length)
theorem dropB_end (ms : List Inl) (p : Nat) (h : tlen ms ≤ p) : dropB ms p = [] := by
  induction ms generalizing p with
  | nil => rfl
  | cons m ms ih =>
    simp only [tlen] at h
    rw [dropB, if_neg (by omega), ih _ (by omega)]
theorem dropB_at (ms : List Inl) (k a : Nat) (hk : k < ms.length) (ha : a < ms[k].text.length) : dropB ms (tlen (ms.take k) + a) = ⟨ms[k].kind, ms[k].style, ms[k].text.drop a⟩ :: ms.drop (k + 1) := by
  induction ms generalizing k with
  | nil => simp at hk
  | cons m ms ih =>
    cases k with
    | zero => simp at ha ⊢; simp [dropB, tlen, ha]
    | succ k =>
      simp only [List.getElem_cons_succ] at ha ⊢
      simp only [List.take_succ_cons, tlen, List.drop_succ_cons]
      rw [dropB, if_neg (by omega), ← ih k (by simpa using hk) ha]
      congr 1
      omega
theorem dropB_cut (ms : List Inl) (k : Nat) (hk : k ≤ ms.length) (hw : Wd ms) : dropB ms (tlen (ms.take k)) = ms.drop k := by
  by_cases h : k < ms.length
  · have hne := hw ms[k] (List.getElem_mem h)
    have hl : 0 < ms[k].text.length := by
      rcases Nat.eq_zero_or_pos ms[k].text.length with e | e
      · exact absurd (List.eq_nil_of_length_eq_zero e) hne
      · exact e
    have := dropB_at ms k 0 h hl
    rw [Nat.add_zero] at this
    rw [this, List.drop_zero, List.drop_eq_getElem_cons h]
  · rw [List.drop_of_length_le (by omega), List.take_of_length_le (by omega)]
    exact dropB_end ms _ (Nat.le_refl _)
theorem dropB_zero (ms : List Inl) (hw : Wd ms) : dropB ms 0 = ms := by
  have := dropB_cut ms 0 (Nat.zero_le _) hw
  simpa [tlen] using this
theorem wtx_take (ms : List Inl) (k : Nat) : wtx (ms.take k) = (wtx ms).take (tlen (ms.take k)) := by
  have e : wtx ms = wtx (ms.take k) ++ wtx (ms.drop k) := by
    unfold wtx; rw [← List.flatMap_append, List.take_append_drop]
  rw [e, ← wtx_len, List.take_left']
  rfl
theorem wtx_drop (ms : List Inl) (k a : Nat) (hk : k < ms.length) (ha : a ≤ ms[k].text.length) : (wtx ms).drop (tlen (ms.take k) + a) = ms[k].text.drop a ++ wtx (ms.drop (k + 1)) := by
  have e : wtx ms = wtx (ms.take k) ++ (ms[k].text ++ wtx (ms.drop (k + 1))) := by
    have e0 : wtx ms = wtx (ms.take k ++ (ms[k] :: ms.drop (k + 1))) := by rw [← List.drop_eq_getElem_cons hk, List.take_append_drop]
    rw [e0]
    simp only [wtx, List.flatMap_append, List.flatMap_cons]
  rw [e, ← wtx_len, ← List.drop_drop, List.drop_left', List.drop_append_of_le_length ha]
  rfl
theorem wtx_get (ms : List Inl) (k j : Nat) (hk : k < ms.length) (hj : j < ms[k].text.length) (h : tlen (ms.take k) + j < (wtx ms).length) : (wtx ms)[tlen (ms.take k) + j] = ms[k].text[j] := by
  have e := wtx_drop ms k j hk (by omega)
  have e1 : ((wtx ms).drop (tlen (ms.take k) + j))[0]? = some ms[k].text[j] := by
    rw [e, List.getElem?_append_left (by simp; omega)]
    simp [hj]
  rw [List.getElem?_drop, Nat.add_zero, List.getElem?_eq_getElem h] at e1
  exact Option.some.inj e1
/-- One step of the reference: from place p to p + tk. -/
theorem chS (W : Nat) (st : Bool) (ms : List Inl) (p o tk : Nat) (hW : 0 < W) (hw : Wd ms) (ho : o < ms.length) (h1 : tlen (ms.take o) ≤ p) (h2 : p < tlen (ms.take o) + ms[o].text.length)
    (htk : tk = min (W - p % W) (tlen (ms.take o) + ms[o].text.length - p)) :
    ch W st (dropB ms p) p = ⟨brC W st p, ms[o].kind, ms[o].style, ((wtx ms).drop p).take tk⟩ :: ch W st (dropB ms (p + tk)) (p + tk) := by
  obtain ⟨a, rfl⟩ : ∃ a, p = tlen (ms.take o) + a := ⟨p - tlen (ms.take o), by omega⟩
  have ha : a < ms[o].text.length := by omega
  rw [dropB_at ms o a ho ha, wtx_drop ms o a ho (by omega)]
  generalize hp : tlen (ms.take o) + a = p at *
  have hm := Nat.mod_lt p hW
  rw [ch_step W st _ _ _ _ p hW (by intro e; have := congrArg List.length e; simp at this; omega)]
  have hl : (ms[o].text.drop a).length = ms[o].text.length - a := by simp
  have e0 : min (W - p % W) (ms[o].text.drop a).length = tk := by rw [hl, htk]; congr 1; omega
  have e1 : (ms[o].text.drop a).take (W - p % W) = (ms[o].text.drop a ++ wtx (ms.drop (o + 1))).take tk := by
    rw [List.take_append_of_le_length (by rw [← e0]; omega), ← e0]
    by_cases h : W - p % W ≤ (ms[o].text.drop a).length
    · rw [Nat.min_eq_left h]
    · rw [Nat.min_eq_right (by omega), List.take_length, List.take_of_length_le (by omega)]
  rw [e0, e1]
  congr 1
  by_cases h : a + tk < ms[o].text.length
  · have e2 : p + tk = tlen (ms.take o) + (a + tk) := by omega
    have e3 : W - p % W = tk := by omega
    rw [e2, dropB_at ms o (a + tk) ho h, List.drop_drop, e3]
  · have e2 : p + tk = tlen (ms.take (o + 1)) := by rw [tlen_take1 ms o ho]; omega
    rw [e2, dropB_cut ms (o + 1) (by omega) hw, List.drop_of_length_le (by rw [hl]; omega), ch_nil]
/-- Where the reference's inner loop stops. -/
theorem q_eq (W : Nat) (ms : List Inl) (p q e : Nat) (hW : 0 < W) (hp : p < tlen ms) (he : e = min (tlen ms) (p + (W - p % W))) (hpq : p < q) (hqe : q ≤ e)
    (hrun : ∀ x, p ≤ x → x < q → loc ms x = loc ms p) (hstop : q = e ∨ loc ms q ≠ loc ms p) (ho : loc ms p < ms.length) :
    q - p = min (W - p % W) (tlen (ms.take (loc ms p)) + ms[loc ms p].text.length - p) := by
  obtain ⟨a, b, c⟩ := loc_spec ms p hp
  rw [tlen_take1 ms _ ho] at c
  have hle := tlen_take_le ms (loc ms p + 1)
  rw [tlen_take1 ms _ ho] at hle
  have hm := Nat.mod_lt p hW
  have hq1 := hrun (q - 1) (by omega) (by omega)
  obtain ⟨_, b2, c2⟩ := loc_spec ms (q - 1) (by omega)
  rw [hq1, tlen_take1 ms _ ho] at c2
  rcases hstop with h | h
  · omega
  · by_cases hqL : q < tlen ms
    · have : tlen (ms.take (loc ms p)) + ms[loc ms p].text.length ≤ q := by
        rcases Nat.lt_or_ge q (tlen (ms.take (loc ms p)) + ms[loc ms p].text.length) with h3 | h3
        · exact absurd (loc_uniq ms q (loc ms p) hqL (by omega) (by rw [tlen_take1 ms _ ho]; omega)) h
        · exact h3
      omega
    · omega
theorem brC_start (W : Nat) (st : Bool) (p start : Nat) (hs : start % W = 0) (h1 : start ≤ p) (h2 : p < start + W) : brC W st p = if p = start ∧ (start ≠ 0 ∨ st = true) then 2 else 0 := by
  have hpm : p % W = p - start := by
    have e : p = W * (start / W) + (p - start) := by have := Nat.div_add_mod start W; omega
    rw [e, Nat.mul_add_mod, Nat.mod_eq_of_lt (by omega)]
    have := Nat.div_add_mod start W
    omega
  unfold brC
  rw [hpm]
  by_cases e : p = start
  · subst e
    rw [Nat.sub_self, if_pos rfl]
    by_cases h0 : p = 0
    · subst h0; cases st <;> simp
    · rw [if_neg h0, if_pos ⟨rfl, .inl h0⟩]
  · rw [if_neg (by omega), if_neg (fun h => e h.1)]
theorem mod_start (W : Nat) (p start : Nat) (hs : start % W = 0) (h1 : start ≤ p) (h2 : p < start + W) : p % W = p - start := by
  have e : p = W * (start / W) + (p - start) := by have := Nat.div_add_mod start W; omega
  rw [e, Nat.mul_add_mod, Nat.mod_eq_of_lt (by omega)]
  have := Nat.div_add_mod start W
  omega
end Go.Proofs.Ybuaaw
