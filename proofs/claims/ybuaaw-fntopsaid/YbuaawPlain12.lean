/-
  Plain laws of the layout, second part: the lines depend on the words' shown texts only. No Go in sight.
-/
import Derived.Test.YbuaawPlain11
namespace Go.Proofs.Ybuaaw

/-- The shown text of a word. -/
def sh (ms : List Inl) : List UInt8 := ms.flatMap fun m => shown m.kind m.style m.text
theorem sh_cons (m : Inl) (ms : List Inl) : sh (m :: ms) = shown m.kind m.style m.text ++ sh ms := rfl
theorem sh_app (a b : List Inl) : sh (a ++ b) = sh a ++ sh b := by simp [sh]
theorem sh_len (ms : List Inl) : (sh ms).length = tlen ms := by
  induction ms with
  | nil => rfl
  | cons m ms ih => rw [sh_cons, List.length_append, shown_len, tlen, ih]
theorem shown_app (k s : Int) (a b : List UInt8) : shown k s (a ++ b) = shown k s a ++ shown k s b := by unfold shown; split <;> simp
theorem shown_nil (k s : Int) : shown k s [] = [] := by unfold shown; split <;> simp

/-! ### The lines so far and the open line -/
abbrev St := List (List UInt8) × List UInt8
def bk (b : Int) (s : St) (x : List UInt8) : St := if b = 2 then (s.1 ++ [s.2], x) else if b = 1 then (s.1, s.2 ++ [32] ++ x) else (s.1, s.2 ++ x)
def rs : List Frg → St → St
  | [], s => s
  | f :: fs, s => rs fs (bk f.brk s (shown f.kind f.style f.text))
theorem rs_app (a b : List Frg) (s : St) : rs (a ++ b) s = rs b (rs a s) := by
  induction a generalizing s with
  | nil => rfl
  | cons f a ih => exact ih _
theorem rlGo_rs (fs : List Frg) (i : Nat) (lines : List (List UInt8)) (cur : List UInt8) (hi : i ≠ 0) : rlGo fs i lines cur = (rs fs (lines, cur)).1 ++ [(rs fs (lines, cur)).2] := by
  induction fs generalizing i lines cur with
  | nil => rfl
  | cons f fs ih =>
    rw [rlGo, rs, bk]
    by_cases h2 : f.brk = 2
    · rw [if_pos ⟨hi, h2⟩, if_pos h2, ih _ _ _ (by omega)]
    · rw [if_neg (fun h => h2 h.2), if_neg h2]
      by_cases h1 : f.brk = 1
      · rw [if_pos ⟨hi, h1⟩, if_pos h1, ih _ _ _ (by omega)]
      · rw [if_neg (fun h => h1 h.2), if_neg h1, ih _ _ _ (by omega)]
def fin (s : St) : List (List UInt8) := s.1 ++ [s.2]
theorem rlines_rs (fs : List Frg) (hh : ∀ h : 0 < fs.length, fs[0].brk = 0) (h : fs ≠ []) : rlines fs = fin (rs fs ([], [])) := by
  cases fs with
  | nil => exact absurd rfl h
  | cons f fs =>
    have h0 : f.brk = 0 := hh (by simp)
    unfold rlines
    rw [if_neg (by simp), rlGo, if_neg (by simp), if_neg (by simp), rlGo_rs _ _ _ _ (by omega), rs, bk, if_neg (by omega), if_neg (by omega)]
    rfl

/-! ### A word that fits -/
theorem rs_fit0 (ms : List Inl) (s : St) : rs (fit 0 ms) s = (s.1, s.2 ++ sh ms) := by
  induction ms generalizing s with
  | nil => simp [fit, rs, sh]
  | cons m ms ih => rw [fit, rs, ih, bk, if_neg (by simp), if_neg (by simp), sh_cons]; simp
theorem rs_fit (f : Int) (ms : List Inl) (s : St) (h : ms ≠ []) : rs (fit f ms) s = bk f s (sh ms) := by
  cases ms with
  | nil => exact absurd rfl h
  | cons m ms =>
    rw [fit, rs, rs_fit0, sh_cons]
    unfold bk
    split
    · rfl
    · split <;> simp

/-! ### A word that is cut, byte by byte -/
def chB (W : Nat) (st : Bool) : List UInt8 → Nat → St → St
  | [], _, s => s
  | c :: x, pos, s => chB W st x (pos + 1) (bk (brC W st pos) s [c])
theorem chB_app (W : Nat) (st : Bool) (a b : List UInt8) (pos : Nat) (s : St) : chB W st (a ++ b) pos s = chB W st b (pos + a.length) (chB W st a pos s) := by
  induction a generalizing pos s with
  | nil => rfl
  | cons c a ih => simp only [List.cons_append, chB, List.length_cons]; rw [ih]; congr 1; omega
theorem chB_in (W : Nat) (st : Bool) (a : List UInt8) (pos : Nat) (s : St) (h0 : pos % W ≠ 0) (h : a.length ≤ W - pos % W) : chB W st a pos s = (s.1, s.2 ++ a) := by
  induction a generalizing pos s with
  | nil => simp [chB]
  | cons c a ih =>
    have hW : 0 < W := by simp at h; omega
    have hb : brC W st pos = 0 := by unfold brC; rw [if_neg h0]
    rw [chB, hb, bk, if_neg (by simp), if_neg (by simp)]
    simp only [List.length_cons] at h
    by_cases ha : a = []
    · subst ha; simp [chB]
    · have hal : a.length ≠ 0 := fun e => ha (List.eq_nil_of_length_eq_zero e)
      have hm := modstep W pos 1 hW (by omega)
      rw [if_neg (by omega)] at hm
      rw [ih (pos + 1) _ (by omega) (by omega)]
      simp
theorem chB_one (W : Nat) (hW : 0 < W) (st : Bool) (a : List UInt8) (pos : Nat) (s : St) (ha : a ≠ []) (h : a.length ≤ W - pos % W) : chB W st a pos s = bk (brC W st pos) s a := by
  cases a with
  | nil => exact absurd rfl ha
  | cons c a =>
    rw [chB]
    simp only [List.length_cons] at h
    by_cases h1 : a = []
    · subst h1; simp [chB]
    · have hal : a.length ≠ 0 := fun e => h1 (List.eq_nil_of_length_eq_zero e)
      have hm := modstep W pos 1 hW (by omega)
      rw [if_neg (by omega)] at hm
      rw [chB_in W st a (pos + 1) _ (by omega) (by omega)]
      unfold bk
      split
      · rfl
      · split <;> simp
theorem rs_ch (W : Nat) (hW : 0 < W) (st : Bool) (ms : List Inl) (pos : Nat) : ∀ s, rs (ch W st ms pos) s = chB W st (sh ms) pos s := by
  refine ch_ind W hW (P := fun ms pos => ∀ s, rs (ch W st ms pos) s = chB W st (sh ms) pos s) ?_ ?_ ?_ ms pos
  · intro pos s; rw [ch]; rfl
  · intro kd sty ms pos ih s; rw [ch_nil, ih, sh_cons, shown_nil]; rfl
  · intro kd sty t ms pos ht ih s
    have hl : t.length ≠ 0 := fun e => ht (List.eq_nil_of_length_eq_zero e)
    have hm := Nat.mod_lt pos hW
    rw [ch_step W st kd sty t ms pos hW ht, rs, ih, sh_cons, sh_cons]
    conv => rhs; rw [← List.take_append_drop (W - pos % W) t]
    rw [shown_app, List.append_assoc, chB_app W st (shown kd sty (t.take (W - pos % W)))]
    rw [chB_one W hW st (shown kd sty (t.take (W - pos % W))) pos s ?_ ?_]
    · rw [shown_len, List.length_take]
    · intro e
      have := congrArg List.length e
      rw [shown_len, List.length_take, List.length_nil] at this
      omega
    · rw [shown_len, List.length_take]; omega

/-! ### The lines out of the words' shown texts -/
def pl (W : Nat) : List (List UInt8) → Bool → Nat → St → St
  | [], _, _, s => s
  | x :: xs, st, col, s =>
    if x.length ≤ W then pl W xs true (if st = true ∧ col + 1 + x.length ≤ W then col + 1 + x.length else x.length) (bk (brF W st col x.length) s x)
    else pl W xs true (if x.length % W = 0 then W else x.length % W) (chB W st x 0 s)
theorem rs_lGo (W : Nat) (hW : 0 < W) (ws : List (List Inl)) (st : Bool) (col : Nat) (out : List Frg) (hw : ∀ x ∈ ws, Wd x ∧ x ≠ []) : rs (lGo W ws st col out) ([], []) = pl W (ws.map sh) st col (rs out ([], [])) := by
  induction ws generalizing st col out with
  | nil => rw [lGo]; rfl
  | cons ms ws ih =>
    have hws : ∀ x ∈ ws, Wd x ∧ x ≠ [] := fun x hx => hw x (by simp [hx])
    rw [lGo, List.map_cons, pl, sh_len]
    split
    · rw [ih _ _ _ hws, rs_app, rs_fit _ _ _ (hw ms (by simp)).2]
    · rw [ih _ _ _ hws, rs_app, rs_ch W hW]
theorem layout_nil (W : Nat) (hW : 0 < W) (ps : List Inl) : layout W ps = [] ↔ words ps = [] := by
  constructor
  · intro h
    have h1 := ftx_lGo W hW (words ps) false 0 []
    change ftx (layout W ps) = _ at h1
    rw [h] at h1
    have hw := words_wd ps
    cases e : words ps with
    | nil => rfl
    | cons ms ws =>
      rw [e] at h1 hw
      obtain ⟨h2, h3⟩ := hw ms (by simp)
      cases ms with
      | nil => exact absurd rfl h3
      | cons m ms =>
        have h4 := h2 m (by simp)
        simp [ftx, wtx] at h1
        exact absurd h1.1 h4
  · intro h; unfold layout; rw [h, lGo]
theorem rlines_layout (W : Nat) (hW : 0 < W) (ps : List Inl) : rlines (layout W ps) = if (words ps).map sh = [] then [] else fin (pl W ((words ps).map sh) false 0 ([], [])) := by
  split
  · rename_i h
    have : words ps = [] := by simpa using h
    rw [(layout_nil W hW ps).2 this]; rfl
  · rename_i h
    have hne : layout W ps ≠ [] := by rw [Ne, layout_nil W hW]; simpa using h
    rw [rlines_rs _ (layout_head W hW ps) hne]
    unfold layout
    rw [rs_lGo W hW _ _ _ _ (words_wd ps)]
    rfl

/-! ### The words' shown texts out of the pieces -/
def addB (s : St) : St := if s.2 = [] then (s.1, []) else (s.1 ++ [s.2], [])
def wStep (s : St) (p : Inl) : St := if p.kind = 1 then addB s else (s.1, s.2 ++ shown p.kind p.style p.text)
def wS (ps : List Inl) (s : St) : St := ps.foldl wStep s
theorem wS_app (a b : List Inl) (s : St) : wS (a ++ b) s = wS b (wS a s) := List.foldl_append
theorem wS_cons (p : Inl) (b : List Inl) (s : St) : wS (p :: b) s = wS b (wStep s p) := rfl
theorem sh_nil (ms : List Inl) (h : Wd ms) : sh ms = [] ↔ ms = [] := by
  constructor
  · intro e
    cases ms with
    | nil => rfl
    | cons m ms =>
      have h1 := h m (by simp)
      have h2 := congrArg List.length e
      rw [sh_len, tlen, List.length_nil] at h2
      have : m.text.length ≠ 0 := fun e => h1 (List.eq_nil_of_length_eq_zero e)
      omega
  · intro e; subst e; rfl
theorem addW_sh (ws : List (List Inl)) (cur : List Inl) (h : Wd cur) : (addW ws cur).map sh = (addB (ws.map sh, sh cur)).1 := by
  unfold addW addB
  by_cases e : cur = []
  · rw [if_pos e, if_pos ((sh_nil cur h).2 e)]
  · rw [if_neg e, if_neg (fun x => e ((sh_nil cur h).1 x))]; simp
theorem addB_snd (s : St) : (addB s).2 = [] := by unfold addB; split <;> rfl
theorem wGo_sh (ps cur : List Inl) (ws : List (List Inl)) (h : Wd cur) : (wGo ps cur ws).map sh = (addB (wS ps (ws.map sh, sh cur))).1 := by
  induction ps generalizing cur ws with
  | nil => rw [wGo, addW_sh _ _ h]; rfl
  | cons p ps ih =>
    rw [wGo, wS_cons, wStep]
    split
    · rw [ih [] _ (by intro m hm; cases hm), addW_sh _ _ h]
      have e : ((addB (ws.map sh, sh cur)).1, sh []) = addB (ws.map sh, sh cur) := Prod.ext rfl (addB_snd _).symm
      rw [e]
    · split
      · rename_i ht
        rw [ih _ _ h, ht, shown_nil, List.append_nil]
      · rename_i ht
        rw [ih]
        · rw [sh_app]; simp [sh]
        · intro m hm
          rcases List.mem_append.1 hm with h1 | h1
          · exact h m h1
          · simp at h1; subst h1; exact ht
theorem words_sh (ps : List Inl) : (words ps).map sh = (addB (wS ps ([], []))).1 := wGo_sh ps [] [] (by intro m hm; cases hm)

theorem shown_st01 (k s : Int) (h2 : k ≠ 2) (t : List UInt8) : shown 0 (st01 s) t = shown k s t := by
  unfold shown st01
  by_cases h : s = 0
  · rw [if_pos h]; simp [h]
  · rw [if_neg h]; simp [h, h2]
theorem shown_code (s : Int) (t : List UInt8) : shown 2 0 t = shown 2 s t := by simp [shown]
theorem wS_last (acc : List Inl) (s : St) (h : lastSp acc = true) : (wS acc s).2 = [] := by
  rcases List.eq_nil_or_concat acc with e | ⟨r, x, e⟩
  · subst e; cases h
  · subst e
    rw [List.concat_eq_append] at h ⊢
    rw [lastSp_snoc] at h
    have hk : x.kind = 1 := by simpa using h
    rw [wS_app, wS_cons, wStep, if_pos hk]
    exact addB_snd _
theorem addB_id (s : St) (h : s.2 = []) : addB s = s := by unfold addB; rw [if_pos h]; exact Prod.ext rfl h.symm
theorem wS_nGo (ps acc : List Inl) (t : Option (Int × List UInt8)) (s : St) : wS (nGo ps acc t) s = wS ps (wS (flushT acc t) s) := by
  induction ps generalizing acc t with
  | nil => rfl
  | cons p ps ih =>
    rw [wS_cons]
    by_cases h1 : p.kind = 1
    · rw [nGo_sp p ps acc t h1, wStep, if_pos h1]
      split
      · rename_i hl
        rw [ih, addB_id _ (wS_last _ s hl)]; rfl
      · rw [ih]
        simp only [flushT]
        rw [wS_app]
        rfl
    · rw [wStep, if_neg h1]
      by_cases ht : p.text = []
      · rw [nGo_empty p ps acc t h1 ht, ih, ht, shown_nil, List.append_nil]
      · by_cases h2 : p.kind = 2
        · rw [nGo_code p ps acc t h2 ht, ih, h2, ← shown_code]
          simp only [flushT]
          rw [wS_app]
          rfl
        · cases t with
          | none =>
            rw [nGo_text p ps acc h1 h2 ht, ih, ← shown_st01 p.kind p.style h2]
            simp only [flushT]
            rw [wS_app]
            rfl
          | some sb =>
            obtain ⟨s0, b⟩ := sb
            by_cases hs : st01 p.style = s0
            · rw [nGo_same p ps acc s0 b h1 h2 ht hs, ih, ← shown_st01 p.kind p.style h2, hs]
              simp only [flushT]
              rw [wS_app, wS_app, wS_cons, wS_cons, wStep, wStep, if_neg (by simp), if_neg (by simp)]
              simp only [shown_app, wS, List.foldl_nil, List.append_assoc]
            · rw [nGo_other p ps acc s0 b h1 h2 ht hs, ih, ← shown_st01 p.kind p.style h2]
              simp only [flushT]
              rw [wS_app (acc ++ _)]
              rfl
theorem wS_dropHd (l : List Inl) : wS (dropHd l) ([], []) = wS l ([], []) := by
  cases l with
  | nil => rfl
  | cons p l =>
    rw [dropHd_cons]
    split
    · rename_i h; rw [wS_cons, wStep, if_pos h]; rfl
    · rfl
theorem wS_dropLs (l : List Inl) (s : St) : addB (wS (dropLs l) s) = addB (wS l s) := by
  unfold dropLs
  split
  · rename_i h
    have hl : l ≠ [] := by intro e; subst e; cases h
    obtain ⟨r, x, e1, e2, e3⟩ := take_last l hl
    rw [e2, e1, wS_app, wS_cons]
    rw [e1, lastSp_snoc] at h
    rw [wStep, if_pos (by simpa using h)]
    rw [addB_id (wS [] _)]
    · rfl
    · exact addB_snd _
  · rfl
theorem norm_sh (ps : List Inl) : (words (norm ps)).map sh = (words ps).map sh := by
  rw [words_sh, words_sh]
  unfold norm trimSp
  rw [wS_dropLs, wS_dropHd, wS_nGo]
  rfl
theorem layout_norm (W : Nat) (hW : 0 < W) (ps : List Inl) : rlines (layout W (norm ps)) = rlines (layout W ps) := by
  rw [rlines_layout W hW, rlines_layout W hW, norm_sh]

/-! ### One line -/
theorem joinGo_one (W : Nat) (xs : List (List UInt8)) (cur : List UInt8) (i : Nat) (hi : i ≠ 0) (h : cur.length + xs.foldr (fun x n => x.length + 1 + n) 0 ≤ W) :
    pl W xs true cur.length ([], cur) = ([], joinGo [32] xs i cur) := by
  induction xs generalizing cur i with
  | nil => rfl
  | cons x xs ih =>
    simp only [List.foldr_cons] at h
    rw [pl, if_pos (by omega), joinGo, if_neg hi]
    have hf : cur.length + 1 + x.length ≤ W := by omega
    rw [if_pos ⟨rfl, hf⟩]
    have hb : brF W true cur.length x.length = 1 := by unfold brF; rw [if_pos rfl, if_pos hf]
    rw [hb, bk, if_neg (by simp), if_pos rfl]
    have := ih (cur ++ [32] ++ x) (i + 1) (by omega) (by simp; omega)
    rw [← this]
    congr 1
    simp; omega
theorem pl_one (W : Nat) (xs : List (List UInt8)) (h : xs.foldr (fun x n => x.length + 1 + n) 0 ≤ W + 1) (hx : xs ≠ []) : fin (pl W xs false 0 ([], [])) = [join [32] xs] := by
  cases xs with
  | nil => exact absurd rfl hx
  | cons x xs =>
    simp only [List.foldr_cons] at h
    rw [pl, if_pos (by omega), if_neg (by simp)]
    have hb : brF W false 0 x.length = 0 := by simp [brF]
    rw [hb, bk, if_neg (by simp), if_neg (by simp), List.nil_append, joinGo_one W xs x 1 (by omega) (by omega)]
    simp [fin, join, joinGo]
theorem wGo_size (ps cur : List Inl) (ws : List (List Inl)) : (wGo ps cur ws).foldr (fun x n => tlen x + 1 + n) 0 ≤ ws.foldr (fun x n => tlen x + 1 + n) 0 + tlen cur + 1 + tlen ps + ps.length := by
  have hf : ∀ (a b : List (List Inl)), (a ++ b).foldr (fun x n => tlen x + 1 + n) 0 = a.foldr (fun x n => tlen x + 1 + n) 0 + b.foldr (fun x n => tlen x + 1 + n) 0 := by
    intro a b
    induction a with
    | nil => simp
    | cons x a ih => simp only [List.cons_append, List.foldr_cons, ih]; omega
  have ha : ∀ (ws : List (List Inl)) (cur : List Inl), (addW ws cur).foldr (fun x n => tlen x + 1 + n) 0 ≤ ws.foldr (fun x n => tlen x + 1 + n) 0 + tlen cur + 1 := by
    intro ws cur; unfold addW; split
    · omega
    · rw [hf]; simp; omega
  induction ps generalizing cur ws with
  | nil => rw [wGo]; have := ha ws cur; simp [tlen]; omega
  | cons p ps ih =>
    rw [wGo]
    simp only [tlen, List.length_cons]
    split
    · have h1 := ih [] (addW ws cur); have h2 := ha ws cur; simp only [tlen] at h1; omega
    · split
      · have h1 := ih cur ws; omega
      · have h1 := ih (cur ++ [p]) ws
        rw [tlen_append] at h1
        simp only [tlen] at h1; omega
theorem sh_size (ws : List (List Inl)) : (ws.map sh).foldr (fun x n => x.length + 1 + n) 0 = ws.foldr (fun x n => tlen x + 1 + n) 0 := by
  induction ws with
  | nil => rfl
  | cons x ws ih => simp only [List.map_cons, List.foldr_cons, ih, sh_len]
theorem layout_one (W : Nat) (hW : 0 < W) (ps : List Inl) (h : ps.length + tlen ps ≤ W) : rlines (layout W ps) = if words ps = [] then [] else [join [32] ((words ps).map sh)] := by
  rw [rlines_layout W hW]
  by_cases e : words ps = []
  · rw [if_pos (by simpa using e), if_pos e]
  · rw [if_neg (by simpa using e), if_neg e, pl_one _ _ _ (by simpa using e)]
    rw [sh_size]
    have := wGo_size ps [] []
    simp [tlen] at this
    unfold words
    omega
end Go.Proofs.Ybuaaw
