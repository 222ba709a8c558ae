/-
  Plain laws of the layout. No Go in sight.
-/
import Derived.Test.YbuaawPlain10
import Derived.Test.YbuaawPlain4
namespace Go.Proofs.Ybuaaw

theorem ch_ind (W : Nat) (hW : 0 < W) {P : List Inl → Nat → Prop} (h0 : ∀ pos, P [] pos) (h1 : ∀ kd sty ms pos, P ms pos → P (⟨kd, sty, []⟩ :: ms) pos)
    (h2 : ∀ kd sty t ms pos, t ≠ [] → P (⟨kd, sty, t.drop (W - pos % W)⟩ :: ms) (pos + min (W - pos % W) t.length) → P (⟨kd, sty, t⟩ :: ms) pos) : ∀ ms pos, P ms pos := by
  intro ms
  induction hn : tlen ms + ms.length using Nat.strongRecOn generalizing ms with
  | ind n ih =>
    intro pos
    match ms, hn with
    | [], _ => exact h0 pos
    | ⟨kd, sty, []⟩ :: ms, hn => exact h1 _ _ _ _ (ih (tlen ms + ms.length) (by simp [tlen] at hn; omega) ms rfl pos)
    | ⟨kd, sty, c :: t⟩ :: ms, hn =>
      refine h2 _ _ _ _ _ (by simp) (ih _ ?_ _ rfl _)
      have := Nat.mod_lt pos hW
      simp [tlen] at hn ⊢
      omega

theorem flen_app (a b : List Frg) : flen (a ++ b) = flen a + flen b := by
  induction a with
  | nil => simp [flen]
  | cons p a ih => simp only [List.cons_append, flen, ih]; omega
theorem ftx_app (a b : List Frg) : ftx (a ++ b) = ftx a ++ ftx b := by
  induction a with
  | nil => simp [ftx]
  | cons p a ih => simp only [List.cons_append, ftx, ih, List.append_assoc]

/-! ### The texts -/
def wtx (ms : List Inl) : List UInt8 := ms.flatMap (·.text)
theorem wtx_len (ms : List Inl) : (wtx ms).length = tlen ms := by
  induction ms with
  | nil => rfl
  | cons m ms ih => simp only [wtx, List.flatMap_cons, List.length_append, tlen] at ih ⊢; rw [ih]
theorem ftx_fit (f : Int) (ms : List Inl) : ftx (fit f ms) = wtx ms := by
  induction ms generalizing f with
  | nil => rfl
  | cons m ms ih => simp only [fit, ftx, wtx, List.flatMap_cons]; rw [ih]; rfl
theorem ftx_ch (W : Nat) (hW : 0 < W) (st : Bool) (ms : List Inl) (pos : Nat) : ftx (ch W st ms pos) = wtx ms := by
  refine ch_ind W hW (P := fun ms pos => ftx (ch W st ms pos) = wtx ms) ?_ ?_ ?_ ms pos
  · intro pos; rw [ch]; rfl
  · intro kd sty ms pos ih; rw [ch_nil, ih]; simp [wtx]
  · intro kd sty t ms pos ht ih
    rw [ch_step W st kd sty t ms pos hW ht, ftx, ih]
    simp only [wtx, List.flatMap_cons]
    rw [← List.append_assoc, List.take_append_drop]
theorem ftx_lGo (W : Nat) (hW : 0 < W) (ws : List (List Inl)) (st : Bool) (col : Nat) (out : List Frg) : ftx (lGo W ws st col out) = ftx out ++ ws.flatMap wtx := by
  induction ws generalizing st col out with
  | nil => simp [lGo]
  | cons ms ws ih =>
    rw [lGo]
    split
    · rw [ih, ftx_app, ftx_fit]; simp
    · rw [ih, ftx_app, ftx_ch W hW]; simp
theorem wGo_tx (ps cur : List Inl) (ws : List (List Inl)) : (wGo ps cur ws).flatMap wtx = ws.flatMap wtx ++ wtx cur ++ nst ps := by
  have ha : ∀ (ws : List (List Inl)) (cur : List Inl), (addW ws cur).flatMap wtx = ws.flatMap wtx ++ wtx cur := by
    intro ws cur; unfold addW; split
    · rename_i h; subst h; simp [wtx]
    · simp
  induction ps generalizing cur ws with
  | nil => rw [wGo, ha]; simp [nst]
  | cons p ps ih =>
    rw [wGo, nst]
    split
    · rw [ih, ha]; simp [wtx]
    · split
      · rename_i h; rw [ih, h]; simp
      · rw [ih]; simp [wtx]
theorem ftx_layout (W : Nat) (hW : 0 < W) (ps : List Inl) : ftx (layout W ps) = nst ps := by
  unfold layout words
  rw [ftx_lGo W hW, wGo_tx]; simp [ftx, wtx]
theorem flen_layout (W : Nat) (hW : 0 < W) (ps : List Inl) : flen (layout W ps) ≤ tlen ps := by
  rw [← ftx_len, ftx_layout W hW]; exact nst_len ps

/-! ### What is laid stays -/
theorem lGo_pre (W : Nat) (ws : List (List Inl)) (st : Bool) (col : Nat) (out : List Frg) : ∃ r, lGo W ws st col out = out ++ r := by
  induction ws generalizing st col out with
  | nil => exact ⟨[], by simp [lGo]⟩
  | cons ms ws ih =>
    rw [lGo]
    split
    · obtain ⟨r, hr⟩ := ih true (if st = true ∧ col + 1 + tlen ms ≤ W then col + 1 + tlen ms else tlen ms) (out ++ fit (brF W st col (tlen ms)) ms)
      exact ⟨_, by rw [hr, List.append_assoc]⟩
    · obtain ⟨r, hr⟩ := ih true (if tlen ms % W = 0 then W else tlen ms % W) (out ++ ch W st ms 0)
      exact ⟨_, by rw [hr, List.append_assoc]⟩
theorem lGo_out (W : Nat) (ws : List (List Inl)) (st : Bool) (col : Nat) (out : List Frg) : out.length ≤ (lGo W ws st col out).length := by
  obtain ⟨r, hr⟩ := lGo_pre W ws st col out
  rw [hr]; simp

/-! ### Each fragment is good -/
def Gd (f : Frg) : Prop := f.text ≠ [] ∧ 0 ≤ f.brk ∧ f.brk ≤ 2
def Wd (ms : List Inl) : Prop := ∀ m ∈ ms, m.text ≠ []
theorem wGo_wd (ps cur : List Inl) (ws : List (List Inl)) (hc : Wd cur) (hw : ∀ x ∈ ws, Wd x ∧ x ≠ []) : ∀ x ∈ wGo ps cur ws, Wd x ∧ x ≠ [] := by
  have ha : ∀ (ws : List (List Inl)) (cur : List Inl), Wd cur → (∀ x ∈ ws, Wd x ∧ x ≠ []) → ∀ x ∈ addW ws cur, Wd x ∧ x ≠ [] := by
    intro ws cur hc hw; unfold addW; split
    · exact hw
    · rename_i h
      intro x hx
      rcases List.mem_append.1 hx with h1 | h1
      · exact hw x h1
      · simp at h1; subst h1; exact ⟨hc, h⟩
  induction ps generalizing cur ws with
  | nil => rw [wGo]; exact ha ws cur hc hw
  | cons p ps ih =>
    rw [wGo]
    split
    · exact ih [] _ (by intro m hm; cases hm) (ha ws cur hc hw)
    · split
      · exact ih cur ws hc hw
      · rename_i h
        refine ih _ ws ?_ hw
        intro m hm
        rcases List.mem_append.1 hm with h1 | h1
        · exact hc m h1
        · simp at h1; subst h1; exact h
theorem words_wd (ps : List Inl) : ∀ x ∈ words ps, Wd x ∧ x ≠ [] := wGo_wd ps [] [] (by intro m hm; cases hm) (by intro m hm; cases hm)
theorem brF_ok (W : Nat) (st : Bool) (col L : Nat) : 0 ≤ brF W st col L ∧ brF W st col L ≤ 2 := by
  unfold brF
  split
  · split <;> omega
  · omega
theorem brC_ok (W : Nat) (st : Bool) (pos : Nat) : 0 ≤ brC W st pos ∧ brC W st pos ≤ 2 := by
  unfold brC
  split
  · split
    · split <;> omega
    · omega
  · omega
theorem fit_gd (f : Int) (ms : List Inl) (hf : 0 ≤ f ∧ f ≤ 2) (hm : Wd ms) : ∀ x ∈ fit f ms, Gd x := by
  induction ms generalizing f with
  | nil => intro x hx; cases hx
  | cons m ms ih =>
    intro x hx
    rw [fit] at hx
    rcases List.mem_cons.1 hx with h | h
    · subst h; exact ⟨hm m (by simp), hf⟩
    · exact ih 0 (by omega) (fun y hy => hm y (by simp [hy])) x h
theorem ch_gd (W : Nat) (hW : 0 < W) (st : Bool) (ms : List Inl) (pos : Nat) : ∀ x ∈ ch W st ms pos, Gd x := by
  refine ch_ind W hW (P := fun ms pos => ∀ x ∈ ch W st ms pos, Gd x) ?_ ?_ ?_ ms pos
  · intro pos x hx; rw [ch] at hx; cases hx
  · intro kd sty ms pos ih; rw [ch_nil]; exact ih
  · intro kd sty t ms pos ht ih x hx
    rw [ch_step W st kd sty t ms pos hW ht] at hx
    rcases List.mem_cons.1 hx with h | h
    · subst h
      refine ⟨?_, brC_ok W st pos⟩
      have := Nat.mod_lt pos hW
      intro e
      have e1 := congrArg List.length e
      simp only [List.length_take, List.length_nil] at e1
      have : t.length ≠ 0 := fun h => ht (List.eq_nil_of_length_eq_zero h)
      omega
    · exact ih x h
theorem lGo_gd (W : Nat) (hW : 0 < W) (ws : List (List Inl)) (st : Bool) (col : Nat) (out : List Frg) (hw : ∀ x ∈ ws, Wd x ∧ x ≠ []) (ho : ∀ x ∈ out, Gd x) : ∀ x ∈ lGo W ws st col out, Gd x := by
  induction ws generalizing st col out with
  | nil => rw [lGo]; exact ho
  | cons ms ws ih =>
    rw [lGo]
    split
    · refine ih _ _ _ (fun x hx => hw x (by simp [hx])) ?_
      intro x hx
      rcases List.mem_append.1 hx with h | h
      · exact ho x h
      · exact fit_gd _ ms (brF_ok _ _ _ _) (hw ms (by simp)).1 x h
    · refine ih _ _ _ (fun x hx => hw x (by simp [hx])) ?_
      intro x hx
      rcases List.mem_append.1 hx with h | h
      · exact ho x h
      · exact ch_gd W hW st ms 0 x h
theorem layout_gd (W : Nat) (hW : 0 < W) (ps : List Inl) : ∀ x ∈ layout W ps, Gd x := lGo_gd W hW _ _ _ _ (words_wd ps) (by intro x hx; cases hx)
theorem gd_len (fs : List Frg) (h : ∀ x ∈ fs, Gd x) : fs.length ≤ flen fs := by
  induction fs with
  | nil => simp [flen]
  | cons f fs ih =>
    have h1 := (h f (by simp)).1
    have h2 : f.text.length ≠ 0 := fun e => h1 (List.eq_nil_of_length_eq_zero e)
    have h3 := ih (fun x hx => h x (by simp [hx]))
    simp only [List.length_cons, flen]
    omega
theorem layout_len (W : Nat) (hW : 0 < W) (ps : List Inl) : (layout W ps).length ≤ tlen ps :=
  Nat.le_trans (gd_len _ (layout_gd W hW ps)) (flen_layout W hW ps)

/-! ### The first fragment has no break ahead -/
theorem fit_head (f : Int) (ms : List Inl) (h : ms ≠ []) : ∃ x r, fit f ms = x :: r ∧ x.brk = f := by
  cases ms with
  | nil => exact absurd rfl h
  | cons m ms => exact ⟨_, _, rfl, rfl⟩
theorem layout_head (W : Nat) (hW : 0 < W) (ps : List Inl) (h : 0 < (layout W ps).length) : (layout W ps)[0].brk = 0 := by
  have key : ∀ l : List Frg, l = layout W ps → ∀ h : 0 < l.length, l[0].brk = 0 := by
    intro l hl hl0
    have hwd := words_wd ps
    unfold layout at hl
    cases e : words ps with
    | nil => rw [e, lGo] at hl; subst hl; simp at hl0
    | cons ms ws =>
      rw [e] at hl hwd
      have hms := hwd ms (by simp)
      have ex : ∃ x r, ((∃ col, l = lGo W ws true col (x :: r)) ∧ x.brk = 0) := by
        rw [lGo] at hl
        split at hl
        · obtain ⟨x, r, h1, h2⟩ := fit_head (brF W false 0 (tlen ms)) ms hms.2
          rw [h1, List.nil_append] at hl
          exact ⟨x, r, ⟨_, hl⟩, by rw [h2]; simp [brF]⟩
        · match ms, hms with
          | [], h => exact absurd rfl h.2
          | ⟨kd, sty, t⟩ :: ms, h =>
            rw [ch_step W false kd sty t ms 0 hW (h.1 ⟨kd, sty, t⟩ (by simp)), List.nil_append] at hl
            exact ⟨_, _, ⟨_, hl⟩, by simp [brC]⟩
      obtain ⟨x, r, ⟨col, h1⟩, h2⟩ := ex
      obtain ⟨r', h3⟩ := lGo_pre W ws true col (x :: r)
      rw [h3] at h1
      subst h1
      simpa using h2
  exact key _ rfl h

/-! ### The width -/
/-- The length of the line after the fragments, and: each line done is at most W long. -/
def endC : List Frg → Nat → Nat
  | [], c => c
  | f :: fs, c => if f.brk = 2 then endC fs f.text.length else if f.brk = 1 then endC fs (c + 1 + f.text.length) else endC fs (c + f.text.length)
def okL (W : Nat) : List Frg → Nat → Prop
  | [], _ => True
  | f :: fs, c => if f.brk = 2 then c ≤ W ∧ okL W fs f.text.length else if f.brk = 1 then okL W fs (c + 1 + f.text.length) else okL W fs (c + f.text.length)
theorem endC_app (a b : List Frg) (c : Nat) : endC (a ++ b) c = endC b (endC a c) := by
  induction a generalizing c with
  | nil => rfl
  | cons f a ih =>
    simp only [List.cons_append, endC]
    split
    · exact ih _
    · split
      · exact ih _
      · exact ih _
theorem okL_app (W : Nat) (a b : List Frg) (c : Nat) : okL W (a ++ b) c ↔ okL W a c ∧ okL W b (endC a c) := by
  induction a generalizing c with
  | nil => simp [okL, endC]
  | cons f a ih =>
    simp only [List.cons_append, okL, endC]
    split
    · rw [ih, and_assoc]
    · split
      · exact ih _
      · exact ih _
theorem fit0 (W : Nat) (ms : List Inl) (c : Nat) : endC (fit 0 ms) c = c + tlen ms ∧ okL W (fit 0 ms) c := by
  induction ms generalizing c with
  | nil => simp [fit, endC, okL, tlen]
  | cons m ms ih =>
    have := ih (c + m.text.length)
    simp only [fit, endC, okL, tlen, if_neg (show ¬ (0 : Int) = 2 by omega), if_neg (show ¬ (0 : Int) = 1 by omega)]
    exact ⟨by rw [this.1]; omega, this.2⟩
theorem modstep (W pos k : Nat) (hW : 0 < W) (hk : k ≤ W - pos % W) : (pos + k) % W = if pos % W + k = W then 0 else pos % W + k := by
  have h1 := Nat.mod_lt pos hW
  have h2 : pos + k = W * (pos / W) + (pos % W + k) := by have := Nat.div_add_mod pos W; omega
  rw [h2, Nat.mul_add_mod]
  split
  · rename_i h; rw [h, Nat.mod_self]
  · exact Nat.mod_eq_of_lt (by omega)
theorem ch_wid (W : Nat) (hW : 0 < W) (st : Bool) (ms : List Inl) (pos : Nat) : ∀ c, c ≤ W → (pos % W ≠ 0 → c = pos % W) → (pos = 0 → st = false → c = 0) →
    okL W (ch W st ms pos) c ∧ endC (ch W st ms pos) c = if tlen ms = 0 then c else (if (pos + tlen ms) % W = 0 then W else (pos + tlen ms) % W) := by
  refine ch_ind W hW (P := fun ms pos => ∀ c, c ≤ W → (pos % W ≠ 0 → c = pos % W) → (pos = 0 → st = false → c = 0) →
    okL W (ch W st ms pos) c ∧ endC (ch W st ms pos) c = if tlen ms = 0 then c else (if (pos + tlen ms) % W = 0 then W else (pos + tlen ms) % W)) ?_ ?_ ?_ ms pos
  · intro pos c _ _ _; rw [ch]; simp [okL, endC, tlen]
  · intro kd sty ms pos ih; rw [ch_nil]; simpa [tlen] using ih
  · intro kd sty t ms pos ht ih c hc h1 h2
    have hl : t.length ≠ 0 := fun e => ht (List.eq_nil_of_length_eq_zero e)
    have hm := Nat.mod_lt pos hW
    rw [ch_step W st kd sty t ms pos hW ht]
    have hms := modstep W pos (min (W - pos % W) t.length) hW (by omega)
    have htl : tlen (⟨kd, sty, t⟩ :: ms) ≠ 0 := by show t.length + tlen ms ≠ 0; omega
    rw [if_neg htl]
    have htl2 : tlen (⟨kd, sty, t.drop (W - pos % W)⟩ :: ms) = tlen (⟨kd, sty, t⟩ :: ms) - min (W - pos % W) t.length := by simp [tlen]; omega
    have hle : min (W - pos % W) t.length ≤ tlen (⟨kd, sty, t⟩ :: ms) := by simp [tlen]; omega
    have htk : (t.take (W - pos % W)).length = min (W - pos % W) t.length := by simp
    rw [htl2] at ih
    simp only [okL, endC]
    rw [htk]
    generalize tlen (⟨kd, sty, t⟩ :: ms) = T at *
    generalize hk : min (W - pos % W) t.length = k at *
    have hk0 : 0 < k := by omega
    have hfin : ∀ c', c' = (if pos % W + k = W then W else pos % W + k) → okL W (ch W st (⟨kd, sty, t.drop (W - pos % W)⟩ :: ms) (pos + k)) c' ∧
        endC (ch W st (⟨kd, sty, t.drop (W - pos % W)⟩ :: ms) (pos + k)) c' = if (pos + T) % W = 0 then W else (pos + T) % W := by
      intro c' hc'
      have h3 := ih c' (by subst hc'; split <;> omega) (by
        intro h; rw [hms] at h ⊢; subst hc'
        split at h
        · omega
        · rename_i hx; rw [if_neg hx, if_neg hx]) (by omega)
      refine ⟨h3.1, ?_⟩
      rw [h3.2]
      by_cases hT : T - k = 0
      · rw [if_pos hT]
        have : pos + T = pos + k := by omega
        rw [this, hms, hc']
        split
        · simp
        · rw [if_neg (by omega)]
      · rw [if_neg hT]
        have : pos + k + (T - k) = pos + T := by omega
        rw [this]
    by_cases hp : pos % W = 0
    · by_cases hz : pos = 0 ∧ st = false
      · have hb : brC W st pos = 0 := by unfold brC; rw [if_pos hp, if_pos hz.1, if_neg (by simp [hz.2])]
        have hc0 := h2 hz.1 hz.2
        simp only [hb, if_neg (show ¬ (0 : Int) = 2 by omega), if_neg (show ¬ (0 : Int) = 1 by omega)]
        refine hfin _ ?_
        rw [hc0, hp]; split <;> omega
      · have hb : brC W st pos = 2 := by
          unfold brC; rw [if_pos hp]
          split
          · rename_i h0
            rw [if_pos]
            cases st with
            | true => rfl
            | false => exact absurd ⟨h0, rfl⟩ hz
          · rfl
        simp only [hb, if_true]
        have := hfin k (by rw [hp]; split <;> omega)
        exact ⟨⟨hc, this.1⟩, this.2⟩
    · have hb : brC W st pos = 0 := by unfold brC; rw [if_neg hp]
      simp only [hb, if_neg (show ¬ (0 : Int) = 2 by omega), if_neg (show ¬ (0 : Int) = 1 by omega)]
      refine hfin _ ?_
      rw [h1 hp]; split <;> omega
theorem lGo_wid (W : Nat) (hW : 0 < W) (ws : List (List Inl)) (st : Bool) (col : Nat) (out : List Frg) (hw : ∀ x ∈ ws, Wd x ∧ x ≠ []) (h1 : endC out 0 = col) (h2 : okL W out 0) (h3 : col ≤ W) (h4 : st = false → col = 0) :
    okL W (lGo W ws st col out) 0 ∧ endC (lGo W ws st col out) 0 ≤ W := by
  induction ws generalizing st col out with
  | nil => rw [lGo]; exact ⟨h2, by omega⟩
  | cons ms ws ih =>
    have hms := hw ms (by simp)
    have hws : ∀ x ∈ ws, Wd x ∧ x ≠ [] := fun x hx => hw x (by simp [hx])
    rw [lGo]
    split
    · rename_i hL
      have key : endC (fit (brF W st col (tlen ms)) ms) col = (if st = true ∧ col + 1 + tlen ms ≤ W then col + 1 + tlen ms else tlen ms) ∧ okL W (fit (brF W st col (tlen ms)) ms) col := by
        cases ms with
        | nil => exact absurd rfl hms.2
        | cons m ms =>
          unfold brF
          by_cases hs : st = true
          · rw [if_pos hs]
            by_cases hf : col + 1 + tlen (m :: ms) ≤ W
            · rw [if_pos hf, if_pos ⟨hs, hf⟩]
              have := fit0 W ms (col + 1 + m.text.length)
              simp only [fit, endC, okL, tlen, if_neg (show ¬ (1 : Int) = 2 by omega), if_true]
              exact ⟨by rw [this.1]; omega, this.2⟩
            · rw [if_neg hf, if_neg (fun h => hf h.2)]
              have := fit0 W ms (m.text.length)
              simp only [fit, endC, okL, tlen, if_true]
              exact ⟨by rw [this.1], h3, this.2⟩
          · have hc := h4 (by simpa using hs)
            rw [if_neg hs, if_neg (fun h => hs h.1)]
            have := fit0 W (m :: ms) 0
            rw [hc]
            exact ⟨by rw [this.1]; omega, this.2⟩
      refine ih _ _ _ hws ?_ ?_ ?_ (by simp)
      · rw [endC_app, h1]; exact key.1
      · rw [okL_app, h1]; exact ⟨h2, key.2⟩
      · split <;> omega
    · rename_i hL
      have key := ch_wid W hW st ms 0 col h3 (by simp) (fun _ h => h4 h)
      rw [if_neg (by omega), Nat.zero_add] at key
      have hm := Nat.mod_lt (tlen ms) hW
      refine ih _ _ _ hws ?_ ?_ ?_ (by simp)
      · rw [endC_app, h1]; exact key.2
      · rw [okL_app, h1]; exact ⟨h2, key.1⟩
      · split <;> omega
theorem rlGo_wid (W : Nat) (fs : List Frg) (i : Nat) (lines : List (List UInt8)) (cur : List UInt8) (hi : i ≠ 0) (hl : ∀ l ∈ lines, l.length ≤ W) (h1 : okL W fs cur.length) (h2 : endC fs cur.length ≤ W) :
    ∀ l ∈ rlGo fs i lines cur, l.length ≤ W := by
  induction fs generalizing i lines cur with
  | nil =>
    intro l hx
    rw [rlGo] at hx
    rcases List.mem_append.1 hx with h | h
    · exact hl l h
    · simp at h; subst h; simpa [endC] using h2
  | cons f fs ih =>
    rw [rlGo]
    simp only [okL] at h1
    simp only [endC] at h2
    by_cases hb : f.brk = 2
    · rw [if_pos ⟨hi, hb⟩]
      rw [if_pos hb] at h1 h2
      refine ih _ _ _ (by omega) ?_ (by rw [shown_len]; exact h1.2) (by rw [shown_len]; exact h2)
      intro l hx
      rcases List.mem_append.1 hx with h | h
      · exact hl l h
      · simp at h; subst h; exact h1.1
    · rw [if_neg (fun h => hb h.2)]
      rw [if_neg hb] at h1 h2
      by_cases hb1 : f.brk = 1
      · rw [if_pos ⟨hi, hb1⟩]
        rw [if_pos hb1] at h1 h2
        refine ih _ _ _ (by omega) hl ?_ ?_ <;> simp only [List.length_append, List.length_cons, List.length_nil, shown_len] <;> assumption
      · rw [if_neg (fun h => hb1 h.2)]
        rw [if_neg hb1] at h1 h2
        refine ih _ _ _ (by omega) hl ?_ ?_ <;> simp only [List.length_append, shown_len] <;> assumption
theorem layout_wid (W : Nat) (hW : 0 < W) (ps : List Inl) : ∀ l ∈ rlines (layout W ps), l.length ≤ W := by
  have hw := lGo_wid W hW (words ps) false 0 [] (words_wd ps) rfl trivial (Nat.zero_le _) (by simp)
  have hh := layout_head W hW ps
  change okL W (layout W ps) 0 ∧ endC (layout W ps) 0 ≤ W at hw
  generalize layout W ps = fs at *
  cases fs with
  | nil => intro l hx; simp [rlines] at hx
  | cons f fs =>
    have h0 : f.brk = 0 := hh (by simp)
    obtain ⟨h1, h2⟩ := hw
    simp only [okL, h0, if_neg (show ¬ (0 : Int) = 2 by omega), if_neg (show ¬ (0 : Int) = 1 by omega), Nat.zero_add] at h1
    simp only [endC, h0, if_neg (show ¬ (0 : Int) = 2 by omega), if_neg (show ¬ (0 : Int) = 1 by omega), Nat.zero_add] at h2
    unfold rlines
    rw [if_neg (by simp), rlGo, if_neg (by simp), if_neg (by simp)]
    refine rlGo_wid W fs _ _ _ (by omega) (by simp) ?_ ?_ <;> simpa [shown_len]
end Go.Proofs.Ybuaaw
