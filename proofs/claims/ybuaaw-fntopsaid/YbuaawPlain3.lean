/-
  Plain laws of the normal form. No Go in sight.
-/
import Derived.Test.YbuaawPlain2
namespace Go.Proofs.Ybuaaw

/-- Two pieces may stand side by side. -/
def okAdj (q p : Inl) : Prop := ¬ (q.kind = 0 ∧ p.kind = 0 ∧ q.style = p.style) ∧ ¬ (q.kind = 1 ∧ p.kind = 1)
def Adj : List Inl → Prop
  | [] => True
  | [_] => True
  | q :: p :: r => okAdj q p ∧ Adj (p :: r)
theorem Adj.tail {q : Inl} {r : List Inl} (h : Adj (q :: r)) : Adj r := by
  cases r with
  | nil => trivial
  | cons p r => exact h.2
theorem adj_snoc (l : List Inl) (x : Inl) : Adj (l ++ [x]) ↔ Adj l ∧ ∀ q, l.getLast? = some q → okAdj q x := by
  induction l with
  | nil => simp [Adj]
  | cons p l ih =>
    cases l with
    | nil => simp [Adj]
    | cons q l =>
      simp only [List.cons_append, Adj] at ih ⊢
      rw [ih, List.getLast?_cons_cons]
      exact ⟨fun ⟨a, b, c⟩ => ⟨⟨a, b⟩, c⟩, fun ⟨⟨a, b⟩, c⟩ => ⟨a, b, c⟩⟩
theorem adj_get (l : List Inl) (h : Adj l) (i : Nat) (hi : i + 1 < l.length) : okAdj l[i] l[i + 1] := by
  induction l generalizing i with
  | nil => simp at hi
  | cons p l ih =>
    cases l with
    | nil => simp at hi
    | cons q l =>
      cases i with
      | zero => exact h.1
      | succ i => exact ih h.2 i (by simpa using hi)

theorem canon_snoc (l : List Inl) (x : Inl) : Canon (l ++ [x]) ↔ Canon l ∧ Canon [x] := by
  unfold Canon
  constructor
  · intro h
    exact ⟨fun q hq => h q (by simp [hq]), fun q hq => h q (by simp at hq; simp [hq])⟩
  · rintro ⟨a, b⟩ q hq
    rcases List.mem_append.1 hq with h | h
    · exact a q h
    · exact b q h
theorem Canon.tail {q : Inl} {r : List Inl} (h : Canon (q :: r)) : Canon r := fun x hx => h x (by simp [hx])
theorem canon_sp : Canon [⟨1, 0, [32]⟩] := by intro q hq; simp at hq; subst hq; simp
theorem canon_code (t : List UInt8) (h : t ≠ []) : Canon [⟨2, 0, t⟩] := by intro q hq; simp at hq; subst hq; simp [h]
theorem canon_text (s : Int) (t : List UInt8) (hs : s = 0 ∨ s = 1) (h : t ≠ []) : Canon [⟨0, s, t⟩] := by intro q hq; simp at hq; subst hq; simp [h, hs]
theorem st01_01 (s : Int) : st01 s = 0 ∨ st01 s = 1 := by unfold st01; split <;> simp

/-- What holds while the pieces are merged. -/
def NInv (acc : List Inl) (t : Option (Int × List UInt8)) : Prop := Canon acc ∧ Adj acc ∧ match t with
  | none => ∀ q, acc.getLast? = some q → q.kind ≠ 0
  | some (s, b) => (s = 0 ∨ s = 1) ∧ b ≠ [] ∧ ∀ q, acc.getLast? = some q → ¬ (q.kind = 0 ∧ q.style = s)

theorem flush_inv (acc : List Inl) (t : Option (Int × List UInt8)) (h : NInv acc t) : Canon (flushT acc t) ∧ Adj (flushT acc t) := by
  obtain ⟨h1, h2, h3⟩ := h
  cases t with
  | none => exact ⟨h1, h2⟩
  | some t =>
    obtain ⟨s, b⟩ := t
    obtain ⟨h4, h5, h6⟩ := h3
    refine ⟨(canon_snoc _ _).2 ⟨h1, canon_text s b h4 h5⟩, (adj_snoc _ _).2 ⟨h2, fun q hq => ⟨?_, ?_⟩⟩⟩
    · rintro ⟨a, _, c⟩; exact h6 q hq ⟨a, c⟩
    · rintro ⟨_, c⟩; simp at c

theorem lastSp_false (acc : List Inl) (h : lastSp acc = false) : ∀ q, acc.getLast? = some q → q.kind ≠ 1 := by
  intro q hq
  unfold lastSp at h
  rw [hq] at h
  simpa using h
theorem lastSp_true (acc : List Inl) (h : lastSp acc = true) : ∀ q, acc.getLast? = some q → q.kind = 1 := by
  intro q hq
  unfold lastSp at h
  rw [hq] at h
  simpa using h

theorem nGo_inv (ps acc : List Inl) (t : Option (Int × List UInt8)) (h : NInv acc t) : Canon (nGo ps acc t) ∧ Adj (nGo ps acc t) := by
  induction ps generalizing acc t with
  | nil => exact flush_inv acc t h
  | cons p ps ih =>
    have hf := flush_inv acc t h
    by_cases h1 : p.kind = 1
    · rw [nGo_sp _ _ _ _ h1]
      by_cases hl : lastSp (flushT acc t) = true
      · rw [if_pos hl]
        exact ih _ _ ⟨hf.1, hf.2, fun q hq => by rw [lastSp_true _ hl q hq]; decide⟩
      · rw [if_neg hl]
        have hl' : lastSp (flushT acc t) = false := by simpa using hl
        refine ih _ _ ⟨(canon_snoc _ _).2 ⟨hf.1, canon_sp⟩, (adj_snoc _ _).2 ⟨hf.2, fun q hq => ⟨?_, ?_⟩⟩, ?_⟩
        · rintro ⟨_, c, _⟩; simp at c
        · rintro ⟨c, _⟩; exact lastSp_false _ hl' q hq c
        · intro q hq; simp at hq; subst hq; simp
    · by_cases ht : p.text = []
      · rw [nGo_empty _ _ _ _ h1 ht]; exact ih _ _ h
      · by_cases h2 : p.kind = 2
        · rw [nGo_code _ _ _ _ h2 ht]
          refine ih _ _ ⟨(canon_snoc _ _).2 ⟨hf.1, canon_code _ ht⟩, (adj_snoc _ _).2 ⟨hf.2, fun q hq => ⟨?_, ?_⟩⟩, ?_⟩
          · rintro ⟨_, c, _⟩; simp at c
          · rintro ⟨_, c⟩; simp at c
          · intro q hq; simp at hq; subst hq; simp
        · cases t with
          | none =>
            rw [nGo_text _ _ _ h1 h2 ht]
            exact ih _ _ ⟨h.1, h.2.1, st01_01 _, ht, fun q hq c => h.2.2 q hq c.1⟩
          | some t =>
            obtain ⟨s, b⟩ := t
            by_cases hs : st01 p.style = s
            · rw [nGo_same _ _ _ _ _ h1 h2 ht hs]
              exact ih _ _ ⟨h.1, h.2.1, h.2.2.1, by simp [ht], h.2.2.2.2⟩
            · rw [nGo_other _ _ _ _ _ h1 h2 ht hs]
              exact ih _ _ ⟨hf.1, hf.2, st01_01 _, ht, fun q hq c => by simp at hq; subst hq; exact hs c.2.symm⟩

/-- The normal form. -/
def NF (l : List Inl) : Prop := Canon l ∧ Adj l ∧ (∀ q, l.head? = some q → q.kind ≠ 1) ∧ (∀ q, l.getLast? = some q → q.kind ≠ 1)

theorem dropHd_cons (p : Inl) (r : List Inl) : dropHd (p :: r) = if p.kind = 1 then r else p :: r := rfl
theorem dropHd_inv (l : List Inl) (h : Canon l) (ha : Adj l) : Canon (dropHd l) ∧ Adj (dropHd l) ∧ ∀ q, (dropHd l).head? = some q → q.kind ≠ 1 := by
  cases l with
  | nil => exact ⟨h, ha, by simp [dropHd]⟩
  | cons p r =>
    rw [dropHd_cons]
    split
    · rename_i hp
      refine ⟨h.tail, ha.tail, ?_⟩
      intro q hq c
      cases r with
      | nil => simp at hq
      | cons q' r => simp at hq; subst hq; exact ha.1.2 ⟨hp, c⟩
    · rename_i hp
      exact ⟨h, ha, by intro q hq; simp at hq; subst hq; exact hp⟩
theorem take_last (l : List Inl) (hl : l ≠ []) : ∃ r x, l = r ++ [x] ∧ l.take (l.length - 1) = r ∧ l.getLast? = some x := by
  refine ⟨l.dropLast, l.getLast hl, (List.dropLast_concat_getLast hl).symm, ?_, List.getLast?_eq_some_getLast hl⟩
  rw [List.dropLast_eq_take]
theorem dropLs_inv (l : List Inl) (h : Canon l) (ha : Adj l) (hh : ∀ q, l.head? = some q → q.kind ≠ 1) : NF (dropLs l) := by
  unfold dropLs
  by_cases hl : lastSp l = true
  · rw [if_pos hl]
    have hne : l ≠ [] := by intro e; subst e; simp [lastSp] at hl
    obtain ⟨r, x, e1, e2, e3⟩ := take_last l hne
    rw [e2]
    rw [e1] at h ha
    have hx : x.kind = 1 := lastSp_true l hl x e3
    obtain ⟨ha1, ha2⟩ := (adj_snoc _ _).1 ha
    refine ⟨((canon_snoc _ _).1 h).1, ha1, ?_, fun q hq c => (ha2 q hq).2 ⟨c, hx⟩⟩
    intro q hq
    refine hh q ?_
    rw [e1]
    cases r with
    | nil => simp at hq
    | cons y r => simpa using hq
  · rw [if_neg hl]
    exact ⟨h, ha, hh, lastSp_false l (by simpa using hl)⟩
theorem norm_NF (ps : List Inl) : NF (norm ps) := by
  have h0 : Canon [] := fun q hq => absurd hq (by simp)
  have h := nGo_inv ps [] none ⟨h0, trivial, fun q hq => by simp at hq⟩
  obtain ⟨a, b, c⟩ := dropHd_inv _ h.1 h.2
  exact dropLs_inv _ a b c

theorem canon_eta_sp (p : Inl) (r : List Inl) (h : Canon (p :: r)) (h1 : p.kind = 1) : p = ⟨1, 0, [32]⟩ := by
  rcases h p (by simp) with ⟨a, b, c⟩ | ⟨a, b, c⟩ | ⟨a, b, c⟩
  · cases p; simp_all
  · omega
  · omega
theorem canon_eta_code (p : Inl) (r : List Inl) (h : Canon (p :: r)) (h2 : p.kind = 2) : p = ⟨2, 0, p.text⟩ ∧ p.text ≠ [] := by
  rcases h p (by simp) with ⟨a, b, c⟩ | ⟨a, b, c⟩ | ⟨a, b, c⟩
  · omega
  · exact ⟨by cases p; simp_all, c⟩
  · omega
theorem canon_eta_text (p : Inl) (r : List Inl) (h : Canon (p :: r)) (h1 : p.kind ≠ 1) (h2 : p.kind ≠ 2) : p = ⟨0, p.style, p.text⟩ ∧ p.text ≠ [] ∧ st01 p.style = p.style := by
  rcases h p (by simp) with ⟨a, b, c⟩ | ⟨a, b, c⟩ | ⟨a, b, c⟩
  · omega
  · omega
  · refine ⟨by cases p; simp_all, c, ?_⟩
    unfold st01; rcases b with b | b <;> simp [b]

theorem nGo_id (l : List Inl) (hc : Canon l) (ha : Adj l) : (∀ acc, (lastSp acc = true → ∀ q, l.head? = some q → q.kind ≠ 1) → nGo l acc none = acc ++ l) ∧
    (∀ acc s b, (∀ q, l.head? = some q → ¬ (q.kind = 0 ∧ q.style = s)) → nGo l acc (some (s, b)) = acc ++ [⟨0, s, b⟩] ++ l) := by
  induction l with
  | nil => exact ⟨fun acc _ => by simp [nGo, flushT], fun acc s b _ => by simp [nGo, flushT]⟩
  | cons p l ih =>
    obtain ⟨ih1, ih2⟩ := ih hc.tail ha.tail
    have hadj : ∀ q, l.head? = some q → okAdj p q := by
      intro q hq
      cases l with
      | nil => simp at hq
      | cons q' l => simp at hq; subst hq; exact ha.1
    by_cases h1 : p.kind = 1
    · have e := canon_eta_sp p l hc h1
      have nxt : ∀ acc : List Inl, nGo l (acc ++ [⟨1, 0, [32]⟩]) none = acc ++ [⟨1, 0, [32]⟩] ++ l := fun acc =>
        ih1 _ (fun _ q hq c => (hadj q hq).2 ⟨h1, c⟩)
      refine ⟨fun acc hb => ?_, fun acc s b _ => ?_⟩
      · have hl : lastSp acc = false := by
          cases h : lastSp acc with
          | false => rfl
          | true => exact absurd h1 (hb h p rfl)
        rw [nGo_sp _ _ _ _ h1, if_neg (by simp [flushT, hl])]
        simp only [flushT]
        rw [nxt, e]; simp
      · rw [nGo_sp _ _ _ _ h1, if_neg (by simp [flushT, lastSp_snoc])]
        simp only [flushT]
        rw [nxt, e]; simp
    · by_cases h2 : p.kind = 2
      · obtain ⟨e, ht⟩ := canon_eta_code p l hc h2
        have nxt : ∀ acc : List Inl, nGo l (acc ++ [⟨2, 0, p.text⟩]) none = acc ++ [⟨2, 0, p.text⟩] ++ l := fun acc =>
          ih1 _ (fun h => by rw [lastSp_snoc] at h; simp at h)
        refine ⟨fun acc _ => ?_, fun acc s b _ => ?_⟩
        · rw [nGo_code _ _ _ _ h2 ht]
          simp only [flushT]
          rw [nxt, ← e]; simp
        · rw [nGo_code _ _ _ _ h2 ht]
          simp only [flushT]
          rw [nxt, ← e]; simp
      · obtain ⟨e, ht, hs⟩ := canon_eta_text p l hc h1 h2
        have hk : p.kind = 0 := by rw [e]
        have nxt : ∀ acc : List Inl, nGo l acc (some (p.style, p.text)) = acc ++ [⟨0, p.style, p.text⟩] ++ l := fun acc =>
          ih2 _ _ _ (fun q hq c => (hadj q hq).1 ⟨hk, c.1, c.2.symm⟩)
        refine ⟨fun acc _ => ?_, fun acc s b hb => ?_⟩
        · rw [nGo_text _ _ _ h1 h2 ht, hs, nxt, ← e]; simp
        · have hne : st01 p.style ≠ s := by rw [hs]; exact fun c => hb p rfl ⟨hk, c⟩
          rw [nGo_other _ _ _ _ _ h1 h2 ht hne, hs, nxt, ← e]; simp

theorem trim_NF (l : List Inl) (h : NF l) : trimSp l = l := by
  obtain ⟨_, _, hh, hl⟩ := h
  have e1 : dropHd l = l := by
    cases l with
    | nil => rfl
    | cons p r => rw [dropHd_cons, if_neg (hh p rfl)]
  unfold trimSp
  rw [e1, dropLs, if_neg]
  intro c
  have hne : l ≠ [] := by intro e; subst e; simp [lastSp] at c
  obtain ⟨_, x, _, _, e3⟩ := take_last l hne
  exact hl x e3 (lastSp_true l c x e3)
theorem norm_id (l : List Inl) (h : NF l) : norm l = l := by
  unfold norm
  rw [(nGo_id l h.1 h.2.1).1 [] (by simp [lastSp]), List.nil_append, trim_NF l h]

/-! ### The texts that are no spaces -/
def nst : List Inl → List UInt8
  | [] => []
  | p :: ps => if p.kind = 1 then nst ps else p.text ++ nst ps
theorem nst_append (a b : List Inl) : nst (a ++ b) = nst a ++ nst b := by
  induction a with
  | nil => rfl
  | cons p a ih =>
    simp only [List.cons_append, nst, ih]
    split
    · rfl
    · simp
theorem nst_len (ps : List Inl) : (nst ps).length ≤ tlen ps := by
  induction ps with
  | nil => simp [nst, tlen]
  | cons p ps ih =>
    simp only [nst, tlen]
    split
    · omega
    · rw [List.length_append]; omega
def tbytes (t : Option (Int × List UInt8)) : List UInt8 := match t with
  | none => []
  | some (_, b) => b
theorem nst_flush (acc : List Inl) (t : Option (Int × List UInt8)) : nst (flushT acc t) = nst acc ++ tbytes t := by
  cases t with
  | none => simp [flushT, tbytes]
  | some t => simp [flushT, tbytes, nst_append, nst]
theorem nst_nGo (ps acc : List Inl) (t : Option (Int × List UInt8)) : nst (nGo ps acc t) = nst acc ++ tbytes t ++ nst ps := by
  induction ps generalizing acc t with
  | nil => simp [nGo, nst_flush, nst]
  | cons p ps ih =>
    by_cases h1 : p.kind = 1
    · rw [nGo_sp _ _ _ _ h1, nst, if_pos h1]
      split
      · rw [ih, nst_flush]; simp [tbytes]
      · rw [ih, nst_append, nst_flush]; simp [tbytes, nst]
    · rw [nst, if_neg h1]
      by_cases ht : p.text = []
      · rw [nGo_empty _ _ _ _ h1 ht, ih, ht]; simp
      · by_cases h2 : p.kind = 2
        · rw [nGo_code _ _ _ _ h2 ht, ih, nst_append, nst_flush]; simp [tbytes, nst]
        · cases t with
          | none => rw [nGo_text _ _ _ h1 h2 ht, ih]; simp [tbytes]
          | some t =>
            obtain ⟨s, b⟩ := t
            by_cases hs : st01 p.style = s
            · rw [nGo_same _ _ _ _ _ h1 h2 ht hs, ih]; simp [tbytes]
            · rw [nGo_other _ _ _ _ _ h1 h2 ht hs, ih, nst_append]; simp [tbytes, nst]
theorem nst_dropHd (l : List Inl) : nst (dropHd l) = nst l := by
  cases l with
  | nil => rfl
  | cons p r => rw [dropHd_cons]; split <;> simp_all [nst]
theorem nst_dropLs (l : List Inl) : nst (dropLs l) = nst l := by
  unfold dropLs
  split
  · rename_i hl
    have hne : l ≠ [] := by intro e; subst e; simp [lastSp] at hl
    obtain ⟨r, x, e1, e2, e3⟩ := take_last l hne
    have hx := lastSp_true l hl x e3
    rw [e2, e1, nst_append]
    simp [nst, hx]
  · rfl
theorem nst_norm (ps : List Inl) : nst (norm ps) = nst ps := by
  unfold norm trimSp
  rw [nst_dropLs, nst_dropHd, nst_nGo]
  simp [nst, tbytes]

/-- The reader's form. -/
def nstGo : List Inl → List UInt8 → List UInt8
  | [], acc => acc
  | p :: ps, acc => if p.kind = 1 then nstGo ps acc else nstGo ps (acc ++ p.text)
theorem nstGo_eq (ps : List Inl) (acc : List UInt8) : nstGo ps acc = acc ++ nst ps := by
  induction ps generalizing acc with
  | nil => simp [nstGo, nst]
  | cons p ps ih => rw [nstGo, nst]; split <;> simp [ih]
theorem nstGo_at (ps : List Inl) (acc : List UInt8) (k : Nat) (hk : k < ps.length) : nstGo (ps.drop k) acc = if ps[k].kind = 1 then nstGo (ps.drop (k + 1)) acc else nstGo (ps.drop (k + 1)) (acc ++ ps[k].text) := by
  rw [List.drop_eq_getElem_cons hk, nstGo]

/-! ### Sizes -/
theorem nGo_len (ps acc : List Inl) (t : Option (Int × List UInt8)) : (nGo ps acc t).length ≤ acc.length + (if t.isSome then 1 else 0) + ps.length := by
  induction ps generalizing acc t with
  | nil => cases t <;> simp [nGo, flushT]
  | cons p ps ih =>
    have hf : (flushT acc t).length = acc.length + (if t.isSome then 1 else 0) := by cases t <;> simp [flushT]
    by_cases h1 : p.kind = 1
    · rw [nGo_sp _ _ _ _ h1]
      split
      · have := ih (flushT acc t) none; simp only [Option.isSome_none] at this; simp; simp at this; omega
      · have := ih (flushT acc t ++ [⟨1, 0, [32]⟩]) none; simp at this ⊢; omega
    · by_cases ht : p.text = []
      · rw [nGo_empty _ _ _ _ h1 ht]; have := ih acc t; simp at this ⊢; omega
      · by_cases h2 : p.kind = 2
        · rw [nGo_code _ _ _ _ h2 ht]; have := ih (flushT acc t ++ [⟨2, 0, p.text⟩]) none; simp at this ⊢; omega
        · cases t with
          | none => rw [nGo_text _ _ _ h1 h2 ht]; have := ih acc (some (st01 p.style, p.text)); simp at this ⊢; omega
          | some t =>
            obtain ⟨s, b⟩ := t
            by_cases hs : st01 p.style = s
            · rw [nGo_same _ _ _ _ _ h1 h2 ht hs]; have := ih acc (some (s, b ++ p.text)); simp at this ⊢; omega
            · rw [nGo_other _ _ _ _ _ h1 h2 ht hs]; have := ih (acc ++ [⟨0, s, b⟩]) (some (st01 p.style, p.text)); simp at this ⊢; omega
theorem dropHd_len (l : List Inl) : (dropHd l).length ≤ l.length := by
  cases l with
  | nil => simp [dropHd]
  | cons p r => rw [dropHd_cons]; split <;> simp
theorem dropLs_len (l : List Inl) : (dropLs l).length ≤ l.length := by unfold dropLs; split <;> simp
theorem norm_len (ps : List Inl) : (norm ps).length ≤ ps.length := by
  have := nGo_len ps [] none
  simp at this
  exact Nat.le_trans (dropLs_len _) (Nat.le_trans (dropHd_len _) this)
/-- The texts of a canonical list: what is no space, and a byte for each space. -/
theorem canon_tlen (l : List Inl) (h : Canon l) : tlen l ≤ (nst l).length + l.length := by
  induction l with
  | nil => simp [tlen]
  | cons p l ih =>
    have := ih h.tail
    simp only [tlen, nst, List.length_cons]
    by_cases h1 : p.kind = 1
    · rw [if_pos h1, canon_eta_sp p l h h1]; simp; omega
    · rw [if_neg h1]; simp; omega
theorem norm_tlen (ps : List Inl) : tlen (norm ps) ≤ tlen ps + ps.length := by
  have h1 := canon_tlen (norm ps) (norm_NF ps).1
  rw [nst_norm] at h1
  have h2 := nst_len ps
  have h3 := norm_len ps
  omega

/-- The texts of fragments. -/
def flen : List Frg → Nat
  | [] => 0
  | p :: ps => p.text.length + flen ps
theorem flen_at (ps : List Frg) (k : Nat) (hk : k < ps.length) : flen (ps.drop k) = ps[k].text.length + flen (ps.drop (k + 1)) := by
  rw [List.drop_eq_getElem_cons hk, flen]
def ftx : List Frg → List UInt8
  | [] => []
  | p :: ps => p.text ++ ftx ps
theorem ftx_at (ps : List Frg) (k : Nat) (hk : k < ps.length) : ftx (ps.drop k) = ps[k].text ++ ftx (ps.drop (k + 1)) := by
  rw [List.drop_eq_getElem_cons hk, ftx]
theorem ftx_len (ps : List Frg) : (ftx ps).length = flen ps := by
  induction ps with
  | nil => rfl
  | cons p ps ih => simp only [ftx, flen, List.length_append, ih]
theorem flen_le (ps : List Frg) (p : Frg) (hp : p ∈ ps) : p.text.length ≤ flen ps := by
  induction ps with
  | nil => cases hp
  | cons q ps ih =>
    rcases List.mem_cons.1 hp with h | h
    · subst h; simp only [flen]; omega
    · have := ih h; simp only [flen]; omega
end Go.Proofs.Ybuaaw
