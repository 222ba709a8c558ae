/-
  Plain functions: pieces back into text. No Go in sight.
-/
import Derived.Test.YbuaawPlain5
namespace Go.Proofs.Ybuaaw

def escd (c : UInt8) : Bool := decide (c.toNat = 92) || decide (c.toNat = 42) || decide (c.toNat = 96) || isSp c
def esc : List UInt8 → List UInt8
  | [] => []
  | c :: l => (if escd c = true then [92, c] else [c]) ++ esc l
def code : List UInt8 → List UInt8
  | [] => []
  | c :: l => (if c.toNat = 96 then [] else [c]) ++ code l
def ofBool (b : Bool) : Int := if b = true then 1 else 0
/-- The bytes of the pieces from here on; s: the style that is on. -/
def unpGo : List Inl → Int → List UInt8
  | [], s => if s = 1 then [42] else []
  | p :: ps, s =>
    if p.kind = 1 then 32 :: unpGo ps s
    else if p.kind = 2 then 96 :: (code p.text ++ 96 :: unpGo ps s)
    else (if st01 p.style = s then [] else [42]) ++ (esc p.text ++ unpGo ps (st01 p.style))
def unp (ps : List Inl) : List UInt8 := unpGo ps 0

theorem esc_at (l : List UInt8) (k : Nat) (h : k < l.length) : esc (l.drop k) = (if escd l[k] = true then [92, l[k]] else [l[k]]) ++ esc (l.drop (k + 1)) := by
  rw [List.drop_eq_getElem_cons h, esc]
theorem code_at (l : List UInt8) (k : Nat) (h : k < l.length) : code (l.drop k) = (if l[k].toNat = 96 then [] else [l[k]]) ++ code (l.drop (k + 1)) := by
  rw [List.drop_eq_getElem_cons h, code]
theorem esc_len (l : List UInt8) : (esc l).length ≤ 2 * l.length := by
  induction l with
  | nil => simp [esc]
  | cons c l ih => rw [esc]; split <;> simp <;> omega
theorem code_len (l : List UInt8) : (code l).length ≤ l.length := by
  induction l with
  | nil => simp [code]
  | cons c l ih => rw [code]; split <;> simp <;> omega
theorem unpGo_len (ps : List Inl) (s : Int) : (unpGo ps s).length ≤ 2 * tlen ps + 2 * ps.length + 1 := by
  induction ps generalizing s with
  | nil => rw [unpGo]; split <;> simp
  | cons p ps ih =>
    rw [unpGo]
    split
    · have := ih s; simp [tlen]; omega
    · split
      · have := ih s; have := code_len p.text; simp [tlen]; omega
      · have h1 := ih (st01 p.style); have h2 := esc_len p.text
        split <;> simp [tlen] <;> omega

/-- The escaped text goes into the buffer as it is. -/
theorem pm_body (t r : List UInt8) (s : Int) (b : List UInt8) (out : List Inl) : pm (esc t ++ r) 0 [] s b out = pm r 0 [] s (b ++ t) out := by
  induction t generalizing b with
  | nil => simp [esc]
  | cons c t ih =>
    rw [esc]
    by_cases h : escd c = true
    · rw [if_pos h]
      have := pm_esc 92 c (esc t ++ r) s b out (by decide)
      simp only [List.cons_append, List.nil_append] at this ⊢
      rw [this, ih]
      simp
    · rw [if_neg h]
      have h' : ((¬ c.toNat = 92 ∧ ¬ c.toNat = 42) ∧ ¬ c.toNat = 96) ∧ isSp c = false := by simpa [escd] using h
      have := pm_char c (esc t ++ r) s b out h'.1.1.1 h'.1.1.2 h'.1.2 h'.2
      simp only [List.cons_append, List.nil_append] at this ⊢
      rw [this, ih]
      simp

/-- No tick inside a code piece. -/
def C96 (ps : List Inl) : Prop := ∀ p ∈ ps, p.kind = 2 → ∀ d ∈ p.text, d.toNat ≠ 96
theorem code_id (t : List UInt8) (h : ∀ d ∈ t, d.toNat ≠ 96) : code t = t := by
  induction t with
  | nil => rfl
  | cons c t ih => rw [code, if_neg (h c (by simp)), ih (fun d hd => h d (by simp [hd]))]; rfl
theorem C96.snoc {out : List Inl} {x : Inl} (h : C96 out) (hx : x.kind = 2 → ∀ d ∈ x.text, d.toNat ≠ 96) : C96 (out ++ [x]) := by
  intro p hp
  rcases List.mem_append.1 hp with hp | hp
  · exact h p hp
  · simp at hp; subst hp; exact hx
theorem C96.flushB {out : List Inl} (h : C96 out) (s : Int) (b : List UInt8) : C96 (flushB out s b) := by
  unfold Ybuaaw.flushB
  split
  · exact h
  · exact h.snoc (fun e => absurd e (by simp))
theorem C96.flushT {out : List Inl} (h : C96 out) (t : Option (Int × List UInt8)) : C96 (flushT out t) := by
  cases t with
  | none => exact h
  | some t => exact h.snoc (fun e => absurd e (by simp))
theorem pm_c96 (l : List UInt8) (m : Nat) (ca : List UInt8) (s : Int) (b : List UInt8) (out : List Inl) (h : C96 out) (hca : ∀ d ∈ ca, d.toNat ≠ 96) : C96 (pm l m ca s b out) := by
  induction l generalizing m ca s b out with
  | nil => exact h.flushB s b
  | cons c r ih =>
    have hn : ∀ d ∈ ([] : List UInt8), d.toNat ≠ 96 := by simp
    rw [pm]
    by_cases h2 : m = 2
    · rw [if_pos h2]
      by_cases hc : c.toNat = 96
      · rw [if_pos hc]; exact ih _ _ _ _ _ (h.snoc (fun _ => hca)) hn
      · rw [if_neg hc]
        refine ih _ _ _ _ _ h ?_
        intro d hd
        rcases List.mem_append.1 hd with hd | hd
        · exact hca d hd
        · simp at hd; subst hd; exact hc
    · rw [if_neg h2]
      by_cases h3 : m = 3
      · rw [if_pos h3]; exact ih _ _ _ _ _ h hn
      · rw [if_neg h3]
        by_cases h4 : m = 1 ∧ isSp c = true
        · rw [if_pos h4]; exact ih _ _ _ _ _ h hn
        · rw [if_neg h4]
          by_cases h5 : c.toNat = 92
          · rw [if_pos h5]; split <;> exact ih _ _ _ _ _ h hn
          · rw [if_neg h5]
            by_cases h6 : c.toNat = 42
            · rw [if_pos h6]; exact ih _ _ _ _ _ (h.flushB _ _) hn
            · rw [if_neg h6]
              by_cases h7 : c.toNat = 96
              · rw [if_pos h7]
                split
                · exact ih _ _ _ _ _ (h.flushB _ _) hn
                · exact ih _ _ _ _ _ h hn
              · rw [if_neg h7]
                split
                · exact ih _ _ _ _ _ ((h.flushB _ _).snoc (fun e => absurd e (by simp))) hn
                · exact ih _ _ _ _ _ h hn
theorem pinl_c96 (l : List UInt8) : C96 (pinl l) := pm_c96 l 0 [] 0 [] [] (by intro p hp; cases hp) (by simp)
theorem nGo_c96 (ps acc : List Inl) (t : Option (Int × List UInt8)) (h : C96 acc) (hp : C96 ps) : C96 (nGo ps acc t) := by
  induction ps generalizing acc t with
  | nil => exact h.flushT t
  | cons p ps ih =>
    have hps : C96 ps := fun q hq => hp q (by simp [hq])
    by_cases h1 : p.kind = 1
    · rw [nGo_sp _ _ _ _ h1]
      split
      · exact ih _ _ (h.flushT t) hps
      · exact ih _ _ ((h.flushT t).snoc (fun e => absurd e (by simp))) hps
    · by_cases ht : p.text = []
      · rw [nGo_empty _ _ _ _ h1 ht]; exact ih _ _ h hps
      · by_cases h2 : p.kind = 2
        · rw [nGo_code _ _ _ _ h2 ht]; exact ih _ _ ((h.flushT t).snoc (fun _ => hp p (by simp) h2)) hps
        · cases t with
          | none => rw [nGo_text _ _ _ h1 h2 ht]; exact ih _ _ h hps
          | some t =>
            obtain ⟨s, b⟩ := t
            by_cases hs : st01 p.style = s
            · rw [nGo_same _ _ _ _ _ h1 h2 ht hs]; exact ih _ _ h hps
            · rw [nGo_other _ _ _ _ _ h1 h2 ht hs]; exact ih _ _ (h.snoc (fun e => absurd e (by simp))) hps
theorem trimSp_mem (r : List Inl) : ∀ p ∈ trimSp r, p ∈ r := by
  intro p hp
  have h1 : ∀ q ∈ dropHd r, q ∈ r := by
    intro q hq
    unfold dropHd at hq
    split at hq
    · cases hq
    · split at hq
      · simp [hq]
      · exact hq
  have h2 : p ∈ dropHd r := by
    unfold trimSp dropLs at hp
    split at hp
    · exact List.mem_of_mem_take hp
    · exact hp
  exact h1 p h2
theorem norm_c96 (ps : List Inl) (h : C96 ps) : C96 (norm ps) := by
  intro p hp
  exact nGo_c96 ps [] none (by intro p hp; cases hp) h p (trimSp_mem _ p hp)

theorem flushB_nil (out : List Inl) (s : Int) : flushB out s [] = out := by simp [flushB]
theorem flushB_ne (out : List Inl) (s : Int) (b : List UInt8) (h : b ≠ []) : flushB out s b = out ++ [⟨0, s, b⟩] := by simp [flushB, h]

/-- What the text of pieces in normal form begins with, where the first is no space. -/
theorem esc_head (t r : List UInt8) (ht : t ≠ []) : ∀ d, (esc t ++ r).head? = some d → isSp d = false := by
  intro d hd
  cases t with
  | nil => exact absurd rfl ht
  | cons c t =>
    rw [esc] at hd
    by_cases h : escd c = true
    · rw [if_pos h] at hd; simp at hd; subst hd; decide
    · rw [if_neg h] at hd
      simp at hd; subst hd
      have h' : ((¬ c.toNat = 92 ∧ ¬ c.toNat = 42) ∧ ¬ c.toNat = 96) ∧ isSp c = false := by simpa [escd] using h
      exact h'.2
theorem unpGo_head (ps : List Inl) (s : Int) (hc : Canon ps) (h : ∀ q, ps.head? = some q → q.kind ≠ 1) : ∀ d, (unpGo ps s).head? = some d → isSp d = false := by
  intro d hd
  cases ps with
  | nil =>
    rw [unpGo] at hd
    split at hd
    · simp at hd; subst hd; decide
    · simp at hd
  | cons p ps =>
    have h1 := h p rfl
    rw [unpGo, if_neg h1] at hd
    split at hd
    · simp at hd; subst hd; decide
    · rename_i h2
      rcases hc p (by simp) with ⟨h1', _⟩ | ⟨h2', _⟩ | ⟨_, _, ht⟩
      · exact absurd h1' h1
      · exact absurd h2' h2
      · split at hd
        · rw [List.nil_append] at hd; exact esc_head _ _ ht d hd
        · simp at hd; subst hd; decide

theorem adj_cons {q : Inl} {r : List Inl} (h : Adj (q :: r)) : ∀ p, r.head? = some p → okAdj q p := by
  intro p hp
  cases r with
  | nil => cases hp
  | cons x r => simp at hp; subst hp; exact h.1

/-- The text read back: the pieces, each code piece perhaps with the style that was on. -/
theorem pm_unp (ps : List Inl) (s : Int) (b : List UInt8) (out : List Inl) (hs : s = 0 ∨ s = 1) (hc : Canon ps) (ha : Adj ps) (h96 : C96 ps)
    (hb : b ≠ [] → ∀ q, ps.head? = some q → ¬ (q.kind = 0 ∧ q.style = s)) :
    ∃ ps', pm (unpGo ps s) 0 [] s b out = flushB out s b ++ ps' ∧ canon ps' = ps := by
  induction ps generalizing s b out with
  | nil =>
    refine ⟨[], ?_, rfl⟩
    rw [unpGo]
    rcases hs with rfl | rfl
    · simp [pm]
    · rw [if_pos rfl, pm_star _ _ _ _ _ (by decide)]; simp [pm, flushB_nil]
  | cons p ps ih =>
    have hc' := hc.tail
    have ha' := ha.tail
    have h96' : C96 ps := fun q hq => h96 q (by simp [hq])
    have hadj := adj_cons ha
    rw [unpGo]
    rcases hc p (by simp) with ⟨h1, h1s, h1t⟩ | ⟨h2, h2s, ht⟩ | ⟨h0, hst, ht⟩
    · rw [if_pos h1, pm_sp _ _ _ _ _ (by decide), pm_leave]
      · obtain ⟨ps', e1, e2⟩ := ih s [] (flushB out s b ++ [⟨1, 0, [32]⟩]) hs hc' ha' h96' (fun h => absurd rfl h)
        refine ⟨⟨1, 0, [32]⟩ :: ps', ?_, ?_⟩
        · rw [e1, flushB_nil]; simp
        · rw [canon_cons, if_neg (by simp), e2]
          cases p; simp_all [canonP]
      · exact unpGo_head ps s hc' (fun q hq => fun e => (hadj q hq).2 ⟨h1, e⟩)
    · have h1 : ¬ p.kind = 1 := by omega
      have hno : ∀ d ∈ p.text, d.toNat ≠ 96 := h96 p (by simp) h2
      rw [if_neg h1, if_pos h2, code_id _ hno]
      rw [pm_tick _ _ _ _ _ (by decide) (hasB_mem 96 _ 96 (by simp) rfl)]
      rw [pm_code _ _ _ _ _ _ _ (by decide) hno]
      obtain ⟨ps', e1, e2⟩ := ih s [] (flushB out s b ++ [⟨2, s, [] ++ p.text⟩]) hs hc' ha' h96' (fun h => absurd rfl h)
      refine ⟨⟨2, s, p.text⟩ :: ps', ?_, ?_⟩
      · rw [e1, flushB_nil]; simp
      · rw [canon_cons, if_neg (by simp [ht]), e2]
        cases p; simp_all [canonP]
    · have h1 : ¬ p.kind = 1 := by omega
      have h2 : ¬ p.kind = 2 := by omega
      have est : st01 p.style = p.style := by unfold st01; rcases hst with h | h <;> simp [h]
      rw [if_neg h1, if_neg h2, est]
      have hnext : p.text ≠ [] → ∀ q, ps.head? = some q → ¬ (q.kind = 0 ∧ q.style = p.style) := fun _ q hq e => (hadj q hq).1 ⟨h0, e.1, e.2.symm⟩
      have ep : canonP ⟨0, p.style, p.text⟩ = p := by cases p; simp_all [canonP]
      by_cases hsame : p.style = s
      · have hbn : b = [] := by
          cases b with
          | nil => rfl
          | cons x y => exact absurd ⟨h0, hsame⟩ (hb (by simp) p rfl)
        subst hbn
        rw [if_pos hsame, List.nil_append, pm_body, List.nil_append, hsame]
        obtain ⟨ps', e1, e2⟩ := ih s p.text out hs hc' ha' h96' (by rw [← hsame]; exact hnext)
        refine ⟨⟨0, p.style, p.text⟩ :: ps', ?_, ?_⟩
        · rw [e1, flushB_nil, flushB_ne _ _ _ ht, hsame]; simp
        · rw [canon_cons, if_neg (by simp [ht]), e2, ep]
      · rw [if_neg hsame, List.cons_append, List.nil_append, pm_star _ _ _ _ _ (by decide), pm_body, List.nil_append]
        have e1s : 1 - s = p.style := by rcases hs with h | h <;> rcases hst with h' | h' <;> omega
        rw [e1s]
        obtain ⟨ps', e1, e2⟩ := ih p.style p.text (flushB out s b) hst hc' ha' h96' hnext
        refine ⟨⟨0, p.style, p.text⟩ :: ps', ?_, ?_⟩
        · rw [e1, flushB_ne _ _ _ ht]; simp
        · rw [canon_cons, if_neg (by simp [ht]), e2, ep]
theorem norm_of_canon (a b : List Inl) (h : canon a = b) : norm a = norm b := by
  unfold norm
  rw [← nGo_canon a, h]
theorem round_trip (l : List UInt8) : norm (pinl (unp (norm (pinl l)))) = norm (pinl l) := by
  have hn := norm_NF (pinl l)
  obtain ⟨ps', e1, e2⟩ := pm_unp (norm (pinl l)) 0 [] [] (.inl rfl) hn.1 hn.2.1 (norm_c96 _ (pinl_c96 l)) (fun h => absurd rfl h)
  have e3 : pinl (unp (norm (pinl l))) = ps' := by unfold pinl unp; unfold pinl at e1; rw [e1, flushB_nil, List.nil_append]
  rw [e3, norm_of_canon ps' _ e2, norm_id _ hn]
end Go.Proofs.Ybuaaw
