/-
  Plain functions on pieces: the normal form. No Go in sight.
-/
import Derived.Test.YbuaawPlain1
namespace Go.Proofs.Ybuaaw

/-- The bytes of all texts. -/
def tlen : List Inl → Nat
  | [] => 0
  | p :: ps => p.text.length + tlen ps
theorem tlen_at (ps : List Inl) (k : Nat) (hk : k < ps.length) : tlen (ps.drop k) = ps[k].text.length + tlen (ps.drop (k + 1)) := by
  rw [List.drop_eq_getElem_cons hk, tlen]
theorem tlen_append (a b : List Inl) : tlen (a ++ b) = tlen a + tlen b := by
  induction a with
  | nil => simp [tlen]
  | cons p a ih => simp only [List.cons_append, tlen, ih]; omega
theorem tlen_le (ps : List Inl) (p : Inl) (hp : p ∈ ps) : p.text.length ≤ tlen ps := by
  induction ps with
  | nil => cases hp
  | cons q ps ih =>
    rcases List.mem_cons.1 hp with h | h
    · subst h; simp only [tlen]; omega
    · have := ih h; simp only [tlen]; omega
theorem tlen_drop (ps : List Inl) (k : Nat) : tlen (ps.drop k) ≤ tlen ps := by
  induction ps generalizing k with
  | nil => simp [tlen]
  | cons q ps ih =>
    cases k with
    | zero => simp
    | succ k => simp only [List.drop_succ_cons, tlen]; have := ih k; omega

/-- The pending text is laid behind the list. -/
def flushT (acc : List Inl) (t : Option (Int × List UInt8)) : List Inl := match t with
  | none => acc
  | some (s, b) => acc ++ [⟨0, s, b⟩]
/-- Is the last piece a space. -/
def lastSp (acc : List Inl) : Bool := match acc.getLast? with
  | none => false
  | some p => decide (p.kind = 1)
def st01 (s : Int) : Int := if s = 0 then 0 else 1
theorem lastSp_snoc (acc : List Inl) (p : Inl) : lastSp (acc ++ [p]) = decide (p.kind = 1) := by simp [lastSp]
theorem lastSp_last (acc : List Inl) (h : 0 < acc.length) : lastSp acc = decide (acc[acc.length - 1].kind = 1) := by
  unfold lastSp
  rw [List.getLast?_eq_getElem?, List.getElem?_eq_getElem (by omega)]
theorem lastSp_nil : lastSp [] = false := rfl

/-- The merging of pieces, one by one. -/
def nGo : List Inl → List Inl → Option (Int × List UInt8) → List Inl
  | [], acc, t => flushT acc t
  | p :: ps, acc, t =>
    if p.kind = 1 then
      if lastSp (flushT acc t) = true then nGo ps (flushT acc t) none else nGo ps (flushT acc t ++ [⟨1, 0, [32]⟩]) none
    else if p.text = [] then nGo ps acc t
    else if p.kind = 2 then nGo ps (flushT acc t ++ [⟨2, 0, p.text⟩]) none
    else match t with
      | none => nGo ps acc (some (st01 p.style, p.text))
      | some (s, b) => if st01 p.style = s then nGo ps acc (some (s, b ++ p.text)) else nGo ps (acc ++ [⟨0, s, b⟩]) (some (st01 p.style, p.text))

theorem nGo_sp (p : Inl) (ps acc : List Inl) (t : Option (Int × List UInt8)) (h : p.kind = 1) : nGo (p :: ps) acc t = if lastSp (flushT acc t) = true then nGo ps (flushT acc t) none else nGo ps (flushT acc t ++ [⟨1, 0, [32]⟩]) none := by
  rw [nGo.eq_def]; simp only [if_pos h]
theorem nGo_empty (p : Inl) (ps acc : List Inl) (t : Option (Int × List UInt8)) (h : p.kind ≠ 1) (ht : p.text = []) : nGo (p :: ps) acc t = nGo ps acc t := by
  rw [nGo.eq_def]; simp only [if_neg h, if_pos ht]
theorem nGo_code (p : Inl) (ps acc : List Inl) (t : Option (Int × List UInt8)) (h : p.kind = 2) (ht : p.text ≠ []) : nGo (p :: ps) acc t = nGo ps (flushT acc t ++ [⟨2, 0, p.text⟩]) none := by
  have h1 : ¬ p.kind = 1 := by omega
  rw [nGo.eq_def]; simp only [if_neg h1, if_neg ht, if_pos h]
theorem nGo_text (p : Inl) (ps acc : List Inl) (h : p.kind ≠ 1) (h2 : p.kind ≠ 2) (ht : p.text ≠ []) : nGo (p :: ps) acc none = nGo ps acc (some (st01 p.style, p.text)) := by
  rw [nGo.eq_def]; simp only [if_neg h, if_neg ht, if_neg h2]
theorem nGo_same (p : Inl) (ps acc : List Inl) (s : Int) (b : List UInt8) (h : p.kind ≠ 1) (h2 : p.kind ≠ 2) (ht : p.text ≠ []) (hs : st01 p.style = s) : nGo (p :: ps) acc (some (s, b)) = nGo ps acc (some (s, b ++ p.text)) := by
  rw [nGo.eq_def]; simp only [if_neg h, if_neg ht, if_neg h2, if_pos hs]
theorem nGo_other (p : Inl) (ps acc : List Inl) (s : Int) (b : List UInt8) (h : p.kind ≠ 1) (h2 : p.kind ≠ 2) (ht : p.text ≠ []) (hs : st01 p.style ≠ s) : nGo (p :: ps) acc (some (s, b)) = nGo ps (acc ++ [⟨0, s, b⟩]) (some (st01 p.style, p.text)) := by
  rw [nGo.eq_def]; simp only [if_neg h, if_neg ht, if_neg h2, if_neg hs]

/-- A space at the head and one at the end are dropped. -/
def dropHd (r : List Inl) : List Inl := match r with
  | [] => []
  | p :: r' => if p.kind = 1 then r' else p :: r'
def dropLs (r : List Inl) : List Inl := if lastSp r = true then r.take (r.length - 1) else r
def trimSp (r : List Inl) : List Inl := dropLs (dropHd r)
def norm (ps : List Inl) : List Inl := trimSp (nGo ps [] none)
theorem dropHd_yes (r : List Inl) (h : 0 < r.length) (hk : r[0].kind = 1) : dropHd r = r.drop 1 := by
  cases r with
  | nil => simp at h
  | cons p r => simp at hk; simp [dropHd, hk]
theorem dropHd_no (r : List Inl) (h : 0 < r.length) (hk : r[0].kind ≠ 1) : dropHd r = r := by
  cases r with
  | nil => simp at h
  | cons p r => simp at hk; simp [dropHd, hk]

/-- The first step of the reference: each piece in its own form, empty ones dropped. -/
def canonP (p : Inl) : Inl := if p.kind = 1 then ⟨1, 0, [32]⟩ else if p.kind = 2 then ⟨2, 0, p.text⟩ else ⟨0, st01 p.style, p.text⟩
def cGo : List Inl → List Inl → List Inl
  | [], acc => acc
  | p :: ps, acc => if p.kind ≠ 1 ∧ p.text = [] then cGo ps acc else cGo ps (acc ++ [canonP p])
def canon (ps : List Inl) : List Inl := cGo ps []
theorem cGo_acc (ps acc : List Inl) : cGo ps acc = acc ++ cGo ps [] := by
  induction ps generalizing acc with
  | nil => simp [cGo]
  | cons p ps ih =>
    rw [cGo, cGo]
    split
    · exact ih acc
    · rw [ih, ih ([] ++ [canonP p])]; simp
theorem canon_cons (p : Inl) (ps : List Inl) : canon (p :: ps) = if p.kind ≠ 1 ∧ p.text = [] then canon ps else canonP p :: canon ps := by
  unfold canon
  rw [cGo]
  split
  · rfl
  · rw [cGo_acc]; simp
theorem cGo_at (ps acc : List Inl) (k : Nat) (hk : k < ps.length) : cGo (ps.drop k) acc = if ps[k].kind ≠ 1 ∧ ps[k].text = [] then cGo (ps.drop (k + 1)) acc else cGo (ps.drop (k + 1)) (acc ++ [canonP ps[k]]) := by
  rw [List.drop_eq_getElem_cons hk, cGo]

/-- The merging does not see the first step. -/
theorem nGo_canon (ps acc : List Inl) (t : Option (Int × List UInt8)) : nGo (canon ps) acc t = nGo ps acc t := by
  induction ps generalizing acc t with
  | nil => rfl
  | cons p ps ih =>
    rw [canon_cons]
    by_cases h1 : p.kind = 1
    · rw [if_neg (by simp [h1])]
      have e : (canonP p).kind = 1 := by simp [canonP, h1]
      rw [nGo_sp _ _ _ _ e, nGo_sp _ _ _ _ h1, ih, ih]
    · by_cases ht : p.text = []
      · rw [if_pos ⟨h1, ht⟩, nGo_empty _ _ _ _ h1 ht, ih]
      · rw [if_neg (by simp [ht])]
        by_cases h2 : p.kind = 2
        · have e : canonP p = ⟨2, 0, p.text⟩ := by simp [canonP, h2]
          rw [e, nGo_code ⟨2, 0, p.text⟩ _ _ _ rfl ht, nGo_code _ _ _ _ h2 ht, ih]
        · have e : canonP p = ⟨0, st01 p.style, p.text⟩ := by simp [canonP, h1, h2]
          have e2 : st01 (st01 p.style) = st01 p.style := by unfold st01; split <;> simp
          rw [e]
          cases t with
          | none =>
            rw [nGo_text ⟨0, st01 p.style, p.text⟩ _ _ (by simp) (by simp) ht, nGo_text _ _ _ h1 h2 ht, ih]
            simp only [e2]
          | some t =>
            obtain ⟨s, b⟩ := t
            by_cases hs : st01 p.style = s
            · rw [nGo_same ⟨0, st01 p.style, p.text⟩ _ _ _ _ (by simp) (by simp) ht (by simp only [e2]; exact hs), nGo_same _ _ _ _ _ h1 h2 ht hs, ih]
            · rw [nGo_other ⟨0, st01 p.style, p.text⟩ _ _ _ _ (by simp) (by simp) ht (by simp only [e2]; exact hs), nGo_other _ _ _ _ _ h1 h2 ht hs, ih]
              simp only [e2]

/-- What the first step leaves. -/
def Canon (a : List Inl) : Prop := ∀ q ∈ a, (q.kind = 1 ∧ q.style = 0 ∧ q.text = [32] ∨ q.kind = 2 ∧ q.style = 0 ∧ q.text ≠ [] ∨ q.kind = 0 ∧ (q.style = 0 ∨ q.style = 1) ∧ q.text ≠ [])
theorem canon_canon (ps : List Inl) : Canon (canon ps) := by
  induction ps with
  | nil => intro q hq; cases hq
  | cons p ps ih =>
    rw [canon_cons]
    split
    · exact ih
    · rename_i h
      intro q hq
      rcases List.mem_cons.1 hq with rfl | hq
      · by_cases h1 : p.kind = 1
        · left; simp [canonP, h1]
        · have ht : p.text ≠ [] := fun e => h ⟨h1, e⟩
          right
          by_cases h2 : p.kind = 2
          · left; simp [canonP, h2, ht]
          · right; simp only [canonP, if_neg h1, if_neg h2, st01]; split <;> simp [ht]
      · exact ih q hq

/-- A pending text may be laid down at once where the next piece does not go on with it. -/
theorem nGo_flush (a acc : List Inl) (s : Int) (b : List UInt8) (hc : Canon a) (hn : ∀ h : 0 < a.length, ¬ (a[0].kind = 0 ∧ a[0].style = s)) : nGo a acc (some (s, b)) = nGo a (acc ++ [⟨0, s, b⟩]) none := by
  cases a with
  | nil => rfl
  | cons p a =>
    have hn := hn (by simp)
    rw [List.getElem_cons_zero] at hn
    rcases hc p (by simp) with ⟨h1, _⟩ | ⟨h2, _, ht⟩ | ⟨h0, hs, ht⟩
    · rw [nGo_sp _ _ _ _ h1, nGo_sp _ _ _ _ h1]; rfl
    · rw [nGo_code _ _ _ _ h2 ht, nGo_code _ _ _ _ h2 ht]; rfl
    · have e : st01 p.style = p.style := by unfold st01; rcases hs with h | h <;> simp [h]
      rw [nGo_other _ _ _ _ _ (by omega) (by omega) ht (by rw [e]; exact fun e => hn ⟨h0, e⟩), nGo_text _ _ _ (by omega) (by omega) ht]

/-- The texts from i to j. -/
def runText (a : List Inl) (i j : Nat) : List UInt8 := ((a.drop i).take (j - i)).flatMap (·.text)
theorem runText_self (a : List Inl) (i : Nat) : runText a i i = [] := by simp [runText]
theorem runText_succ (a : List Inl) (i j : Nat) (h : i ≤ j) (hj : j < a.length) : runText a i (j + 1) = runText a i j ++ a[j].text := by
  unfold runText
  rw [take_drop_snoc a i j hj h]
  simp
theorem runText_len (a : List Inl) (i j : Nat) : (runText a i j).length ≤ tlen a := by
  have h1 : ∀ l : List Inl, (l.flatMap (·.text)).length = tlen l := by
    intro l
    induction l with
    | nil => rfl
    | cons p l ih => simp only [List.flatMap_cons, List.length_append, tlen, ih]
  have h2 : ∀ (l : List Inl) n, tlen (l.take n) ≤ tlen l := by
    intro l n
    have := tlen_append (l.take n) (l.drop n)
    rw [List.take_append_drop] at this
    omega
  unfold runText
  rw [h1]
  exact Nat.le_trans (h2 _ _) (tlen_drop a i)

theorem nGo_run (a acc : List Inl) (hc : Canon a) (i j : Nat) (s : Int) (hij : i < j) (hj : j ≤ a.length) (hrun : ∀ m (h : m < a.length), i ≤ m → m < j → a[m].kind = 0 ∧ a[m].style = s) :
    nGo (a.drop i) acc none = nGo (a.drop j) acc (some (s, runText a i j)) := by
  have key : ∀ d, i + 1 + d ≤ j → nGo (a.drop i) acc none = nGo (a.drop (i + 1 + d)) acc (some (s, runText a i (i + 1 + d))) := by
    intro d
    induction d with
    | zero =>
      intro _
      have hi : i < a.length := by omega
      obtain ⟨h0, hs⟩ := hrun i hi (Nat.le_refl _) hij
      rcases hc a[i] (List.getElem_mem hi) with ⟨h1, _⟩ | ⟨h2, _, ht⟩ | ⟨_, hs', ht⟩
      · omega
      · omega
      · have e : st01 a[i].style = s := by rw [← hs]; unfold st01; rcases hs' with h | h <;> simp [h]
        rw [List.drop_eq_getElem_cons hi, nGo_text _ _ _ (by omega) (by omega) ht, e]
        rw [Nat.add_zero, runText_succ a i i (Nat.le_refl _) hi, runText_self]
        rfl
    | succ d ih =>
      intro hd
      rw [ih (by omega)]
      have hi : i + 1 + d < a.length := by omega
      obtain ⟨h0, hs⟩ := hrun (i + 1 + d) hi (by omega) (by omega)
      rcases hc a[i + 1 + d] (List.getElem_mem hi) with ⟨h1, _⟩ | ⟨h2, _, ht⟩ | ⟨_, hs', ht⟩
      · omega
      · omega
      · have e : st01 a[i + 1 + d].style = s := by rw [← hs]; unfold st01; rcases hs' with h | h <;> simp [h]
        rw [List.drop_eq_getElem_cons hi, nGo_same _ _ _ _ _ (by omega) (by omega) ht e]
        rw [show i + 1 + (d + 1) = (i + 1 + d) + 1 by omega, runText_succ a i (i + 1 + d) (by omega) hi]
  have := key (j - (i + 1)) (by omega)
  rwa [show i + 1 + (j - (i + 1)) = j by omega] at this

theorem drop_getElem0 {α : Type} (a : List α) (j : Nat) (h : j < a.length) : (a.drop j)[0]'(by simp; omega) = a[j] := by simp

/-- A run of text. -/
theorem run_text (a acc : List Inl) (hc : Canon a) (i j : Nat) (s : Int) (hij : i < j) (hj : j ≤ a.length) (hrun : ∀ m (h : m < a.length), i ≤ m → m < j → a[m].kind = 0 ∧ a[m].style = s)
    (hstop : ∀ h : j < a.length, ¬ (a[j].kind = 0 ∧ a[j].style = s)) : nGo (a.drop i) acc none = nGo (a.drop j) (acc ++ [⟨0, s, runText a i j⟩]) none := by
  rw [nGo_run a acc hc i j s hij hj hrun]
  refine nGo_flush _ _ _ _ (fun q hq => hc q (List.mem_of_mem_drop hq)) ?_
  intro h
  have hj' : j < a.length := by simp at h; omega
  rw [drop_getElem0 a j hj']
  exact hstop hj'

/-- A run of spaces. -/
theorem run_space (a acc : List Inl) (i j : Nat) (hij : i < j) (hj : j ≤ a.length) (hrun : ∀ m (h : m < a.length), i ≤ m → m < j → a[m].kind = 1)
    (hl : lastSp acc = false) : nGo (a.drop i) acc none = nGo (a.drop j) (acc ++ [⟨1, 0, [32]⟩]) none := by
  have key : ∀ d, i + 1 + d ≤ j → nGo (a.drop i) acc none = nGo (a.drop (i + 1 + d)) (acc ++ [⟨1, 0, [32]⟩]) none := by
    intro d
    induction d with
    | zero =>
      intro _
      have hi : i < a.length := by omega
      rw [List.drop_eq_getElem_cons hi, nGo_sp _ _ _ _ (hrun i hi (Nat.le_refl _) hij)]
      rw [if_neg (by simp [flushT, hl])]
      rfl
    | succ d ih =>
      intro hd
      rw [ih (by omega)]
      have hi : i + 1 + d < a.length := by omega
      rw [List.drop_eq_getElem_cons hi, nGo_sp _ _ _ _ (hrun _ hi (by omega) (by omega))]
      rw [if_pos (by simp [flushT, lastSp_snoc])]
      rfl
  have := key (j - (i + 1)) (by omega)
  rwa [show i + 1 + (j - (i + 1)) = j by omega] at this
theorem run_code (a acc : List Inl) (hc : Canon a) (i : Nat) (hi : i < a.length) (h0 : a[i].kind ≠ 0) (h1 : a[i].kind ≠ 1) : nGo (a.drop i) acc none = nGo (a.drop (i + 1)) (acc ++ [a[i]]) none ∧ a[i].kind = 2 := by
  rcases hc a[i] (List.getElem_mem hi) with ⟨h1', _⟩ | ⟨h2, hs, ht⟩ | ⟨h0', hs', ht⟩
  · omega
  · refine ⟨?_, h2⟩
    rw [List.drop_eq_getElem_cons hi, nGo_code _ _ _ _ h2 ht]
    have : (⟨2, 0, a[i].text⟩ : Inl) = a[i] := by cases h : a[i]; simp_all
    rw [this]; rfl
  · omega

def Run1 (al : List Inl) (m j : Nat) : Prop := ∀ x (h : x < al.length), m ≤ x → x < j → al[x].kind = 1
theorem Run1.start {al : List Inl} {m : Nat} (hm : m < al.length) (h : al[m].kind = 1) : Run1 al m (m + 1) := fun x hx h1 h2 => by
  have e : x = m := by omega
  subst e; exact h
theorem Run1.next {al : List Inl} {m j : Nat} (hr : Run1 al m j) (hj : j < al.length) (h : al[j].kind = 1) : Run1 al m (j + 1) := fun x hx h1 h2 => by
  by_cases e : x = j
  · subst e; exact h
  · exact hr x hx h1 (by omega)
def Run0 (al : List Inl) (m j : Nat) (s : Int) : Prop := ∀ x (h : x < al.length), m ≤ x → x < j → al[x].kind = 0 ∧ al[x].style = s
theorem Run0.start {al : List Inl} {m : Nat} (hm : m < al.length) (h : al[m].kind = 0) : Run0 al m (m + 1) al[m].style := fun x hx h1 h2 => by
  have e : x = m := by omega
  subst e; exact ⟨h, rfl⟩
theorem Run0.next {al : List Inl} {m j : Nat} {s : Int} (hr : Run0 al m j s) (hj : j < al.length) (h : al[j].kind = 0) (hs : al[j].style = s) : Run0 al m (j + 1) s := fun x hx h1 h2 => by
  by_cases e : x = j
  · subst e; exact ⟨h, hs⟩
  · exact hr x hx h1 (by omega)
end Go.Proofs.Ybuaaw
