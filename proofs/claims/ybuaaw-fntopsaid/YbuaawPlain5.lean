/-
  Plain functions: inline text into pieces. No Go in sight.
-/
import Derived.Test.YbuaawPlain3
namespace Go.Proofs.Ybuaaw

def flushB (out : List Inl) (s : Int) (b : List UInt8) : List Inl := if b = [] then out else out ++ [⟨0, s, b⟩]
/-- One byte at a time. The mode: 0 plain, 1 behind a space, 2 inside a code piece (its bytes so far: ca), 3 behind a backslash. -/
def pm : List UInt8 → Nat → List UInt8 → Int → List UInt8 → List Inl → List Inl
  | [], _, _, s, b, out => flushB out s b
  | c :: r, m, ca, s, b, out =>
    if m = 2 then (if c.toNat = 96 then pm r 0 [] s [] (out ++ [⟨2, s, ca⟩]) else pm r 2 (ca ++ [c]) s b out)
    else if m = 3 then pm r 0 [] s (b ++ [c]) out
    else if m = 1 ∧ isSp c = true then pm r 1 [] s b out
    else if c.toNat = 92 then (if r = [] then pm r 0 [] s (b ++ [92]) out else pm r 3 [] s b out)
    else if c.toNat = 42 then pm r 0 [] (1 - s) [] (flushB out s b)
    else if c.toNat = 96 then (if hasB 96 r = true then pm r 2 [] s [] (flushB out s b) else pm r 0 [] s (b ++ [96]) out)
    else if isSp c = true then pm r 1 [] s [] (flushB out s b ++ [⟨1, 0, [32]⟩])
    else pm r 0 [] s (b ++ [c]) out
def pinl (l : List UInt8) : List Inl := pm l 0 [] 0 [] []

theorem pm_esc (c d : UInt8) (r : List UInt8) (s : Int) (b : List UInt8) (out : List Inl) (h : c.toNat = 92) : pm (c :: d :: r) 0 [] s b out = pm r 0 [] s (b ++ [d]) out := by
  simp [pm, h]
theorem pm_esc_end (c : UInt8) (s : Int) (b : List UInt8) (out : List Inl) (h : c.toNat = 92) : pm [c] 0 [] s b out = pm [] 0 [] s (b ++ [92]) out := by
  simp [pm, h]
theorem pm_star (c : UInt8) (r : List UInt8) (s : Int) (b : List UInt8) (out : List Inl) (h : c.toNat = 42) : pm (c :: r) 0 [] s b out = pm r 0 [] (1 - s) [] (flushB out s b) := by
  simp [pm, h]
theorem pm_tick (c : UInt8) (r : List UInt8) (s : Int) (b : List UInt8) (out : List Inl) (h : c.toNat = 96) (hr : hasB 96 r = true) : pm (c :: r) 0 [] s b out = pm r 2 [] s [] (flushB out s b) := by
  simp [pm, h, hr]
theorem pm_tick_no (c : UInt8) (r : List UInt8) (s : Int) (b : List UInt8) (out : List Inl) (h : c.toNat = 96) (hr : hasB 96 r = false) : pm (c :: r) 0 [] s b out = pm r 0 [] s (b ++ [96]) out := by
  simp [pm, h, hr]
theorem pm_sp (c : UInt8) (r : List UInt8) (s : Int) (b : List UInt8) (out : List Inl) (h : isSp c = true) : pm (c :: r) 0 [] s b out = pm r 1 [] s [] (flushB out s b ++ [⟨1, 0, [32]⟩]) := by
  have h' : c.toNat = 32 ∨ c.toNat = 9 ∨ c.toNat = 13 ∨ c.toNat = 10 := by simpa [isSp] using h
  have h1 : ¬ c.toNat = 92 := by omega
  have h2 : ¬ c.toNat = 42 := by omega
  have h3 : ¬ c.toNat = 96 := by omega
  simp [pm, h, h1, h2, h3]
theorem pm_char (c : UInt8) (r : List UInt8) (s : Int) (b : List UInt8) (out : List Inl) (h1 : c.toNat ≠ 92) (h2 : c.toNat ≠ 42) (h3 : c.toNat ≠ 96) (h : isSp c = false) : pm (c :: r) 0 [] s b out = pm r 0 [] s (b ++ [c]) out := by
  simp [pm, h, h1, h2, h3]

theorem pm_code (a r : List UInt8) (c : UInt8) (ca : List UInt8) (s : Int) (b : List UInt8) (out : List Inl) (hc : c.toNat = 96) (ha : ∀ d ∈ a, d.toNat ≠ 96) : pm (a ++ c :: r) 2 ca s b out = pm r 0 [] s [] (out ++ [⟨2, s, ca ++ a⟩]) := by
  induction a generalizing ca with
  | nil => simp [pm, hc]
  | cons d a ih =>
    have hd := ha d (by simp)
    rw [List.cons_append, pm, if_pos rfl, if_neg hd, ih _ (fun x hx => ha x (by simp [hx]))]
    simp
theorem pm_skip (a r : List UInt8) (s : Int) (b : List UInt8) (out : List Inl) (ha : ∀ d ∈ a, isSp d = true) : pm (a ++ r) 1 [] s b out = pm r 1 [] s b out := by
  induction a with
  | nil => rfl
  | cons d a ih =>
    rw [List.cons_append, pm, if_neg (by decide), if_neg (by decide), if_pos ⟨rfl, ha d (by simp)⟩, ih (fun x hx => ha x (by simp [hx]))]
theorem pm_leave (r : List UInt8) (s : Int) (b : List UInt8) (out : List Inl) (h : ∀ d, r.head? = some d → isSp d = false) : pm r 1 [] s b out = pm r 0 [] s b out := by
  cases r with
  | nil => rfl
  | cons d r =>
    have hd := h d rfl
    rw [pm, pm]
    simp [hd]

theorem hasB_mem (c : UInt8) (l : List UInt8) (d : UInt8) (hd : d ∈ l) (h : d.toNat = c.toNat) : hasB c l = true := by
  induction l with
  | nil => cases hd
  | cons x l ih =>
    rw [hasB]
    split
    · rfl
    · rcases List.mem_cons.1 hd with e | e
      · subst e; contradiction
      · exact ih e

/-! ### At a place in the text -/
section
variable (l : List UInt8) (i : Nat) (s : Int) (b : List UInt8) (out : List Inl)
theorem pm_esc_at (hi : i + 1 < l.length) (h : l[i].toNat = 92) : pm (l.drop i) 0 [] s b out = pm (l.drop (i + 2)) 0 [] s (b ++ [l[i + 1]]) out := by
  rw [List.drop_eq_getElem_cons (by omega : i < l.length), List.drop_eq_getElem_cons hi, pm_esc _ _ _ _ _ _ h]
theorem pm_esc_end_at (hi : i < l.length) (hi2 : ¬ i + 1 < l.length) (h : l[i].toNat = 92) : pm (l.drop i) 0 [] s b out = pm (l.drop (i + 1)) 0 [] s (b ++ [92]) out := by
  rw [List.drop_eq_getElem_cons hi, List.drop_of_length_le (by omega : l.length ≤ i + 1), pm_esc_end _ _ _ _ h]
theorem pm_star_at (hi : i < l.length) (h : l[i].toNat = 42) : pm (l.drop i) 0 [] s b out = pm (l.drop (i + 1)) 0 [] (1 - s) [] (flushB out s b) := by
  rw [List.drop_eq_getElem_cons hi, pm_star _ _ _ _ _ h]
theorem pm_char_at (hi : i < l.length) (h1 : l[i].toNat ≠ 92) (h2 : l[i].toNat ≠ 42) (h3 : l[i].toNat ≠ 96) (h : isSp l[i] = false) : pm (l.drop i) 0 [] s b out = pm (l.drop (i + 1)) 0 [] s (b ++ [l[i]]) out := by
  rw [List.drop_eq_getElem_cons hi, pm_char _ _ _ _ _ h1 h2 h3 h]
theorem pm_code_at (j : Nat) (hi : i < j) (hj : j < l.length) (h : l[i].toNat = 96) (hjc : l[j].toNat = 96) (hno : ∀ x (hx : x < l.length), i + 1 ≤ x → x < j → l[x].toNat ≠ 96) :
    pm (l.drop i) 0 [] s b out = pm (l.drop (j + 1)) 0 [] s [] (flushB out s b ++ [⟨2, s, (l.drop (i + 1)).take (j - (i + 1))⟩]) := by
  have e1 : l.drop (i + 1) = (l.drop (i + 1)).take (j - (i + 1)) ++ l[j] :: l.drop (j + 1) := by
    rw [← List.drop_eq_getElem_cons hj]
    have : l.drop j = (l.drop (i + 1)).drop (j - (i + 1)) := by rw [List.drop_drop]; congr 1; omega
    rw [this, List.take_append_drop]
  have hm : l[j] ∈ l.drop (i + 1) := by rw [e1]; exact List.mem_append.2 (.inr (List.mem_cons_self))
  have hb : hasB 96 (l.drop (i + 1)) = true := hasB_mem 96 _ l[j] hm hjc
  rw [List.drop_eq_getElem_cons (by omega : i < l.length), pm_tick _ _ _ _ _ h hb]
  rw [e1, pm_code _ _ _ _ _ _ _ hjc]
  · rw [List.nil_append, ← e1]
  · intro d hd
    obtain ⟨x, hx, rfl⟩ := List.getElem_of_mem hd
    simp at hx
    rw [List.getElem_take, List.getElem_drop]
    exact hno _ (by omega) (by omega) (by omega)
theorem pm_tick_no_at (hi : i < l.length) (h : l[i].toNat = 96) (hno : ∀ x (hx : x < l.length), i + 1 ≤ x → l[x].toNat ≠ 96) :
    pm (l.drop i) 0 [] s b out = pm (l.drop (i + 1)) 0 [] s (b ++ [96]) out := by
  have hb : hasB 96 (l.drop (i + 1)) = false := hasB_no 96 _ (fun d hd => by
    obtain ⟨x, hx, rfl⟩ := List.getElem_of_mem hd
    rw [List.getElem_drop]
    exact hno _ (by simp at hx; omega) (by omega))
  rw [List.drop_eq_getElem_cons hi, pm_tick_no _ _ _ _ _ h hb]
theorem pm_sp_at (j : Nat) (hi : i < j) (hj : j ≤ l.length) (hsp : ∀ x (hx : x < l.length), i ≤ x → x < j → isSp l[x] = true) (hstop : ∀ h : j < l.length, isSp l[j] = false) :
    pm (l.drop i) 0 [] s b out = pm (l.drop j) 0 [] s [] (flushB out s b ++ [⟨1, 0, [32]⟩]) := by
  have hi' : i < l.length := by omega
  rw [List.drop_eq_getElem_cons hi', pm_sp _ _ _ _ _ (hsp i hi' (Nat.le_refl _) hi)]
  have e1 : l.drop (i + 1) = (l.drop (i + 1)).take (j - (i + 1)) ++ l.drop j := by
    have : l.drop j = (l.drop (i + 1)).drop (j - (i + 1)) := by rw [List.drop_drop]; congr 1; omega
    rw [this, List.take_append_drop]
  rw [e1, pm_skip, pm_leave]
  · intro d hd
    rw [List.head?_drop] at hd
    obtain ⟨h1, rfl⟩ := List.getElem?_eq_some_iff.1 hd
    exact hstop h1
  · intro d hd
    obtain ⟨x, hx, rfl⟩ := List.getElem_of_mem hd
    simp at hx
    rw [List.getElem_take, List.getElem_drop]
    exact hsp _ (by omega) (by omega) (by omega)

theorem pm_chars (a r : List UInt8) (ha : ∀ c ∈ a, c.toNat ≠ 92 ∧ c.toNat ≠ 42 ∧ c.toNat ≠ 96 ∧ isSp c = false) : pm (a ++ r) 0 [] s b out = pm r 0 [] s (b ++ a) out := by
  induction a generalizing b with
  | nil => simp
  | cons c a ih =>
    obtain ⟨h1, h2, h3, h4⟩ := ha c (by simp)
    rw [List.cons_append, pm_char _ _ _ _ _ h1 h2 h3 h4, ih _ (fun x hx => ha x (by simp [hx]))]
    simp
theorem pm_lay (r : List UInt8) (hb : b ≠ []) (hr : ∀ c, r.head? = some c → isSp c = true) : pm r 0 [] s b out = pm r 0 [] s [] (out ++ [⟨0, s, b⟩]) := by
  cases r with
  | nil => simp [pm, flushB, hb]
  | cons c r =>
    have hc := hr c rfl
    rw [pm_sp _ _ _ _ _ hc, pm_sp _ _ _ _ _ hc]
    simp [flushB, hb]
theorem pm_word_at (j : Nat) (hi : i < j) (hj : j ≤ l.length) (hw : ∀ x (hx : x < l.length), i ≤ x → x < j → isSp l[x] = false) (hno : ∀ c ∈ l, c.toNat ≠ 92 ∧ c.toNat ≠ 42 ∧ c.toNat ≠ 96) (hstop : ∀ h : j < l.length, isSp l[j] = true) :
    pm (l.drop i) 0 [] s [] out = pm (l.drop j) 0 [] s [] (out ++ [⟨0, s, (l.drop i).take (j - i)⟩]) := by
  have e1 : l.drop i = (l.drop i).take (j - i) ++ l.drop j := by
    have : l.drop j = (l.drop i).drop (j - i) := by rw [List.drop_drop]; congr 1; omega
    rw [this, List.take_append_drop]
  have hne : (l.drop i).take (j - i) ≠ [] := by
    intro e
    have := congrArg List.length e
    simp at this
    omega
  have hall : ∀ c ∈ (l.drop i).take (j - i), c.toNat ≠ 92 ∧ c.toNat ≠ 42 ∧ c.toNat ≠ 96 ∧ isSp c = false := by
    intro c hc
    obtain ⟨x, hx, rfl⟩ := List.getElem_of_mem hc
    simp at hx
    rw [List.getElem_take, List.getElem_drop]
    have h1 := hno l[i + x] (List.getElem_mem _)
    exact ⟨h1.1, h1.2.1, h1.2.2, hw _ (by omega) (by omega) (by omega)⟩
  have e2 := pm_chars s [] out ((l.drop i).take (j - i)) (l.drop j) hall
  rw [← e1, List.nil_append] at e2
  rw [e2]
  refine pm_lay s _ out _ hne ?_
  intro d hd
  rw [List.head?_drop] at hd
  obtain ⟨h1, rfl⟩ := List.getElem?_eq_some_iff.1 hd
  exact hstop h1
end

/-- What every piece of a parsed text is like. -/
def PiOk (p : Inl) : Prop := (p.kind = 0 ∧ p.text ≠ []) ∨ (p.kind = 1 ∧ p.style = 0 ∧ p.text = [32]) ∨ p.kind = 2
theorem flushB_ok (out : List Inl) (s : Int) (b : List UInt8) (h : ∀ p ∈ out, PiOk p) : ∀ p ∈ flushB out s b, PiOk p := by
  unfold flushB
  split
  · exact h
  · rename_i hb
    intro p hp
    rcases List.mem_append.1 hp with hp | hp
    · exact h p hp
    · simp at hp; subst hp; exact .inl ⟨rfl, hb⟩
theorem snoc_ok (out : List Inl) (x : Inl) (h : ∀ p ∈ out, PiOk p) (hx : PiOk x) : ∀ p ∈ out ++ [x], PiOk p := by
  intro p hp
  rcases List.mem_append.1 hp with hp | hp
  · exact h p hp
  · simp at hp; subst hp; exact hx
theorem pm_ok (l : List UInt8) (m : Nat) (ca : List UInt8) (s : Int) (b : List UInt8) (out : List Inl) (h : ∀ p ∈ out, PiOk p) : ∀ p ∈ pm l m ca s b out, PiOk p := by
  induction l generalizing m ca s b out with
  | nil => exact flushB_ok out s b h
  | cons c r ih =>
    rw [pm]
    by_cases h2 : m = 2
    · rw [if_pos h2]
      by_cases hc : c.toNat = 96
      · rw [if_pos hc]; exact ih _ _ _ _ _ (snoc_ok _ _ h (.inr (.inr rfl)))
      · rw [if_neg hc]; exact ih _ _ _ _ _ h
    · rw [if_neg h2]
      by_cases h3 : m = 3
      · rw [if_pos h3]; exact ih _ _ _ _ _ h
      · rw [if_neg h3]
        by_cases h4 : m = 1 ∧ isSp c = true
        · rw [if_pos h4]; exact ih _ _ _ _ _ h
        · rw [if_neg h4]
          by_cases h5 : c.toNat = 92
          · rw [if_pos h5]; split <;> exact ih _ _ _ _ _ h
          · rw [if_neg h5]
            by_cases h6 : c.toNat = 42
            · rw [if_pos h6]; exact ih _ _ _ _ _ (flushB_ok _ _ _ h)
            · rw [if_neg h6]
              by_cases h7 : c.toNat = 96
              · rw [if_pos h7]
                split
                · exact ih _ _ _ _ _ (flushB_ok _ _ _ h)
                · exact ih _ _ _ _ _ h
              · rw [if_neg h7]
                split
                · exact ih _ _ _ _ _ (snoc_ok _ _ (flushB_ok _ _ _ h) (.inr (.inl ⟨rfl, rfl, rfl⟩)))
                · exact ih _ _ _ _ _ h
theorem pinl_ok (l : List UInt8) : ∀ p ∈ pinl l, PiOk p := pm_ok l 0 [] 0 [] [] (by simp)
theorem hasB_false (c : UInt8) (l : List UInt8) (h : hasB c l = false) : ∀ d ∈ l, d.toNat ≠ c.toNat := by
  intro d hd e
  rw [hasB_mem c l d hd e] at h
  cases h

/-! ### Sizes -/
theorem flushB_tlen (out : List Inl) (s : Int) (b : List UInt8) : (flushB out s b).length + tlen (flushB out s b) ≤ out.length + tlen out + 2 * b.length := by
  unfold flushB
  split
  · omega
  · rename_i hb
    have : 0 < b.length := by cases b with | nil => exact absurd rfl hb | cons _ _ => simp
    rw [tlen_append]; simp [tlen]; omega
theorem pm_size (l : List UInt8) (m : Nat) (ca : List UInt8) (s : Int) (b : List UInt8) (out : List Inl) : (pm l m ca s b out).length + tlen (pm l m ca s b out) ≤ out.length + tlen out + 2 * b.length + (ca.length + 1) + 3 * l.length := by
  induction l generalizing m ca s b out with
  | nil => have := flushB_tlen out s b; simp only [pm, List.length_nil]; omega
  | cons c r ih =>
    have hf := flushB_tlen out s b
    rw [pm]
    simp only [List.length_cons]
    by_cases h2 : m = 2
    · rw [if_pos h2]
      by_cases hc : c.toNat = 96
      · rw [if_pos hc]
        have := ih 0 [] s [] (out ++ [⟨2, s, ca⟩])
        rw [tlen_append] at this
        simp [tlen] at this
        omega
      · rw [if_neg hc]
        have := ih 2 (ca ++ [c]) s b out
        simp at this
        omega
    · rw [if_neg h2]
      by_cases h3 : m = 3
      · rw [if_pos h3]; have := ih 0 [] s (b ++ [c]) out; simp at this; omega
      · rw [if_neg h3]
        by_cases h4 : m = 1 ∧ isSp c = true
        · rw [if_pos h4]; have := ih 1 [] s b out; simp at this; omega
        · rw [if_neg h4]
          by_cases h5 : c.toNat = 92
          · rw [if_pos h5]
            split
            · have := ih 0 [] s (b ++ [92]) out; simp at this; omega
            · have := ih 3 [] s b out; simp at this; omega
          · rw [if_neg h5]
            by_cases h6 : c.toNat = 42
            · rw [if_pos h6]; have := ih 0 [] (1 - s) [] (flushB out s b); simp at this; omega
            · rw [if_neg h6]
              by_cases h7 : c.toNat = 96
              · rw [if_pos h7]
                split
                · have := ih 2 [] s [] (flushB out s b); simp at this; omega
                · have := ih 0 [] s (b ++ [96]) out; simp at this; omega
              · rw [if_neg h7]
                split
                · have := ih 1 [] s [] (flushB out s b ++ [⟨1, 0, [32]⟩])
                  rw [tlen_append] at this
                  simp [tlen] at this
                  omega
                · have := ih 0 [] s (b ++ [c]) out; simp at this; omega
theorem pinl_size (l : List UInt8) : (pinl l).length + tlen (pinl l) ≤ 3 * l.length + 1 := by
  have := pm_size l 0 [] 0 [] []
  simp [tlen] at this
  unfold pinl
  omega
end Go.Proofs.Ybuaaw
