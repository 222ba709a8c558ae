/-
  Plain functions on lists of bytes: no Go in sight.
-/
namespace Go.Proofs.Ybuaaw

structure Inl where
  kind : Int
  style : Int
  text : List UInt8
structure Frg where
  brk : Int
  kind : Int
  style : Int
  text : List UInt8
structure Blk where
  kind : Int
  level : Int
  text : List UInt8

/-- The lines of what is left, the line so far being 'cur'. -/
def splitGo : List UInt8 → List UInt8 → List (List UInt8) → List (List UInt8)
  | [], cur, acc => if cur = [] then acc else acc ++ [cur]
  | c :: l, cur, acc => if c.toNat = 10 then splitGo l [] (acc ++ [cur]) else splitGo l (cur ++ [c]) acc
def split (l : List UInt8) : List (List UInt8) := splitGo l [] []

/-- Every part between line ends. -/
def cutGo : List UInt8 → List UInt8 → List (List UInt8) → List (List UInt8)
  | [], cur, acc => acc ++ [cur]
  | c :: l, cur, acc => if c.toNat = 10 then cutGo l [] (acc ++ [cur]) else cutGo l (cur ++ [c]) acc
def cut (l : List UInt8) : List (List UInt8) := cutGo l [] []

theorem take_drop_snoc {α : Type} (l : List α) (s k : Nat) (hk : k < l.length) (hs : s ≤ k) : (l.drop s).take (k + 1 - s) = (l.drop s).take (k - s) ++ [l[k]] := by
  have e : k + 1 - s = (k - s) + 1 := by omega
  rw [e, List.take_succ_eq_append_getElem (by simp; omega)]
  simp only [List.getElem_drop]
  congr 3
  omega

theorem splitGo_at (l : List UInt8) (s k : Nat) (acc : List (List UInt8)) (hk : k < l.length) (hs : s ≤ k) :
    splitGo (l.drop k) ((l.drop s).take (k - s)) acc = if l[k].toNat = 10 then splitGo (l.drop (k + 1)) ((l.drop (k + 1)).take (k + 1 - (k + 1))) (acc ++ [(l.drop s).take (k - s)]) else splitGo (l.drop (k + 1)) ((l.drop s).take (k + 1 - s)) acc := by
  rw [List.drop_eq_getElem_cons hk, splitGo, take_drop_snoc l s k hk hs]
  simp

theorem cutGo_at (l : List UInt8) (s k : Nat) (acc : List (List UInt8)) (hk : k < l.length) (hs : s ≤ k) :
    cutGo (l.drop k) ((l.drop s).take (k - s)) acc = if l[k].toNat = 10 then cutGo (l.drop (k + 1)) ((l.drop (k + 1)).take (k + 1 - (k + 1))) (acc ++ [(l.drop s).take (k - s)]) else cutGo (l.drop (k + 1)) ((l.drop s).take (k + 1 - s)) acc := by
  rw [List.drop_eq_getElem_cons hk, cutGo, take_drop_snoc l s k hk hs]
  simp

theorem splitGo_end (l : List UInt8) (s k : Nat) (acc : List (List UInt8)) (hk : l.length ≤ k) (hs : s ≤ l.length) :
    splitGo (l.drop k) ((l.drop s).take (k - s)) acc = if s < l.length then acc ++ [l.drop s] else acc := by
  rw [List.drop_of_length_le hk, splitGo, List.take_of_length_le (by simp; omega)]
  by_cases h : s < l.length
  · rw [if_pos h, if_neg]
    intro e
    have := congrArg List.length e
    simp at this
    omega
  · rw [if_neg h, if_pos (List.drop_of_length_le (by omega))]

theorem cutGo_end (l : List UInt8) (s k : Nat) (acc : List (List UInt8)) (hk : l.length ≤ k) :
    cutGo (l.drop k) ((l.drop s).take (k - s)) acc = acc ++ [l.drop s] := by
  rw [List.drop_of_length_le hk, cutGo, List.take_of_length_le (by simp; omega)]

/-- The reference's lines. -/
def splitS (l : List UInt8) : List (List UInt8) :=
  if h : l.length = 0 then [] else if (l[l.length - 1]'(by omega)).toNat = 10 then (cut l).take ((cut l).length - 1) else cut l

/-- The parts joined. -/
def joinGo (sep : List UInt8) : List (List UInt8) → Nat → List UInt8 → List UInt8
  | [], _, acc => acc
  | p :: ps, i, acc => joinGo sep ps (i + 1) ((if i = 0 then acc else acc ++ sep) ++ p)
def join (sep : List UInt8) (ps : List (List UInt8)) : List UInt8 := joinGo sep ps 0 []
theorem joinGo_ge (sep : List UInt8) (ps : List (List UInt8)) (i : Nat) (acc : List UInt8) : acc.length ≤ (joinGo sep ps i acc).length := by
  induction ps generalizing i acc with
  | nil => exact Nat.le_refl _
  | cons p ps ih =>
    refine Nat.le_trans ?_ (ih _ _)
    split <;> simp <;> omega
theorem joinGo_at (sep : List UInt8) (ps : List (List UInt8)) (k : Nat) (acc : List UInt8) (hk : k < ps.length) :
    joinGo sep (ps.drop k) k acc = joinGo sep (ps.drop (k + 1)) (k + 1) ((if k = 0 then acc else acc ++ sep) ++ ps[k]) := by
  rw [List.drop_eq_getElem_cons hk, joinGo]

theorem cutGo_len (l cur : List UInt8) (acc : List (List UInt8)) : (cutGo l cur acc).length ≤ acc.length + l.length + 1 ∧ acc.length < (cutGo l cur acc).length := by
  induction l generalizing cur acc with
  | nil => simp [cutGo]
  | cons c l ih =>
    simp only [cutGo]
    split
    · have := ih [] (acc ++ [cur]); simp at this ⊢; omega
    · have := ih (cur ++ [c]) acc; simp at this ⊢; omega
/-- Does what is left end in a line end; if nothing is left: is the line so far empty. -/
def endsLF (l cur : List UInt8) : Bool := match l.getLast? with
  | none => cur.isEmpty
  | some c => c.toNat == 10
theorem endsLF_nil (cur : List UInt8) : endsLF [] cur = cur.isEmpty := rfl
theorem endsLF_one (c : UInt8) (cur : List UInt8) : endsLF [c] cur = (c.toNat == 10) := rfl
theorem endsLF_cons (c d : UInt8) (l cur cur' : List UInt8) : endsLF (c :: d :: l) cur = endsLF (d :: l) cur' := by
  unfold endsLF
  rw [List.getLast?_cons_cons]
  have : (d :: l).getLast? = some ((d :: l).getLast (by simp)) := List.getLast?_eq_some_getLast (by simp)
  rw [this]
theorem endsLF_last (l cur : List UInt8) (h : 0 < l.length) : endsLF l cur = (l[l.length - 1].toNat == 10) := by
  unfold endsLF
  rw [List.getLast?_eq_getElem?, List.getElem?_eq_getElem (by omega)]

/-- One step of the line end's law. -/
theorem endsLF_step (c : UInt8) (l cur : List UInt8) : endsLF (c :: l) cur = if c.toNat = 10 then endsLF l [] else endsLF l (cur ++ [c]) := by
  cases l with
  | nil =>
    rw [endsLF_one, endsLF_nil, endsLF_nil]
    by_cases h : c.toNat = 10
    · simp [h]
    · rw [if_neg h, beq_eq_false_iff_ne.2 h]; simp
  | cons d l =>
    by_cases h : c.toNat = 10
    · rw [if_pos h, endsLF_cons c d l cur []]
    · rw [if_neg h, endsLF_cons c d l cur (cur ++ [c])]

theorem splitGo_cut (l cur : List UInt8) (acc : List (List UInt8)) : splitGo l cur acc = if endsLF l cur = true then (cutGo l cur acc).take ((cutGo l cur acc).length - 1) else cutGo l cur acc := by
  induction l generalizing cur acc with
  | nil =>
    rw [endsLF_nil, splitGo, cutGo]
    by_cases h : cur = []
    · subst h; simp
    · rw [if_neg h, if_neg (by simpa using h)]
  | cons c l ih =>
    rw [endsLF_step, splitGo, cutGo]
    by_cases h : c.toNat = 10
    · simp only [if_pos h]; exact ih _ _
    · simp only [if_neg h]; exact ih _ _

theorem split_eq (l : List UInt8) : splitS l = split l := by
  unfold splitS split
  rw [splitGo_cut]
  by_cases h : l.length = 0
  · have e0 : l = [] := List.eq_nil_of_length_eq_zero h
    subst e0
    rfl
  · rw [dif_neg h, endsLF_last l [] (by omega)]
    simp [cut]

theorem splitGo_len (l cur : List UInt8) (acc : List (List UInt8)) : (splitGo l cur acc).length = acc.length + l.countP (fun c => c.toNat == 10) + (if endsLF l cur = true then 0 else 1) := by
  induction l generalizing cur acc with
  | nil =>
    rw [endsLF_nil, splitGo]
    by_cases h : cur = []
    · subst h; simp
    · rw [if_neg h, if_neg (by simpa using h)]; simp
  | cons c l ih =>
    rw [endsLF_step, splitGo, List.countP_cons]
    by_cases h : c.toNat = 10
    · rw [if_pos h, if_pos h, ih]; simp [h]; omega
    · rw [if_neg h, if_neg h, ih]; simp [h]

theorem splitGo_no (l cur : List UInt8) (acc : List (List UInt8)) (h1 : ∀ c ∈ cur, c.toNat ≠ 10) (h2 : ∀ s ∈ acc, ∀ c ∈ s, c.toNat ≠ 10) : ∀ s ∈ splitGo l cur acc, ∀ c ∈ s, c.toNat ≠ 10 := by
  induction l generalizing cur acc with
  | nil =>
    rw [splitGo]
    split
    · exact h2
    · intro s hs
      rcases List.mem_append.1 hs with hs | hs
      · exact h2 s hs
      · simp at hs; subst hs; exact h1
  | cons c l ih =>
    rw [splitGo]
    by_cases h : c.toNat = 10
    · rw [if_pos h]
      refine ih _ _ (by simp) ?_
      intro s hs
      rcases List.mem_append.1 hs with hs | hs
      · exact h2 s hs
      · simp at hs; subst hs; exact h1
    · rw [if_neg h]
      refine ih _ _ ?_ h2
      intro d hd
      rcases List.mem_append.1 hd with hd | hd
      · exact h1 d hd
      · simp at hd; subst hd; exact h

theorem joinGo_snoc (sep : List UInt8) (ps : List (List UInt8)) (p : List UInt8) (i : Nat) (acc : List UInt8) :
    joinGo sep (ps ++ [p]) i acc = (if i + ps.length = 0 then joinGo sep ps i acc else joinGo sep ps i acc ++ sep) ++ p := by
  induction ps generalizing i acc with
  | nil => simp [joinGo]
  | cons q ps ih =>
    rw [List.cons_append, joinGo, ih, joinGo]
    have e1 : ¬ (i + 1 + ps.length = 0) := by omega
    have e2 : ¬ (i + (q :: ps).length = 0) := by simp
    rw [if_neg e1, if_neg e2]

/-- The parts so far, joined, and the separator ahead of the next. -/
def joinB (sep : List UInt8) (ps : List (List UInt8)) : List UInt8 := if ps = [] then [] else join sep ps ++ sep
theorem join_snoc (sep : List UInt8) (ps : List (List UInt8)) (p : List UInt8) : join sep (ps ++ [p]) = joinB sep ps ++ p := by
  unfold join joinB
  rw [joinGo_snoc]
  by_cases h : ps = []
  · subst h; simp [joinGo]
  · have h' : ¬ (0 + ps.length = 0) := by simpa using h
    rw [if_neg h', if_neg h]; rfl
theorem joinB_snoc (sep : List UInt8) (ps : List (List UInt8)) (p : List UInt8) : joinB sep (ps ++ [p]) = joinB sep ps ++ p ++ sep := by
  rw [joinB, if_neg (by simp), join_snoc]

theorem splitGo_join (l cur : List UInt8) (acc : List (List UInt8)) : (if endsLF l cur = true then joinB [10] (splitGo l cur acc) else join [10] (splitGo l cur acc)) = joinB [10] acc ++ cur ++ l := by
  induction l generalizing cur acc with
  | nil =>
    rw [endsLF_nil, splitGo]
    by_cases h : cur = []
    · subst h; simp
    · rw [if_neg h, if_neg (by simpa using h), join_snoc]; simp
  | cons c l ih =>
    rw [endsLF_step, splitGo]
    by_cases h : c.toNat = 10
    · simp only [if_pos h]
      rw [ih, joinB_snoc]
      have : c = 10 := UInt8.toNat_inj.1 (by simpa using h)
      subst this
      simp
    · simp only [if_neg h]
      rw [ih]
      simp

/-- What the law says of the lines joined again. -/
theorem split_back (l : List UInt8) (h : 0 < l.length) : (if l[l.length - 1].toNat = 10 then join [10] (split l) ++ [10] else join [10] (split l)) = l := by
  have e := splitGo_join l [] []
  have e1 := splitGo_len l [] []
  rw [endsLF_last l [] h] at e e1
  simp only [List.append_nil, joinB, if_true, List.nil_append] at e
  by_cases hc : l[l.length - 1].toNat = 10
  · rw [if_pos (by simpa using hc), if_neg] at e
    · rw [if_pos hc]; exact e
    · intro e2
      have hm : l[l.length - 1] ∈ l := List.getElem_mem _
      have : 0 < l.countP (fun c => c.toNat == 10) := List.countP_pos_iff.2 ⟨_, hm, by simpa using hc⟩
      have e3 := congrArg List.length e2
      rw [e1, List.length_nil] at e3
      omega
  · rw [if_neg (by simpa using hc)] at e
    rw [if_neg hc]; exact e
theorem split_count (l : List UInt8) (h : 0 < l.length) : (split l).length = l.countP (fun c => c.toNat == 10) + (if l[l.length - 1].toNat = 10 then 0 else 1) := by
  have e1 := splitGo_len l [] []
  rw [endsLF_last l [] h] at e1
  simpa [split] using e1
theorem split_no (l : List UInt8) : ∀ s ∈ split l, ∀ c ∈ s, c.toNat ≠ 10 := splitGo_no l [] [] (by simp) (by simp)
theorem splitGo_mem (l cur : List UInt8) (acc : List (List UInt8)) : ∀ s ∈ splitGo l cur acc, s ∈ acc ∨ s.length ≤ cur.length + l.length := by
  induction l generalizing cur acc with
  | nil =>
    rw [splitGo]
    split
    · intro s hs; exact .inl hs
    · intro s hs
      rcases List.mem_append.1 hs with hs | hs
      · exact .inl hs
      · simp at hs; subst hs; right; simp
  | cons c l ih =>
    rw [splitGo]
    by_cases h : c.toNat = 10
    · rw [if_pos h]
      intro s hs
      rcases ih _ _ s hs with h1 | h1
      · rcases List.mem_append.1 h1 with h1 | h1
        · exact .inl h1
        · simp at h1; subst h1; right; simp
      · right; simp at h1 ⊢; omega
    · rw [if_neg h]
      intro s hs
      rcases ih _ _ s hs with h1 | h1
      · exact .inl h1
      · right; simp at h1 ⊢; omega
theorem split_mem (l : List UInt8) (k : Nat) (hk : k < (split l).length) : (split l)[k].length ≤ l.length := by
  rcases splitGo_mem l [] [] _ (List.getElem_mem hk) with h | h
  · cases h
  · simpa [split] using h
theorem split_nil : split [] = [] := rfl
theorem split_len (l : List UInt8) : (split l).length ≤ l.length + 1 := by
  have e1 := splitGo_len l [] []
  have := List.countP_le_length (p := fun c : UInt8 => c.toNat == 10) (l := l)
  simp only [split]
  split at e1 <;> simp at e1 ⊢ <;> omega

theorem cut_len (l : List UInt8) : (cut l).length ≤ l.length + 1 ∧ 0 < (cut l).length := by
  have := cutGo_len l [] []
  simpa [cut] using this

def isSp (c : UInt8) : Bool := decide (c.toNat = 32 ∨ c.toNat = 9 ∨ c.toNat = 13 ∨ c.toNat = 10)

/-- Does the byte occur. -/
def hasB (c : UInt8) : List UInt8 → Bool
  | [] => false
  | d :: l => if d.toNat = c.toNat then true else hasB c l

theorem hasB_at (c : UInt8) (l : List UInt8) (k : Nat) (h : k < l.length) : hasB c (l.drop k) = if l[k].toNat = c.toNat then true else hasB c (l.drop (k + 1)) := by
  rw [List.drop_eq_getElem_cons h, hasB]
theorem hasB_end (c : UInt8) (l : List UInt8) (k : Nat) (h : l.length ≤ k) : hasB c (l.drop k) = false := by
  rw [List.drop_of_length_le h, hasB]

/-- How many line ends. -/
def cntLF : List UInt8 → Nat
  | [] => 0
  | d :: l => if d.toNat = 10 then cntLF l + 1 else cntLF l
theorem cntLF_at (l : List UInt8) (k : Nat) (h : k < l.length) : cntLF (l.drop k) = if l[k].toNat = 10 then cntLF (l.drop (k + 1)) + 1 else cntLF (l.drop (k + 1)) := by
  rw [List.drop_eq_getElem_cons h, cntLF]
theorem cntLF_le (l : List UInt8) : cntLF l ≤ l.length := by
  induction l with
  | nil => simp [cntLF]
  | cons d l ih => simp only [cntLF, List.length_cons]; split <;> omega

theorem hasB_no (c : UInt8) (l : List UInt8) (h : ∀ d ∈ l, d.toNat ≠ c.toNat) : hasB c l = false := by
  induction l with
  | nil => rfl
  | cons d l ih => rw [hasB, if_neg (h d (by simp)), ih (fun e he => h e (by simp [he]))]
theorem cntLF_eq (l : List UInt8) : cntLF l = l.countP (fun c => c.toNat == 10) := by
  induction l with
  | nil => rfl
  | cons d l ih =>
    rw [cntLF, List.countP_cons, ih]
    by_cases h : d.toNat = 10 <;> simp [h]
end Go.Proofs.Ybuaaw
