/-
  A slice of structs among the arguments, opened.
-/
import Derived.Test.YbuaawMem
import Derived.Deep.Slices
import Derived.Deep.Strs
import Derived.OpenShut
import Derived.SizedLaws
namespace Go.Proofs.Ybuaaw
open Go.RowKit Go.Deep

theorem Yaac.cells3 : Yaac.prog.cellsOf 3 = 1 := by kernel_rfl
theorem Yaac.cells9 : Yaac.prog.cellsOf 9 = 1 := by kernel_rfl
theorem Yaac.cells39 : Yaac.prog.cellsOf 39 = 3 := by kernel_rfl
theorem Yaac.cells44 : Yaac.prog.cellsOf 44 = 3 := by kernel_rfl
theorem Yaac.cells51 : Yaac.prog.cellsOf 51 = 4 := by kernel_rfl

section
variable {H : Type} {enc : TypeId × Value → H} {W : World}

theorem weightsAll_mem (P : Program) (e : TypeId) (l : List (DataW H)) (d : DataW H) (hd : d ∈ l) : ∀ n ∈ d.weights P e, n ∈ DataW.weightsAll P e l := by
  induction l with
  | nil => cases hd
  | cons x l ih =>
    intro n hn
    simp only [DataW.weightsAll, List.mem_append]
    rcases List.mem_cons.1 hd with h | h
    · subst h; exact .inl hn
    · exact .inr (ih h n hn)

theorem open_elems {α : Type} (T : ET α) (F : α → Nat) (hcells : Yaac.prog.cellsOf T.e = T.size)
    (hel : ∀ (n : Nat) (cs : List Value) (D : DataW H) (Pl : List MemPlace), DataW.trod enc Yaac.prog W 0 (fun _ => true) true n T.e cs = some (D, Pl) → ∃ x : α, cs = T.enc x ∧ F x ∈ D.weights Yaac.prog T.e)
    {ao : Option Addr} {len cap : Nat} {d : DataW H} {p : List MemPlace} (h : DataW.Trod enc Yaac.prog W 0 (fun _ => true) true T.t (.slice ao len cap) d p) :
    ∃ l : List α, Rdd W W.heap.size T (.slice ao len cap) l ∧ ∀ x ∈ l, F x ∈ d.weights Yaac.prog T.t := by
  obtain ⟨fuel, hf⟩ := h
  simp only [Value.cells] at hf
  rcases open_slice T.ht hf with ⟨hcs, hx⟩ | ⟨a, len', cap', m, n, D, Pl, hcs, _, hl, hm, hmm, hx, hcell⟩
  · simp at hcs
    obtain ⟨rfl, rfl, rfl⟩ := hcs
    exact ⟨[], Rdd.nil _ _ _, by simp⟩
  · simp only [List.cons.injEq, Value.slice.injEq, and_true] at hcs
    obtain ⟨rfl, rfl, rfl⟩ := hcs
    simp only [if_true] at hmm
    subst hmm
    simp only [Prod.mk.injEq] at hx
    obtain ⟨rfl, _⟩ := hx
    have hall : ∀ i, i < len → ∃ x : α, (∀ j, j < T.size → W.cell? ((a.add (i * T.size)).add j) = (T.enc x)[j]?) ∧ F x ∈ (D i).weights Yaac.prog T.e := by
      intro i hi
      obtain ⟨cs', h1, h2⟩ := hcell i (by omega)
      obtain ⟨x, rfl, hw⟩ := hel _ _ _ _ h2
      rw [hcells] at h1
      exact ⟨x, (World.cells?_some h1).2.2, hw⟩
    have key : ∀ k, k ≤ len → ∃ l : List α, l.length = k ∧ ∀ i (hi : i < l.length), (∀ j, j < T.size → W.cell? ((a.add (i * T.size)).add j) = (T.enc l[i])[j]?) ∧ F l[i] ∈ (D i).weights Yaac.prog T.e := by
      intro k
      induction k with
      | zero => intro _; exact ⟨[], rfl, fun i hi => by simp at hi⟩
      | succ k ih =>
        intro hk
        obtain ⟨l, hl1, hl2⟩ := ih (by omega)
        obtain ⟨x, hx1, hx2⟩ := hall k (by omega)
        refine ⟨l ++ [x], by simp [hl1], fun i hi => ?_⟩
        by_cases hik : i < l.length
        · rw [List.getElem_append_left hik]; exact hl2 i hik
        · have e : i = k := by simp at hi; omega
          subst e
          rw [List.getElem_append_right (by omega)]
          simp only [hl1, Nat.sub_self, List.getElem_cons_zero]
          exact ⟨hx1, hx2⟩
    obtain ⟨l, hl1, hl2⟩ := key len (Nat.le_refl _)
    refine ⟨l, ⟨cells_length T l, some a, _, by rw [hl1], by omega, hm, ?_⟩, ?_⟩
    · by_cases h0 : l = []
      · left; subst h0; rfl
      · right
        have hp : 0 < l.length := by cases l with | nil => exact absurd rfl h0 | cons _ _ => simp
        obtain ⟨b, off, spot⟩ := a
        have hspot : spot = none := by
          have h0 := (hl2 0 hp).1 0 T.hsz
          have h1 : (T.enc l[0])[0]? = some ((T.enc l[0])[0]'(by rw [T.len]; exact T.hsz)) := List.getElem?_eq_getElem _
          rw [h1] at h0
          simpa [Addr.add] using World.cell?_spot h0
        subst hspot
        have hc : ∀ j u, (cells T l)[j]? = some u → W.cell? ⟨b, off + j, none⟩ = some u := by
          intro j u hu
          have hj : j < l.length * T.size := by
            rcases Nat.lt_or_ge j (cells T l).length with h | h
            · rw [cells_length] at h; exact h
            · rw [List.getElem?_eq_none h] at hu; cases hu
          have hs := T.hsz
          have hq : j / T.size < l.length := (Nat.div_lt_iff_lt_mul hs).2 hj
          have hr : j % T.size < T.size := Nat.mod_lt _ hs
          have e1 : j = (j / T.size) * T.size + j % T.size := by rw [Nat.mul_comm]; exact (Nat.div_add_mod j T.size).symm
          have e2 := (hl2 (j / T.size) hq).1 (j % T.size) hr
          rw [add_lit, add_lit, Nat.add_assoc, ← e1] at e2
          rw [e2, ← cells_get T l _ _ hq hr, ← e1, hu]
        refine ⟨b, off, rfl, ?_, hc⟩
        have hpos : 0 < (cells T l).length := by rw [cells_length]; exact Nat.mul_pos hp T.hsz
        exact World.block_lt_of_cell? W ⟨b, off + 0, none⟩ (hc 0 _ (List.getElem?_eq_getElem hpos))
    · intro x hx
      obtain ⟨i, hi, rfl⟩ := List.getElem_of_mem hx
      simp only [DataW.weights, T.ht]
      refine List.mem_cons_of_mem _ (List.mem_append.2 (.inl (weightsAll_mem _ _ _ (D i) ?_ _ (hl2 i hi).2)))
      exact List.mem_map.2 ⟨i, by simp; omega, rfl⟩

theorem elem_inl (n : Nat) (cs : List Value) (D : DataW H) (Pl : List MemPlace) (h : DataW.trod enc Yaac.prog W 0 (fun _ => true) true n 44 cs = some (D, Pl)) : ∃ x : Inl, cs = tInl.enc x ∧ x.text.length ∈ D.weights Yaac.prog 44 := by
  obtain ⟨y0, y1, y2, m, hx, hlen, h0, h1, h2⟩ := trod_struct3 Yaac.underlying44 h
  rw [Yaac.cells44] at hlen
  obtain ⟨a, e0, ey0, _⟩ := DataW.trod_int Yaac.underlying3 h0
  obtain ⟨b, e1, ey1, _⟩ := DataW.trod_int Yaac.underlying3 h1
  obtain ⟨s, e2, ey2, _⟩ := DataW.trod_string Yaac.underlying9 h2
  simp only [Yaac.cells3, Yaac.cells9] at e0 e1 e2
  match cs, hlen with
  | [c0, c1, c2], _ =>
    simp at e0 e1 e2
    subst e0 e1 e2
    simp only [Prod.mk.injEq] at hx
    obtain ⟨rfl, _⟩ := hx
    refine ⟨⟨a, b, s.toList⟩, by simp [tInl, mk_of], ?_⟩
    simp [DataW.weights, DataW.weightsEach, Yaac.underlying44, ey0, ey1, ey2, ByteArray.toList_eq]

theorem elem_blk (n : Nat) (cs : List Value) (D : DataW H) (Pl : List MemPlace) (h : DataW.trod enc Yaac.prog W 0 (fun _ => true) true n 39 cs = some (D, Pl)) : ∃ x : Blk, cs = tBlk.enc x ∧ x.text.length ∈ D.weights Yaac.prog 39 := by
  obtain ⟨y0, y1, y2, m, hx, hlen, h0, h1, h2⟩ := trod_struct3 Yaac.underlying39 h
  rw [Yaac.cells39] at hlen
  obtain ⟨a, e0, ey0, _⟩ := DataW.trod_int Yaac.underlying3 h0
  obtain ⟨b, e1, ey1, _⟩ := DataW.trod_int Yaac.underlying3 h1
  obtain ⟨s, e2, ey2, _⟩ := DataW.trod_string Yaac.underlying9 h2
  simp only [Yaac.cells3, Yaac.cells9] at e0 e1 e2
  match cs, hlen with
  | [c0, c1, c2], _ =>
    simp at e0 e1 e2
    subst e0 e1 e2
    simp only [Prod.mk.injEq] at hx
    obtain ⟨rfl, _⟩ := hx
    refine ⟨⟨a, b, s.toList⟩, by simp [tBlk, mk_of], ?_⟩
    simp [DataW.weights, DataW.weightsEach, Yaac.underlying39, ey0, ey1, ey2, ByteArray.toList_eq]

theorem trod_struct4 {P : Program} {base : Nat} {spare : Nat → Bool} {held : Bool} {t : TypeId} {f0 f1 f2 f3 : Field} {fuel : Nat} {cs : List Value} {x : DataW H × List MemPlace} (ht : P.underlying t = some (.struct #[f0, f1, f2, f3])) (h : DataW.trod enc P W base spare held fuel t cs = some x) :
    ∃ y0 y1 y2 y3 n, x = (.agg [y0.1, y1.1, y2.1, y3.1], y0.2 ++ (y1.2 ++ (y2.2 ++ y3.2))) ∧ cs.length = P.cellsOf t ∧ DataW.trod enc P W base spare held n f0.type ((cs.drop f0.offset).take (P.cellsOf f0.type)) = some y0 ∧
      DataW.trod enc P W base spare held n f1.type ((cs.drop f1.offset).take (P.cellsOf f1.type)) = some y1 ∧ DataW.trod enc P W base spare held n f2.type ((cs.drop f2.offset).take (P.cellsOf f2.type)) = some y2 ∧
      DataW.trod enc P W base spare held n f3.type ((cs.drop f3.offset).take (P.cellsOf f3.type)) = some y3 := by
  obtain ⟨xs, n, _, rfl, hl, hlen, hf⟩ := DataW.trod_struct ht h
  match xs, hlen with
  | [y0, y1, y2, y3], _ => exact ⟨y0, y1, y2, y3, n, by simp, hl, by simpa using hf 0 f0 rfl, by simpa using hf 1 f1 rfl, by simpa using hf 2 f2 rfl, by simpa using hf 3 f3 rfl⟩

theorem elem_frg (n : Nat) (cs : List Value) (D : DataW H) (Pl : List MemPlace) (h : DataW.trod enc Yaac.prog W 0 (fun _ => true) true n 51 cs = some (D, Pl)) : ∃ x : Frg, cs = tFrg.enc x ∧ x.text.length ∈ D.weights Yaac.prog 51 := by
  obtain ⟨y0, y1, y2, y3, m, hx, hlen, h0, h1, h2, h3⟩ := trod_struct4 Yaac.underlying51 h
  rw [Yaac.cells51] at hlen
  obtain ⟨a, e0, ey0, _⟩ := DataW.trod_int Yaac.underlying3 h0
  obtain ⟨b, e1, ey1, _⟩ := DataW.trod_int Yaac.underlying3 h1
  obtain ⟨c, e2, ey2, _⟩ := DataW.trod_int Yaac.underlying3 h2
  obtain ⟨s, e3, ey3, _⟩ := DataW.trod_string Yaac.underlying9 h3
  simp only [Yaac.cells3, Yaac.cells9] at e0 e1 e2 e3
  match cs, hlen with
  | [c0, c1, c2, c3], _ =>
    simp at e0 e1 e2 e3
    subst e0 e1 e2 e3
    simp only [Prod.mk.injEq] at hx
    obtain ⟨rfl, _⟩ := hx
    refine ⟨⟨a, b, c, s.toList⟩, by simp [tFrg, mk_of], ?_⟩
    simp [DataW.weights, DataW.weightsEach, Yaac.underlying51, ey0, ey1, ey2, ey3, ByteArray.toList_eq]
end
end Go.Proofs.Ybuaaw
