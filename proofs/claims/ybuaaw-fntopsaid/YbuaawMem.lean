import Derived.Test.YbuaawBase
import Derived.Test.YbuaawPlain1
import Derived.Lib.AppendStr
import Derived.Laws.OwnMore
namespace Go.Proofs.Ybuaaw
open Go.RowKit

/-! ### The element types' rows of the table -/
theorem info5 : (Yaac.prog.info? 5).map (fun i => (i.zero, i.size, i.bytes)) = some (some (.int .u8 0), 1, 1) := by kernel_rfl
theorem info9 : (Yaac.prog.info? 9).map (fun i => (i.zero, i.size, i.bytes)) = some (some (.string (ByteArray.mk #[])), 1, 16) := by kernel_rfl
theorem info3 : (Yaac.prog.info? 3).map (fun i => (i.zero, i.size, i.bytes)) = some (some (.int .i64 0), 1, 8) := by kernel_rfl
theorem info40 : (Yaac.prog.info? 40).map (fun i => (i.zero, i.size, i.bytes)) = some (some (.slice none 0 0), 1, 24) := by kernel_rfl
theorem info44 : (Yaac.prog.info? 44).map (fun i => (i.zero, i.size, i.bytes)) = some (some (.agg #[.int .i64 0, .int .i64 0, .string (ByteArray.mk #[])]), 3, 32) := by kernel_rfl
theorem info39 : (Yaac.prog.info? 39).map (fun i => (i.zero, i.size, i.bytes)) = some (some (.agg #[.int .i64 0, .int .i64 0, .string (ByteArray.mk #[])]), 3, 32) := by kernel_rfl
theorem info51 : (Yaac.prog.info? 51).map (fun i => (i.zero, i.size, i.bytes)) = some (some (.agg #[.int .i64 0, .int .i64 0, .int .i64 0, .string (ByteArray.mk #[])]), 4, 40) := by kernel_rfl

/-! ### Reading a slice: all its cells lie below block B -/
def Rd (w : World) (B : Nat) (size : Nat) (v : Value) (n : Nat) (xs : List Value) : Prop :=
  xs.length = n * size ∧ ∃ ao cap, v = .slice ao n cap ∧ n ≤ cap ∧ cap ≤ maxLen ∧ (xs = [] ∨ ∃ b off, ao = some ⟨b, off, none⟩ ∧ b < B ∧ ∀ j u, xs[j]? = some u → w.cell? ⟨b, off + j, none⟩ = some u)

theorem Rd.below {w w' : World} {B size n : Nat} {v : Value} {xs : List Value} (h : Rd w B size v n xs) (hb : Below B w w') : Rd w' B size v n xs := by
  obtain ⟨h1, ao, cap, rfl, h2, h3, h4⟩ := h
  refine ⟨h1, ao, cap, rfl, h2, h3, ?_⟩
  rcases h4 with h4 | ⟨b, off, h5, h6, h7⟩
  · exact .inl h4
  · exact .inr ⟨b, off, h5, h6, fun j u hu => (hb.cell (p := ⟨b, off + j, none⟩) h6).trans (h7 j u hu)⟩

theorem Rd.mono {w : World} {B B' size n : Nat} {v : Value} {xs : List Value} (h : Rd w B size v n xs) (hB : B ≤ B') : Rd w B' size v n xs := by
  obtain ⟨h1, ao, cap, rfl, h2, h3, h4⟩ := h
  refine ⟨h1, ao, cap, rfl, h2, h3, ?_⟩
  rcases h4 with h4 | ⟨b, off, h5, h6, h7⟩
  · exact .inl h4
  · exact .inr ⟨b, off, h5, by omega, h7⟩

theorem Rd.drew {w : World} {B size n : Nat} {v : Value} {xs : List Value} (h : Rd w B size v n xs) : Rd w.drew B size v n xs :=
  h.below ((Below.refl B w).drew)

theorem rd_of_owns {w : World} {B e size n : Nat} {v : Value} {xs : List Value} (h : w.ownsRow B e size v n xs) : Rd w w.heap.size size v n xs := by
  refine ⟨h.1, ?_⟩
  rcases h.2 with ⟨rfl, rfl⟩ | ⟨g, cap, cur, rfl, hb, hg, hn, hc, hs, ht⟩
  · exact ⟨none, 0, rfl, Nat.le_refl _, Nat.zero_le _, .inl (by simpa using h.1)⟩
  · refine ⟨some ⟨g, 0, none⟩, cap, rfl, hn, hc, .inr ⟨g, 0, rfl, (Array.getElem?_eq_some_iff.1 hg).1, ?_⟩⟩
    intro j u hu
    rw [Nat.zero_add, cell_of_row w g j cur e (0, 0) hg]
    rw [← ht, List.getElem?_take] at hu
    split at hu
    · simpa using hu
    · cases hu

theorem rd_nil (w : World) (B size : Nat) : Rd w B size (.slice none 0 0) 0 [] := ⟨by simp, none, 0, rfl, Nat.le_refl _, Nat.zero_le _, .inl rfl⟩

/-- The shape of an owned value. -/
theorem owns_shape {w : World} {B e size n : Nat} {v : Value} {xs : List Value} (h : w.ownsRow B e size v n xs) :
    ∃ ao cap, v = .slice ao n cap := by
  rcases h.2 with ⟨rfl, rfl⟩ | ⟨g, cap, cur, rfl, _⟩
  · exact ⟨_, _, rfl⟩
  · exact ⟨_, _, rfl⟩

theorem owns_base {w : World} {B B' e size n : Nat} {v : Value} {xs : List Value} (h : w.ownsRow B e size v n xs) (hB : B' ≤ B) : w.ownsRow B' e size v n xs := by
  refine ⟨h.1, ?_⟩
  rcases h.2 with h2 | ⟨g, cap, cur, rfl, h3, h4⟩
  · exact .inl h2
  · exact .inr ⟨g, cap, cur, rfl, Nat.le_trans hB h3, h4⟩

theorem owns_lt {w : World} {B e size n : Nat} {v : Value} {xs : List Value} (h : w.ownsRow B e size v n xs) {k : Nat} (hk : v.ownBlock = some k) : B ≤ k ∧ k < w.heap.size := h.lt k hk

theorem owns_ne {w : World} {B e B' e' size size' n n' : Nat} {v v' : Value} {xs xs' : List Value} (h : w.ownsRow B e size v n xs) (h' : w.ownsRow B' e' size' v' n' xs') (he : e ≠ e') : v.ownBlock = none ∨ v.ownBlock ≠ v'.ownBlock := by
  rcases h.2 with ⟨rfl, _⟩ | ⟨g, cap, cur, rfl, _, hg, _⟩
  · exact .inl rfl
  · right
    rcases h'.2 with ⟨rfl, _⟩ | ⟨g', cap', cur', rfl, _, hg', _⟩
    · simp [Value.ownBlock]
    · simp only [Value.ownBlock, ne_eq, Option.some.injEq]
      intro e1
      subst e1
      rw [hg] at hg'
      simp at hg'
      exact he hg'.2

theorem grown_trans {a b c : World} {r : Option Nat} (h : a.grownBy b r) (k : b.grownBy c r) : a.grownBy c r :=
  ⟨k.os.trans h.os, k.tape.trans h.tape, k.output.trans h.output, Nat.le_trans h.size k.size, fun i hi hr => (k.block i (Nat.lt_of_lt_of_le hi h.size) hr).trans (h.block i hi hr)⟩

theorem below_of_grown {B : Nat} {w w' : World} {r : Option Nat} (hg : w.grownBy w' r) (hB : B ≤ w.heap.size) (hr : ∀ k, r = some k → B ≤ k) : Below B w w' := (Below.refl B w).grown hg hB hr

/-- A callee that leaves all old blocks alone keeps whatever row there was. -/
theorem owns_below {w w' : World} {B e size n : Nat} {v : Value} {xs : List Value} (h : w.ownsRow B e size v n xs) (hb : Below w.heap.size w w') : w'.ownsRow B e size v n xs := by
  refine ⟨h.1, ?_⟩
  rcases h.2 with h2 | ⟨g, cap, cur, rfl, h3, h4, h5⟩
  · exact .inl h2
  · exact .inr ⟨g, cap, cur, rfl, h3, (hb.block g (Array.getElem?_eq_some_iff.1 h4).1).trans h4, h5⟩

theorem owns_drew {w : World} {B e size n : Nat} {v : Value} {xs : List Value} (h : w.ownsRow B e size v n xs) : w.drew.ownsRow B e size v n xs := h

/-! ### Element types -/
/-- How an element of a slice lies in cells. -/
structure ET (α : Type) where
  t : Nat
  e : Nat
  size : Nat
  bytes : Nat
  zero : Value
  enc : α → List Value
  len : ∀ x, (enc x).length = size
  one : ∀ x, ∀ u ∈ enc x, u.oneCell' = true
  ht : Yaac.prog.underlying t = some (.slice e)
  hi : (Yaac.prog.info? e).map (fun i => (i.zero, i.size, i.bytes)) = some (some zero, size, bytes)
  hzs : zero.cells.size = size
  hsz : 0 < size
  hby : bytes ≤ 64

def cells {α : Type} (T : ET α) (l : List α) : List Value := l.flatMap T.enc

theorem cells_length {α : Type} (T : ET α) (l : List α) : (cells T l).length = l.length * T.size := by
  induction l with
  | nil => simp [cells]
  | cons x l ih =>
    simp only [cells, List.flatMap_cons, List.length_append, T.len, List.length_cons] at ih ⊢
    rw [ih, Nat.add_mul, Nat.one_mul, Nat.add_comm]

theorem cells_append {α : Type} (T : ET α) (l m : List α) : cells T (l ++ m) = cells T l ++ cells T m := by simp [cells]
theorem cells_one {α : Type} (T : ET α) (x : α) : cells T [x] = T.enc x := by simp [cells]

theorem cells_get {α : Type} (T : ET α) (l : List α) (k j : Nat) (hk : k < l.length) (hj : j < T.size) : (cells T l)[k * T.size + j]? = (T.enc l[k])[j]? := by
  induction l generalizing k with
  | nil => simp at hk
  | cons x l ih =>
    simp only [cells, List.flatMap_cons]
    cases k with
    | zero =>
      rw [List.getElem?_append_left (by rw [T.len]; omega)]
      simp
    | succ k =>
      rw [List.getElem?_append_right (by rw [T.len, Nat.add_mul]; omega)]
      rw [T.len]
      have e1 : (k + 1) * T.size + j - T.size = k * T.size + j := by rw [Nat.add_mul, Nat.one_mul]; omega
      rw [e1]
      simpa [cells] using ih k (by simpa using hk)

theorem cells_oneCell {α : Type} (T : ET α) (l : List α) : ∀ u ∈ cells T l, u.oneCell' = true := by
  intro u hu
  simp only [cells, List.mem_flatMap] at hu
  obtain ⟨x, _, hx⟩ := hu
  exact T.one x u hx

/-- An owned slice: nil, or at the head of a row from block B on. -/
def Own {α : Type} (w : World) (B : Nat) (T : ET α) (v : Value) (l : List α) : Prop := w.ownsRow B T.e T.size v l.length (cells T l)
/-- A slice that is read: all its cells lie below block B. -/
def Rdd {α : Type} (w : World) (B : Nat) (T : ET α) (v : Value) (l : List α) : Prop := Rd w B T.size v l.length (cells T l)

section
variable {α β : Type} {T : ET α} {T' : ET β} {w w' : World} {B B' : Nat} {v v' : Value} {l : List α} {l' : List β}

theorem Own.shape (h : Own w B T v l) : ∃ ao cap, v = .slice ao l.length cap := owns_shape h
theorem Own.nil (w : World) (B : Nat) (T : ET α) : Own w B T (.slice none 0 0) [] := World.ownsRow_nil _ _ _ _
theorem Own.rdd (h : Own w B T v l) : Rdd w w.heap.size T v l := rd_of_owns h
theorem Own.base (h : Own w B T v l) (hB : B' ≤ B) : Own w B' T v l := owns_base h hB
theorem Own.below (h : Own w B T v l) (hb : Below w.heap.size w w') : Own w' B T v l := owns_below h hb
theorem Own.drew (h : Own w B T v l) : Own w.drew B T v l := h
theorem Own.alloc (h : Own w B T v l) (o : Obj) : Own (w.alloc o) B T v l := World.ownsRow.alloc h o
theorem Own.lt (h : Own w B T v l) {k : Nat} (hk : v.ownBlock = some k) : B ≤ k ∧ k < w.heap.size := World.ownsRow.lt h k hk
theorem Own.kept {row : Option Nat} (h : Own w B T v l) (hg : w.grownBy w' row) (hne : v.ownBlock = none ∨ v.ownBlock ≠ row) : Own w' B T v l := World.ownsRow.kept h hg hne
theorem Own.ne (h : Own w B T v l) (h' : Own w B' T' v' l') (he : T.e ≠ T'.e) : v.ownBlock = none ∨ v.ownBlock ≠ v'.ownBlock := owns_ne h h' he
/-- Another row is appended to: the row of another element type stays. -/
theorem Own.apart (h : Own w B T v l) (h' : Own w B' T' v' l') (hg : w.grownBy w' v'.ownBlock) (he : T.e ≠ T'.e) : Own w' B T v l := h.kept hg (h.ne h' he)

theorem Rdd.shape (h : Rdd w B T v l) : ∃ ao cap, v = .slice ao l.length cap ∧ l.length ≤ cap ∧ cap ≤ maxLen := by
  obtain ⟨_, ao, cap, h1, h2, h3, _⟩ := h
  exact ⟨ao, cap, h1, h2, h3⟩
theorem Rdd.below (h : Rdd w B T v l) (hb : Below B w w') : Rdd w' B T v l := Rd.below h hb
theorem Rdd.mono (h : Rdd w B T v l) (hB : B ≤ B') : Rdd w B' T v l := Rd.mono h hB
theorem Rdd.drew (h : Rdd w B T v l) : Rdd w.drew B T v l := Rd.drew h
theorem Rdd.nil (w : World) (B : Nat) (T : ET α) : Rdd w B T (.slice none 0 0) [] := rd_nil w B _
theorem Rdd.at_ {ao : Option Addr} {n cap : Nat} (h : Rdd w B T (.slice ao n cap) l) (k : Nat) (hk : k < l.length) :
    ∃ b off, ao = some ⟨b, off, none⟩ ∧ b < B ∧ ∀ k (hk : k < l.length) j u, (T.enc l[k])[j]? = some u → w.cell? ⟨b, off + (k * T.size + j), none⟩ = some u := by
  obtain ⟨h1, ao', cap', h2, h3, h4, h5⟩ := h
  simp only [Value.slice.injEq] at h2
  obtain ⟨rfl, rfl, rfl⟩ := h2
  rcases h5 with h5 | ⟨b, off, h6, h7, h8⟩
  · exfalso
    have e1 := cells_length T l
    rw [h5] at e1
    have := T.hsz
    have e2 : l.length * T.size = 0 := by simpa using e1.symm
    rcases Nat.mul_eq_zero.1 e2 with h | h <;> omega
  · refine ⟨b, off, h6, h7, fun k hk j u hu => h8 _ u ?_⟩
    have hj : j < T.size := by
      rcases Nat.lt_or_ge j (T.enc l[k]).length with hj | hj
      · rw [T.len] at hj; exact hj
      · rw [List.getElem?_eq_none hj] at hu; cases hu
    rw [cells_get T l k j hk hj, hu]

theorem Rdd.len_le (h : Rdd w B T v l) : l.length ≤ maxLen := by
  obtain ⟨_, ao, cap, _, h2, h3, _⟩ := h
  omega
end

/-! ### append of one element that the walk has laid in a block of its own -/
theorem app1 {α : Type} (T : ET α) {ops : Array Oper} {rest : List Oper} {o : Oper} {a : Act} {Q : Exit → Act → World → Prop} {w : World} {cs : Array Value} (s x : Operand)
    (B : Nat) (v : Value) (l : List α) (hown : Own w B T v l) (y : α) (N : Nat) (hN : w.heap.size = N)
    (hcs : cs = (T.enc y).toArray) (hgd : o.guard = none) (ho : o.op = .call { callee := .builtin .append, args := #[s, x], argTypes := #[T.t, T.t] }) (hs : a.eval s = v)
    (hx : a.eval x = .slice (some ⟨N, 0, none⟩) 1 1)
    (hn : l.length < 1099511627776) (hB : B ≤ w.heap.size)
    (h : ∀ g cap w', Own w' B T (.slice (some ⟨g, 0, none⟩) (l.length + 1) cap) (l ++ [y]) → w.grownBy w' v.ownBlock → (v.ownBlock = some g ∨ w.heap.size < g) → Below B w w' →
      wpList Yaac.prog ops Q rest (a.put o.dst (.slice (some ⟨g, 0, none⟩) (l.length + 1) cap)) w') : wpList Yaac.prog ops Q (o :: rest) a (w.alloc (.cells cs T.e)) := by
  subst hcs
  subst hN
  obtain ⟨i, hi, hz0, hz1, hz2⟩ := info_parts T.hi
  have hb64 := T.hby
  have hb1 : (l.length + 1) * T.bytes ≤ 1099511627776 * 64 := Nat.mul_le_mul (by omega) hb64
  refine wpList_append_lies (w.alloc (.cells (T.enc y).toArray T.e)) hgd s x T.t ho B T.e i T.zero T.size T.bytes T.ht hi hz0 hz1 hz2 T.hzs T.hsz v l.length (cells T l) hs (World.ownsRow.alloc hown _) ⟨w.heap.size, 0, none⟩ 1 1 (T.enc y) hx (by rw [T.len]; omega) ?_ (T.one y) (by omega) ?_ (by omega) ?_ (w.heap.size + 1) (by simp) ?_
  · intro j u hu
    exact World.news_of_block (heap_alloc_new w _) j u (by simpa using hu)
  · unfold maxLen; omega
  · simp; omega
  · intro g cap w' ho' hgr hat hlt
    have hgr' := grown_trans (World.grownBy_alloc w (.cells (T.enc y).toArray T.e) v.ownBlock) hgr
    refine h g cap w' ?_ hgr' ?_ (below_of_grown hgr' hB fun k hk => (World.ownsRow.lt hown k hk).1)
    · unfold Own
      rw [cells_append, cells_one, List.length_append]
      exact ho'
    · rcases hat with h2 | h2
      · exact .inl h2
      · exact .inr (by omega)

/-! ### The element types of the program -/
def sv (l : List UInt8) : Value := .string (mk l)
def bv (b : UInt8) : Value := .int .u8 b.toNat
def tByte : ET UInt8 := { t := 66, e := 5, size := 1, bytes := 1, zero := .int .u8 0, enc := fun b => [.int .u8 b.toNat], len := fun _ => rfl, one := by simp [Value.oneCell'], ht := Yaac.underlying66, hi := info5, hzs := rfl, hsz := by omega, hby := by omega }
def tInt : ET Int := { t := 74, e := 3, size := 1, bytes := 8, zero := .int .i64 0, enc := fun b => [.int .i64 b], len := fun _ => rfl, one := by simp [Value.oneCell'], ht := Yaac.underlying74, hi := info3, hzs := rfl, hsz := by omega, hby := by omega }
def tStr : ET (List UInt8) := { t := 25, e := 9, size := 1, bytes := 16, zero := .string (ByteArray.mk #[]), enc := fun s => [.string (mk s)], len := fun _ => rfl, one := by simp [Value.oneCell'], ht := Yaac.underlying25, hi := info9, hzs := rfl, hsz := by omega, hby := by omega }
def tInl : ET Inl := { t := 40, e := 44, size := 3, bytes := 32, zero := .agg #[.int .i64 0, .int .i64 0, .string (ByteArray.mk #[])], enc := fun p => [.int .i64 p.kind, .int .i64 p.style, .string (mk p.text)], len := fun _ => rfl, one := by simp [Value.oneCell'], ht := Yaac.underlying40, hi := info44, hzs := rfl, hsz := by omega, hby := by omega }
def tFrg : ET Frg := { t := 48, e := 51, size := 4, bytes := 40, zero := .agg #[.int .i64 0, .int .i64 0, .int .i64 0, .string (ByteArray.mk #[])], enc := fun p => [.int .i64 p.brk, .int .i64 p.kind, .int .i64 p.style, .string (mk p.text)], len := fun _ => rfl, one := by simp [Value.oneCell'], ht := Yaac.underlying48, hi := info51, hzs := rfl, hsz := by omega, hby := by omega }
def tBlk : ET Blk := { t := 35, e := 39, size := 3, bytes := 32, zero := .agg #[.int .i64 0, .int .i64 0, .string (ByteArray.mk #[])], enc := fun p => [.int .i64 p.kind, .int .i64 p.level, .string (mk p.text)], len := fun _ => rfl, one := by simp [Value.oneCell'], ht := Yaac.underlying35, hi := info39, hzs := rfl, hsz := by omega, hby := by omega }
def tRow : ET (Option Addr × Nat × Nat) := { t := 58, e := 40, size := 1, bytes := 24, zero := .slice none 0 0, enc := fun r => [.slice r.1 r.2.1 r.2.2], len := fun _ => rfl, one := by simp [Value.oneCell'], ht := Yaac.underlying58, hi := info40, hzs := rfl, hsz := by omega, hby := by omega }

theorem cells_byte (l : List UInt8) : cells tByte l = l.map bv := by
  induction l with
  | nil => rfl
  | cons x l ih => simp only [cells, List.flatMap_cons, List.map_cons] at ih ⊢; rw [ih]; rfl
theorem strCells_mk (l : List UInt8) : Lib.strCells (mk l) = l.map bv := by
  simp [Lib.strCells, mk, bv]

/-- append(b, s...), s a string -/
theorem appS {ops : Array Oper} {rest : List Oper} {o : Oper} {a : Act} {Q : Exit → Act → World → Prop} {w : World} (sl x : Operand)
    (B : Nat) (v : Value) (bs : List UInt8) (hown : Own w B tByte v bs) (l : List UInt8) (hgd : o.guard = none) (ho : o.op = .call { callee := .builtin .append, args := #[sl, x], argTypes := #[66, 9] })
    (hs : a.eval sl = v) (hx : a.eval x = .string (mk l))
    (hbytes : bs.length + l.length ≤ 70368744177664) (hB : B ≤ w.heap.size)
    (h : ∀ ao cap w', Own w' B tByte (.slice ao (bs.length + l.length) cap) (bs ++ l) → w.grownBy w' v.ownBlock → Below B w w' →
      wpList Yaac.prog ops Q rest (a.put o.dst (.slice ao (bs.length + l.length) cap)) w') : wpList Yaac.prog ops Q (o :: rest) a w := by
  obtain ⟨i, hi, hz0, hz1, hz2⟩ := info_parts info5
  refine Lib.wpList_append_own_string w hgd sl x 66 9 ho B 5 i Yaac.underlying66 Yaac.underlying9 hi hz0 hz1 hz2 v bs.length (cells tByte bs) hs hown (mk l) hx ?_ ?_ hB ?_
  · rw [mk_size]; unfold maxLen; omega
  · rw [mk_size]; omega
  · intro v' w' ho' hgr _
    rw [mk_size, strCells_mk, ← cells_byte, ← cells_append] at ho'
    obtain ⟨ao, cap, rfl⟩ := owns_shape ho'
    refine h ao cap w' ?_ hgr (below_of_grown hgr hB fun k hk => (Own.lt hown hk).1)
    unfold Own
    rw [List.length_append]
    exact ho'

/-! ### The cells of one element, as the walk spells them -/
section
variable {w : World} {B : Nat} {ao : Option Addr} {n cap : Nat}
theorem Rdd.str {l : List (List UInt8)} (h : Rdd w B tStr (.slice ao n cap) l) (k : Nat) (hk : k < l.length) :
    ∃ b off, ao = some ⟨b, off, none⟩ ∧ b < B ∧ ∀ k (hk : k < l.length), w.cell? ⟨b, off + k, none⟩ = some (.string (mk l[k])) := by
  obtain ⟨b, off, h1, h2, h3⟩ := h.at_ k hk
  exact ⟨b, off, h1, h2, fun k hk => by simpa [tStr] using h3 k hk 0 _ rfl⟩
theorem Rdd.byt {l : List UInt8} (h : Rdd w B tByte (.slice ao n cap) l) (k : Nat) (hk : k < l.length) :
    ∃ b off, ao = some ⟨b, off, none⟩ ∧ b < B ∧ ∀ k (hk : k < l.length), w.cell? ⟨b, off + k, none⟩ = some (.int .u8 l[k].toNat) := by
  obtain ⟨b, off, h1, h2, h3⟩ := h.at_ k hk
  exact ⟨b, off, h1, h2, fun k hk => by simpa [tByte] using h3 k hk 0 _ rfl⟩
theorem Rdd.int {l : List Int} (h : Rdd w B tInt (.slice ao n cap) l) (k : Nat) (hk : k < l.length) :
    ∃ b off, ao = some ⟨b, off, none⟩ ∧ b < B ∧ ∀ k (hk : k < l.length), w.cell? ⟨b, off + k, none⟩ = some (.int .i64 l[k]) := by
  obtain ⟨b, off, h1, h2, h3⟩ := h.at_ k hk
  exact ⟨b, off, h1, h2, fun k hk => by simpa [tInt] using h3 k hk 0 _ rfl⟩
theorem Rdd.row {l : List (Option Addr × Nat × Nat)} (h : Rdd w B tRow (.slice ao n cap) l) (k : Nat) (hk : k < l.length) :
    ∃ b off, ao = some ⟨b, off, none⟩ ∧ b < B ∧ ∀ k (hk : k < l.length), w.cell? ⟨b, off + k, none⟩ = some (.slice l[k].1 l[k].2.1 l[k].2.2) := by
  obtain ⟨b, off, h1, h2, h3⟩ := h.at_ k hk
  exact ⟨b, off, h1, h2, fun k hk => by simpa [tRow] using h3 k hk 0 _ rfl⟩
theorem Rdd.inl {l : List Inl} (h : Rdd w B tInl (.slice ao n cap) l) (k : Nat) (hk : k < l.length) :
    ∃ b off, ao = some ⟨b, off, none⟩ ∧ b < B ∧ ∀ k (hk : k < l.length), w.cell? ⟨b, off + k * 3, none⟩ = some (.int .i64 l[k].kind) ∧ w.cell? ⟨b, off + k * 3 + 1, none⟩ = some (.int .i64 l[k].style) ∧ w.cell? ⟨b, off + k * 3 + 2, none⟩ = some (.string (mk l[k].text)) := by
  obtain ⟨b, off, h1, h2, h3⟩ := h.at_ k hk
  exact ⟨b, off, h1, h2, fun k hk => ⟨by simpa [tInl] using h3 k hk 0 _ rfl, by simpa [tInl, Nat.add_assoc] using h3 k hk 1 _ rfl, by simpa [tInl, Nat.add_assoc] using h3 k hk 2 _ rfl⟩⟩
theorem Rdd.blk {l : List Blk} (h : Rdd w B tBlk (.slice ao n cap) l) (k : Nat) (hk : k < l.length) :
    ∃ b off, ao = some ⟨b, off, none⟩ ∧ b < B ∧ ∀ k (hk : k < l.length), w.cell? ⟨b, off + k * 3, none⟩ = some (.int .i64 l[k].kind) ∧ w.cell? ⟨b, off + k * 3 + 1, none⟩ = some (.int .i64 l[k].level) ∧ w.cell? ⟨b, off + k * 3 + 2, none⟩ = some (.string (mk l[k].text)) := by
  obtain ⟨b, off, h1, h2, h3⟩ := h.at_ k hk
  exact ⟨b, off, h1, h2, fun k hk => ⟨by simpa [tBlk] using h3 k hk 0 _ rfl, by simpa [tBlk, Nat.add_assoc] using h3 k hk 1 _ rfl, by simpa [tBlk, Nat.add_assoc] using h3 k hk 2 _ rfl⟩⟩
theorem Rdd.frg {l : List Frg} (h : Rdd w B tFrg (.slice ao n cap) l) (k : Nat) (hk : k < l.length) :
    ∃ b off, ao = some ⟨b, off, none⟩ ∧ b < B ∧ ∀ k (hk : k < l.length), w.cell? ⟨b, off + k * 4, none⟩ = some (.int .i64 l[k].brk) ∧ w.cell? ⟨b, off + k * 4 + 1, none⟩ = some (.int .i64 l[k].kind) ∧ w.cell? ⟨b, off + k * 4 + 2, none⟩ = some (.int .i64 l[k].style) ∧ w.cell? ⟨b, off + k * 4 + 3, none⟩ = some (.string (mk l[k].text)) := by
  obtain ⟨b, off, h1, h2, h3⟩ := h.at_ k hk
  exact ⟨b, off, h1, h2, fun k hk => ⟨by simpa [tFrg] using h3 k hk 0 _ rfl, by simpa [tFrg, Nat.add_assoc] using h3 k hk 1 _ rfl, by simpa [tFrg, Nat.add_assoc] using h3 k hk 2 _ rfl, by simpa [tFrg, Nat.add_assoc] using h3 k hk 3 _ rfl⟩⟩
end

/-- What a value that owns something looks like. -/
theorem Own.form {α : Type} {w : World} {B : Nat} {T : ET α} {v : Value} {l : List α} (h : Own w B T v l) (hl : 0 < l.length) : ∃ g cap, v = .slice (some ⟨g, 0, none⟩) l.length cap ∧ B ≤ g ∧ g < w.heap.size ∧ l.length ≤ cap ∧ cap ≤ 9223372036854775807 := by
  unfold Own at h
  rcases h.2 with ⟨_, h0⟩ | ⟨g, cap, cur, hv, hb, hg, hn, hc, _⟩
  · omega
  · exact ⟨g, cap, hv, hb, (Array.getElem?_eq_some_iff.1 hg).1, hn, by unfold maxLen at hc; omega⟩

theorem Own.formS {α : Type} {w : World} {B : Nat} {T : ET α} {ao : Option Addr} {n cap : Nat} {l : List α} (h : Own w B T (.slice ao n cap) l) (hl : 0 < l.length) : ∃ g, ao = some ⟨g, 0, none⟩ ∧ B ≤ g ∧ g < w.heap.size ∧ l.length ≤ cap ∧ cap ≤ 9223372036854775807 := by
  obtain ⟨g, cap', hv, h1, h2, h3, h4⟩ := h.form hl
  simp only [Value.slice.injEq] at hv
  obtain ⟨rfl, rfl, rfl⟩ := hv
  exact ⟨g, rfl, h1, h2, h3, h4⟩

/-- A shorter head of what is owned. -/
theorem Own.take {α : Type} {w : World} {B : Nat} {T : ET α} {ao : Option Addr} {n cap : Nat} {l : List α} (h : Own w B T (.slice ao n cap) l) (m : Nat) (hm : 0 < m) (hml : m ≤ l.length) : Own w B T (.slice ao m cap) (l.take m) := by
  unfold Own at h ⊢
  obtain ⟨h1, h2⟩ := h
  refine ⟨by rw [cells_length], ?_⟩
  have e1 : (l.take m).length = m := by rw [List.length_take]; omega
  rcases h2 with ⟨h3, h4⟩ | ⟨g, cap', cur, h3, h4, h5, h6, h7, h8, h9⟩
  · omega
  · simp only [Value.slice.injEq] at h3
    obtain ⟨rfl, rfl, rfl⟩ := h3
    refine .inr ⟨g, cap, cur, by rw [e1], h4, h5, by omega, h7, h8, ?_⟩
    rw [e1]
    have e2 : cells T l = cells T (l.take m) ++ cells T (l.drop m) := by rw [← cells_append, List.take_append_drop]
    rw [e2] at h9
    have e3 : cur.toList.take (m * T.size) = (cur.toList.take (l.length * T.size)).take (m * T.size) := by
      rw [List.take_take, Nat.min_eq_left (Nat.mul_le_mul_right _ hml)]
    rw [e3, h9, List.take_append_of_le_length (by rw [cells_length, e1]; exact Nat.le_refl _), List.take_of_length_le (by rw [cells_length, e1]; exact Nat.le_refl _)]

theorem Rdd.take {α : Type} {w : World} {B : Nat} {T : ET α} {ao : Option Addr} {n cap : Nat} {l : List α} (h : Rdd w B T (.slice ao n cap) l) (m : Nat) (hml : m ≤ l.length) : Rdd w B T (.slice ao m cap) (l.take m) := by
  obtain ⟨h1, ao', cap', h2, h3, h4, h5⟩ := h
  simp only [Value.slice.injEq] at h2
  obtain ⟨rfl, rfl, rfl⟩ := h2
  have e1 : (l.take m).length = m := by rw [List.length_take]; omega
  refine ⟨by rw [cells_length], ao, cap, by rw [e1], by omega, h4, ?_⟩
  have e2 : cells T l = cells T (l.take m) ++ cells T (l.drop m) := by rw [← cells_append, List.take_append_drop]
  rcases h5 with h5 | ⟨b, off, h6, h7, h8⟩
  · left
    rw [h5] at e2
    exact (List.append_eq_nil_iff.1 e2.symm).1
  · right
    refine ⟨b, off, h6, h7, fun j u hu => h8 j u ?_⟩
    rw [e2, List.getElem?_append_left]
    · exact hu
    · rcases Nat.lt_or_ge j (cells T (l.take m)).length with hj | hj
      · exact hj
      · rw [List.getElem?_eq_none hj] at hu; cases hu

theorem Rdd.drop1 {α : Type} {w : World} {B : Nat} {T : ET α} {ao : Option Addr} {n cap : Nat} {l : List α} (h : Rdd w B T (.slice ao n cap) l) (hl : 0 < l.length) :
    Rdd w B T (.slice (if cap = 1 then ao else ao.map fun a => a.add T.size) (n - 1) (cap - 1)) (l.drop 1) := by
  obtain ⟨h1, ao', cap', h2, h3, h4, h5⟩ := h
  simp only [Value.slice.injEq] at h2
  obtain ⟨rfl, rfl, rfl⟩ := h2
  refine ⟨by rw [cells_length], _, _, by rw [List.length_drop], by rw [List.length_drop]; omega, by omega, ?_⟩
  have e2 : cells T l = cells T (l.take 1) ++ cells T (l.drop 1) := by rw [← cells_append, List.take_append_drop]
  have e3 : (cells T (l.take 1)).length = T.size := by rw [cells_length, List.length_take, Nat.min_eq_left (by omega), Nat.one_mul]
  rcases h5 with h5 | ⟨b, off, h6, h7, h8⟩
  · left
    rw [h5] at e2
    exact (List.append_eq_nil_iff.1 e2.symm).2
  · by_cases hn : l.length = 1
    · left
      have : l.drop 1 = [] := List.drop_of_length_le (by omega)
      rw [this]; rfl
    · right
      subst h6
      refine ⟨b, off + T.size, ?_, h7, fun j u hu => ?_⟩
      · rw [if_neg (by omega)]
        simp only [Option.map_some, Option.some.injEq]
        unfold Addr.add
        rw [if_neg (by have := T.hsz; omega)]
      · have := h8 (T.size + j) u ?_
        · rw [Nat.add_assoc]; exact this
        · rw [e2, List.getElem?_append_right (by rw [e3]; omega), e3]
          rw [show T.size + j - T.size = j by omega]
          exact hu

/-- string(b) -/
theorem foldl_push (l : List UInt8) (r : List UInt8) : (l.map fun b : UInt8 => (b.toNat : Int)).foldl (fun (r : ByteArray) n => r.push (UInt8.ofNat n.toNat)) (mk r) = mk (r ++ l) := by
  induction l generalizing r with
  | nil => simp
  | cons b l ih =>
    simp only [List.map_cons, List.foldl_cons]
    have e1 : (mk r).push (UInt8.ofNat ((b.toNat : Int)).toNat) = mk (r ++ [b]) := by
      simp [mk, ByteArray.push]
    rw [e1, ih]
    simp

theorem add_lit (b off j : Nat) : (⟨b, off, none⟩ : Addr).add j = ⟨b, off + j, none⟩ := by unfold Addr.add; split <;> simp_all

theorem conv_rdd {w : World} {B : Nat} {v : Value} {l : List UInt8} (h : Rdd w B tByte v l) : (convert 66 9 v).run Yaac.prog w = .ok (.string (mk l)) w := by
  obtain ⟨h1, ao, cap, rfl, h3, h4, h5⟩ := h
  rw [run_convert_bytes_string w 66 9 5 ao _ cap Yaac.underlying66 Yaac.underlying5 Yaac.underlying9]
  rcases h5 with h5 | ⟨b, off, rfl, _, h8⟩
  · have e1 := cells_length tByte l
    rw [h5] at e1
    have e2 : l = [] := List.eq_nil_of_length_eq_zero (by simpa [tByte] using e1.symm)
    subst e2
    cases ao with
    | none => simp [Conv.bytesToString, mk]; rfl
    | some ad =>
      have := run_bytesToString (P := Yaac.prog) w ad 0 cap [] (by simp [loadCells, loadCellsFrom])
      exact this
  · have hl := run_loadCells_list (P := Yaac.prog) w ⟨b, off, none⟩ (cells tByte l) (fun j u hu => by rw [add_lit]; exact h8 j u hu)
    rw [cells_length] at hl
    have e1 : cells tByte l = (l.map fun b : UInt8 => (b.toNat : Int)).map (Value.int .u8) := by rw [cells_byte]; simp [bv]
    rw [e1] at hl
    have := run_bytesToString (P := Yaac.prog) w ⟨b, off, none⟩ l.length cap (l.map fun b : UInt8 => (b.toNat : Int)) (by rw [← hl]; simp [tByte])
    rw [this]
    have e2 := foldl_push l []
    rw [List.nil_append] at e2
    exact congrArg (fun s => Result.ok (Value.string s) w) e2
theorem conv_own {w : World} {B : Nat} {v : Value} {l : List UInt8} (h : Own w B tByte v l) : (convert 66 9 v).run Yaac.prog w = .ok (.string (mk l)) w := conv_rdd h.rdd
end Go.Proofs.Ybuaaw
