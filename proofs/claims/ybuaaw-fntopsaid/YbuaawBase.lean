import Derived.Test.YbuaawProg
import Derived.WalkKit
import Derived.WalkSpells
import Derived.WalkLawsBesides
import Derived.Deep.LoopGhost
import Derived.Deep.AppendLies
import Derived.Deep.QuietTactic
import Derived.BigQuiet
namespace Go.Proofs.Ybuaaw
open Go.RowKit

/-- A list of bytes as a Go string. -/
def mk (l : List UInt8) : ByteArray := ⟨l.toArray⟩
theorem mk_size (l : List UInt8) : (mk l).size = l.length := by simp [mk, ByteArray.size]
theorem mk_toList (l : List UInt8) : (mk l).toList = l := by simp [mk]
theorem mk_of (a : ByteArray) : mk a.toList = a := by
  rw [ByteArray.toList_eq]; rfl
theorem mk_getElem (l : List UInt8) (k : Nat) (h : k < (mk l).size) : (mk l)[k] = l[k]'(by simpa [mk_size] using h) := by
  simp [mk, ByteArray.getElem_eq_getElem_data]
theorem mk_extract (l : List UInt8) (a b : Nat) : (mk l).extract a b = mk ((l.drop a).take (b - a)) := by
  unfold mk; exact ByteArray.extract_mk l a b
theorem take_len_drop {α : Type} (l : List α) (s : Nat) : (l.drop s).take (l.length - s) = l.drop s := List.take_of_length_le (by simp)
theorem mk_append (a b : List UInt8) : mk a ++ mk b = mk (a ++ b) := by
  apply ByteArray.ext
  simp [mk, ByteArray.data_append]
theorem mk_append_lit (a b : List UInt8) : mk a ++ ⟨b.toArray⟩ = mk (a ++ b) := mk_append a b
theorem lit_append_mk (a b : List UInt8) : (⟨a.toArray⟩ : ByteArray) ++ mk b = mk (a ++ b) := mk_append a b
theorem mk_inj {a b : List UInt8} (h : mk a = mk b) : a = b := by
  have := congrArg ByteArray.toList h
  simpa [mk_toList] using this

theorem ret_bool {a b : Bool} (h : a = b) : Ending.returned (.bool a) = .returned (.bool b) := by rw [h]
theorem ret_int {k : IntKind} {a b : Int} (h : a = b) : Ending.returned (.int k a) = .returned (.int k b) := by rw [h]
theorem ret_str {a b : List UInt8} (h : a = b) : Ending.returned (.string (mk a)) = .returned (.string (mk b)) := by rw [h]
end Go.Proofs.Ybuaaw
