/-
  The examples of FnTop, reckoned by the plain functions. No Go in sight.
-/
import Derived.Test.YbuaawPlain15
import Derived.Test.YbuaawPlain7
import Derived.KernelRfl
namespace Go.Proofs.Ybuaaw
open Go

theorem ex1 : split [97, 10, 98] = [[97], [98]] := by kernel_rfl
theorem ex2 : split [97, 10, 98, 10] = [[97], [98]] := by kernel_rfl
theorem ex3 : split [10] = [[]] := by kernel_rfl
theorem ex4 : split [97, 10, 10] = [[97], []] := by kernel_rfl
theorem ec0 : classify [96, 96, 96, 103, 111] = ⟨1, 0, []⟩ := by kernel_rfl
theorem ec1 : classify [35, 35, 32, 97, 32] = ⟨2, 2, [97]⟩ := by kernel_rfl
theorem ec2 : classify [35] = ⟨2, 1, []⟩ := by kernel_rfl
theorem ec3 : classify [35, 97] = ⟨6, 0, [35, 97]⟩ := by kernel_rfl
theorem ec4 : classify [35, 35, 35, 35, 35, 35, 35, 32, 97] = ⟨6, 0, [35, 35, 35, 35, 35, 35, 35, 32, 97]⟩ := by kernel_rfl
theorem ec5 : classify [32, 35, 32, 97] = ⟨6, 0, [35, 32, 97]⟩ := by kernel_rfl
theorem ec6 : classify [32, 45, 45, 45, 32] = ⟨3, 0, []⟩ := by kernel_rfl
theorem ec7 : classify [45, 45] = ⟨6, 0, [45, 45]⟩ := by kernel_rfl
theorem ec8 : classify [45, 32, 45, 45] = ⟨4, 0, [45, 45]⟩ := by kernel_rfl
theorem ec9 : classify [45, 97] = ⟨6, 0, [45, 97]⟩ := by kernel_rfl
theorem ec10 : classify [62, 113] = ⟨5, 0, [113]⟩ := by kernel_rfl
theorem ec11 : classify [32, 9] = ⟨0, 0, []⟩ := by kernel_rfl
theorem ep1 : pblocks [97, 10, 98] = [⟨1, 0, [97, 32, 98]⟩] := by kernel_rfl
theorem ep2 : pblocks [45, 32, 120, 10, 32, 32, 121] = [⟨3, 0, [120, 32, 121]⟩] := by kernel_rfl
theorem ep3 : pblocks [62, 32, 120, 10, 121] = [⟨4, 0, [120]⟩, ⟨1, 0, [121]⟩] := by kernel_rfl
theorem ep4 : pblocks [97, 10, 45, 45, 45] = [⟨1, 0, [97]⟩, ⟨6, 0, []⟩] := by kernel_rfl
def exIn : List Inl := [⟨0, 0, [97, 98]⟩, ⟨1, 0, [32]⟩, ⟨0, 1, [99]⟩, ⟨1, 0, [32]⟩, ⟨0, 1, [100]⟩, ⟨2, 0, [101, 32, 102]⟩]
def exUn : List Inl := [⟨0, 1, [97, 32, 98]⟩, ⟨1, 0, [32]⟩, ⟨2, 0, [120, 96, 121]⟩, ⟨0, 0, [42]⟩]
def exSrc : List Inl := [⟨0, 0, [97, 98]⟩, ⟨1, 0, [32]⟩, ⟨0, 0, [99, 100]⟩, ⟨0, 1, [101, 102, 103]⟩, ⟨1, 0, [32]⟩, ⟨0, 0, [104]⟩]
def exOne : List Inl := [⟨0, 0, [97, 98, 99, 100, 101, 102, 103, 104]⟩]
def exL1 : List Frg := [⟨0, 0, 0, [97, 98, 99]⟩, ⟨2, 0, 0, [100, 101, 102]⟩, ⟨2, 0, 0, [103, 104]⟩]
def exL2 : List Frg := [⟨0, 0, 0, [97, 98]⟩, ⟨2, 0, 0, [99, 100]⟩, ⟨0, 0, 1, [101]⟩, ⟨2, 0, 1, [102, 103]⟩, ⟨2, 0, 0, [104]⟩]
theorem ei1 : pinl [97, 98, 32, 42, 99, 32, 100, 42, 96, 101, 32, 102, 96] = exIn := by kernel_rfl
theorem eu1 : unp exUn = [42, 97, 92, 32, 98, 32, 96, 120, 121, 96, 42, 92, 42] := by kernel_rfl
theorem el1 : layout (wid 3) exOne = exL1 := by
  have e : words exOne = [exOne] := by kernel_rfl
  have ew : wid 3 = 3 := by kernel_rfl
  unfold layout
  rw [e, ew, lGo, if_neg (by decide), lGo]
  unfold exOne exL1
  rw [ch_step _ _ _ _ _ _ _ (by decide) (by simp), ch_step _ _ _ _ _ _ _ (by decide) (by simp), ch_step _ _ _ _ _ _ _ (by decide) (by simp)]
  simp [ch, brC]
theorem el2 : layout (wid 3) exSrc = exL2 := by
  have e : words exSrc = [[⟨0, 0, [97, 98]⟩], [⟨0, 0, [99, 100]⟩, ⟨0, 1, [101, 102, 103]⟩], [⟨0, 0, [104]⟩]] := by kernel_rfl
  have ew : wid 3 = 3 := by kernel_rfl
  unfold layout exL2
  rw [e, ew, lGo, if_pos (by decide), lGo, if_neg (by decide), lGo, if_pos (by decide), lGo]
  rw [ch_step _ _ _ _ _ _ _ (by decide) (by simp)]
  simp [ch, brC, fit, brF, tlen]
theorem er1 : rlines exL2 = [[97, 98], [99, 100, 69], [70, 71], [104]] := by kernel_rfl
theorem ea1 : rall (wid 10) (pblocks [35, 32, 84, 105, 116, 108, 101, 10, 10, 72, 101, 108, 108, 111, 32, 42, 98, 105, 103, 42, 32, 119, 111, 114, 108, 100, 10, 45, 32, 111, 110, 101, 10, 45, 32, 116, 119, 111, 10]) = [84, 73, 84, 76, 69, 10, 61, 61, 61, 61, 61, 10, 10, 72, 101, 108, 108, 111, 32, 66, 73, 71, 10, 119, 111, 114, 108, 100, 10, 10, 42, 32, 111, 110, 101, 10, 10, 42, 32, 116, 119, 111, 10] := by kernel_rfl
theorem ea2 : rall (wid 80) (pblocks [96, 96, 96, 103, 111, 10, 32, 32, 120, 10, 10, 96, 96, 96, 10, 121]) = [32, 32, 32, 32, 32, 32, 120, 10, 32, 32, 32, 32, 10, 10, 121, 10] := by kernel_rfl
theorem ea3 : rall (wid 5) (pblocks [35]) = [10] := by kernel_rfl
theorem ea4 : rall (wid 200) (pblocks [45, 45, 45]) = List.replicate 80 45 ++ [10] := by kernel_rfl
theorem ea5 : rall (wid 0) (pblocks [62, 32, 97, 10, 62, 98, 10, 10, 45, 32]) = [124, 32, 97, 10, 124, 32, 98, 10, 10, 42, 10] := by kernel_rfl
theorem ea6 : rall (wid 7) (pblocks [96, 96, 96]) = [] := by kernel_rfl
theorem ea7 : rall (wid 7) (pblocks []) = [] := by kernel_rfl
theorem ea8 : rall (wid 7) (pblocks [32, 10, 9, 10]) = [] := by kernel_rfl
end Go.Proofs.Ybuaaw
