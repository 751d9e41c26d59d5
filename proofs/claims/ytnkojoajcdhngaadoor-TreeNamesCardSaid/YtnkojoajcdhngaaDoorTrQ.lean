/- Layer 8: plain: the tree of the document's examples. -/
import Derived.Test.YtnkojoajcdhngaaDoorTr31
import Derived.Test.YtnkojoajcdhngaaDoorTr32
import Derived.Test.YtnkojoajcdhngaaDoorTrAf
namespace Go.Proofs.YtnkojoajcdhngaaDoor
set_option linter.unusedVariables false
set_option linter.unusedSimpArgs false
set_option maxRecDepth 100000
open Go.RowKit
set_option maxRecDepth 100000
set_option maxHeartbeats 4000000

def nd0 (k : Int) (nm : ByteArray) (ks : List Int) : Nd := ⟨k, nm, ⟨#[]⟩, ⟨#[]⟩, 0, 0, 0, 0, 0, 0, false, 0, 0, 0, 0, 0, false, [], ks⟩
def tS : List Nd := [nd0 4 ⟨#[97]⟩ [2, 1], nd0 1 ⟨#[98]⟩ [], nd0 4 ⟨#[98]⟩ [3], nd0 1 ⟨#[99]⟩ []]
def lS : List Nd := [nd0 1 ⟨#[120]⟩ []]
theorem tS_par : parE tS = some ([-1, 0, 0, 2], [1, 2, 2, 3]) := by kernel_rfl
theorem lS_par : parE lS = some ([-1], [1]) := by kernel_rfl
theorem tS_chk : chkB tS = true := by unfold chkB; rw [tS_par]; rfl
theorem lS_chk : chkB lS = true := by unfold chkB; rw [lS_par]; rfl
theorem tS_path : pathL tS 3 = [0, 2, 3] := by kernel_rfl
theorem tS_ask3 : askC tS [3] = 0 := by kernel_rfl
theorem tS_ask2 : askC tS [2] = 0 := by kernel_rfl
theorem tS_walk : walkL false tS = [(0, 1), (2, 2), (3, 3), (1, 2)] := by kernel_rfl
theorem tS_fnd : fndE tS ⟨#[98]⟩ = (2, 0) := by
  unfold fndE
  rw [if_pos tS_chk, tS_walk]
  simp only [ByteArray.toList_eq]
  kernel_rfl
theorem tS_cut : cutL tS 2 = [nd0 4 ⟨#[98]⟩ [1], nd0 1 ⟨#[99]⟩ []] := by kernel_rfl
theorem tS_take : takeE tS 2 = ([nd0 4 ⟨#[97]⟩ [1], nd0 1 ⟨#[98]⟩ []], 0) := by kernel_rfl
theorem tS_move : moveE tS 2 3 0 = ([], 80) := by kernel_rfl
theorem tS_put : putE tS lS 0 1 = ([nd0 4 ⟨#[97]⟩ [1, 3, 4], nd0 4 ⟨#[98]⟩ [2], nd0 1 ⟨#[99]⟩ [], nd0 1 ⟨#[120]⟩ [], nd0 1 ⟨#[98]⟩ []], 0) := by kernel_rfl
theorem tS_put2 : putE tS lS 1 0 = ([], 6) := by kernel_rfl
theorem tS_same : sameL tS tS = true := by
  unfold tS
  simp only [sameL, sameN, alikeB, nd0, ByteArray.toList_eq]
  kernel_rfl
theorem tS_differ : sameL tS lS = false := by
  unfold tS lS
  simp only [sameL, sameN, alikeB, nd0, ByteArray.toList_eq]
  kernel_rfl
theorem tS_named : namedE tS ⟨#[97, 47, 98, 47, 99]⟩ = (3, 0) := by
  unfold namedE
  rw [if_pos tS_chk, show splB ⟨#[97, 47, 98, 47, 99]⟩ = [⟨#[97]⟩, ⟨#[98]⟩, ⟨#[99]⟩] by kernel_rfl]
  simp only [namF, ByteArray.toList_eq]
  kernel_rfl
end Go.Proofs.YtnkojoajcdhngaaDoor
