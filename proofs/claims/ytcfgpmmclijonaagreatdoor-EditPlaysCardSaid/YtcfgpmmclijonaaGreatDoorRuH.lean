/- Layer 3: cuts, and the piece at a place: both sides. (Printed by gen_h.py.) -/
import Derived.Test.YtcfgpmmclijonaaGreatDoorRuF
import Derived.Laws.Concat
namespace Go.Proofs.YtcfgpmmclijonaaGreatDoor
set_option linter.unusedVariables false
set_option linter.unusedSimpArgs false
set_option maxRecDepth 100000
open Go.RowKit Go.Lib

def cutC (s : ByteArray) (c : Int) (mark : ByteArray) : ByteArray × Bool :=
  if (total (pcs s.data.toList) : Int) ≤ c then (s, false)
  else if (total (pcs mark.data.toList) : Int) ≤ c then (fits s (c - total (pcs mark.data.toList)) ++ mark, true)
  else (fits s c, true)
theorem fits_size (s : ByteArray) (c : Int) : (fits s c).size ≤ s.size := by
  unfold fits
  rw [ByteArray.size_extract]
  omega
theorem cutE_eq (s : ByteArray) (cells : Int) (mark : ByteArray) : cutE s cells mark = cutC s (max cells 0) mark := rfl
set_option maxHeartbeats 4000000
set_option maxRecDepth 100000
end Go.Proofs.YtcfgpmmclijonaaGreatDoor
