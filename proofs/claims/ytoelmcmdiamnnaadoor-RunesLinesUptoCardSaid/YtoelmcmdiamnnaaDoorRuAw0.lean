/- Layer 3: what the document's examples say, plain. -/
import Derived.Test.YtoelmcmdiamnnaaDoorRuS
import Derived.Test.YtoelmcmdiamnnaaDoorRuW2
import Derived.Test.YtoelmcmdiamnnaaDoorRuCl2
namespace Go.Proofs.YtoelmcmdiamnnaaDoor
set_option linter.unusedVariables false
set_option linter.unusedSimpArgs false
set_option maxRecDepth 100000
open Go.RowKit Go.Lib
theorem aw_cells : (total (pcs [97, 228, 184, 128]), (pcs [97, 228, 184, 128]).length) = (3, 2) := by kernel_rfl
theorem aw_cut : cutE { data := #[119, 105, 110, 100, 111, 119] } 5 { data := #[46, 46] } = ({ data := #[119, 105, 110, 46, 46] }, true) := by kernel_rfl
theorem aw_lines : linesE 7 [111, 110, 101, 32, 116, 119, 111, 32, 116, 104, 114, 101, 101] = [[111, 110, 101, 32, 116, 119, 111], [32, 116, 104, 114, 101, 101]] := by kernel_rfl
theorem aw_widest : widest [[111, 110, 101, 32, 116, 119, 111], [32, 116, 104, 114, 101, 101]] = 7 := by kernel_rfl
theorem aw_next : nextE (pcs [101, 204, 129]) 0 = (3, true) := by kernel_rfl
theorem aw_word : wordE kd (pcs [97, 46, 46, 98]) 1 = (3, true) := by kernel_rfl
theorem aw_wa : wid 97 = 1 := by kernel_rfl
theorem aw_wb : wid 19968 = 2 := by kernel_rfl
theorem aw_wc : wid 769 = 0 := by kernel_rfl
theorem aw_wd : wid (-1) = 1 := by kernel_rfl
theorem aw_at : atE [97, 98, 255] = 2 := by kernel_rfl
theorem aw_clean : cleanE { data := #[97, 1, 98, 255] } = { data := #[97, 98, 239, 191, 189] } := by kernel_rfl
end Go.Proofs.YtoelmcmdiamnnaaDoor
