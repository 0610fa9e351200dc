/-
  Texts: names, the program's.
-/
import Derived.Test.YtibegbmehpggbaaDoorTxtF
namespace Go.Proofs.YtibegbmehpggbaaDoor
open Go.RowKit Go.Canon Go.Mem
set_option linter.unusedVariables false
set_option linter.unusedSimpArgs false
theorem str_nil {l : List Int} (h : l ≠ []) : ((str l).toList == []) = false := by
  rw [beq_eq_false_iff_ne, ByteArray.toList_eq, str_toList]
  simpa using h
end Go.Proofs.YtibegbmehpggbaaDoor
