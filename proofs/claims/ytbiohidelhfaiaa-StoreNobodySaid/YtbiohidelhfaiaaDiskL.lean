/-
  The statements of layer 9: lives; DiskNobody.
-/
import Derived.Test.YtbiohidelhfaiaaLit
import Derived.Test.YtbiohidelhfaiaaDiskN
import Derived.Test.YtbiohidelhfaiaaArgs
namespace Go.Proofs.Ytbiohidelhfaiaa
open Go.RowKit Go.Canon Go.Mem Go.Args
set_option linter.unusedVariables false
set_option linter.unusedSimpArgs false
abbrev KDo : Kd := .st (.fld (.int .i64) (.fld (.int .i64) (.fld (.slice (.int .u8)) (.fld (.slice .bool) .fin))))
theorem lives_write : ((fresh 1).write 0 [7]).1 = 0 ∧ ((fresh 1).write 0 [7]).2.opn.length = 1 := by
  unfold Disk.St.write fresh Disk.St.step
  simp
theorem do_cells {W : World} {cs : List Value} {x : KDo.Dat} (H : Has W KDo cs x) : ∃ vB vK, cs = [.int .i64 x.1, .int .i64 x.2.1, vB, vK] ∧ Has W (.slice (.int .u8)) [vB] x.2.2.1 ∧ Has W (.slice .bool) [vK] x.2.2.2.1 ∧ (Lit.int .i64 x.2.1).wf = true := by
  obtain ⟨c1, r1, rfl, _, ⟨rfl, _⟩, c2, r2, rfl, _, ⟨rfl, w2⟩, c3, r3, rfl, _, h3, c4, r4, rfl, _, h4, h5⟩ := H
  obtain ⟨A, c, e3, h3'⟩ := h3
  obtain ⟨B, d, e4, h4'⟩ := h4
  have h5' : r4 = [] := h5
  subst e3; subst e4; subst h5'
  exact ⟨_, _, rfl, ⟨A, c, rfl, h3'⟩, ⟨B, d, rfl, h4'⟩, w2⟩
theorem i64_le {n : Int} (h : (Lit.int .i64 n).wf = true) : -9223372036854775808 ≤ n ∧ n ≤ 9223372036854775807 := by
  simp [Lit.wf, IntKind.min, IntKind.max, IntKind.signed, IntKind.bits] at h
  omega
end Go.Proofs.Ytbiohidelhfaiaa
