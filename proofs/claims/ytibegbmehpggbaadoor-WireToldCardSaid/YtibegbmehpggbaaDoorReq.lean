/-
  Requests: what they are in memory; Same, Cut.
-/
import Derived.Test.YtibegbmehpggbaaDoorTxtF
import Derived.Test.YtibegbmehpggbaaDoorSet
namespace Go.Proofs.YtibegbmehpggbaaDoor
open Go.RowKit Go.Canon Go.Mem
set_option linter.unusedVariables false
set_option linter.unusedSimpArgs false
structure ReqP where
  method : List Int
  target : List Int
  token : List Int
  body : List Int
deriving DecidableEq
def reqV (r : ReqP) (v : Value) : Value := .agg #[.string (str r.method), .string (str r.target), .string (str r.token), v]
structure ReqP.Ok (r : ReqP) : Prop where
  method : IsB r.method
  target : IsB r.target
  token : IsB r.token
  body : IsB r.body
theorem ReqP.same {r q : ReqP} : (r = q) = (r.method = q.method ∧ r.target = q.target ∧ r.token = q.token ∧ r.body = q.body) := by
  cases r; cases q; simp
theorem info_str : (Tryd.prog.info? 9).map (·.size) = some 1 := by kernel_rfl
theorem info_req : (Tryd.prog.info? 44).map (·.size) = some 4 := by kernel_rfl
theorem info_bytesR : (Tryd.prog.info? 22).map (·.size) = some 1 := by kernel_rfl
def ReqP.cut (r : ReqP) : ReqP := ⟨r.method.take 50, r.target.take 200, r.token.take 1200, r.body.take 2100⟩
theorem ReqP.Ok.cut {r : ReqP} (h : r.Ok) : r.cut.Ok := ⟨h.method.take 50, h.target.take 200, h.token.take 1200, h.body.take 2100⟩
/-- A request, its body in memory of its own. -/
def ReqPost (w : World) (r : ReqP) : Value → World → Prop := fun v w' => Keeps (fun _ => False) w w' ∧ ∃ u, v = reqV r u ∧ OwnRow w' (fun k => w.heap.size ≤ k) 5 1 u r.body.length (Disk.bytes8 r.body)
end Go.Proofs.YtibegbmehpggbaaDoor
