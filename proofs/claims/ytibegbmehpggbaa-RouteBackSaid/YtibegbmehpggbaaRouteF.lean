/-
  Targets, the program's: the forms.
-/
import Derived.Test.YtibegbmehpggbaaReq
namespace Go.Proofs.Ytibegbmehpggbaa
open Go.RowKit Go.Canon Go.Mem
set_option linter.unusedVariables false
set_option linter.unusedSimpArgs false
structure FormP where
  first : ByteArray
  pieces : Nat
  numbers : Bool
  method : ByteArray
  kind : Nat
def FormP.cells (f : FormP) : List Value := [.string f.first, .int .i64 f.pieces, .bool f.numbers, .string f.method, .int .i64 f.kind]
def sPUT : ByteArray := ⟨#[80, 85, 84]⟩
def sPOST : ByteArray := ⟨#[80, 79, 83, 84]⟩
def sGET : ByteArray := ⟨#[71, 69, 84]⟩
def formsL : List FormP := [
  ⟨⟨#[117, 112, 108, 111, 97, 100, 115]⟩, 1, false, sPUT, 1⟩,
  ⟨⟨#[104, 105, 115, 116, 111, 114, 105, 101, 115]⟩, 1, false, sPOST, 2⟩,
  ⟨⟨#[115, 112, 101, 99, 115]⟩, 1, false, sPUT, 3⟩,
  ⟨⟨#[106, 111, 98, 115]⟩, 2, false, sPOST, 4⟩,
  ⟨⟨#[106, 111, 98, 115]⟩, 1, true, sGET, 5⟩,
  ⟨⟨#[104, 101, 97, 100]⟩, 0, false, sGET, 10⟩,
  ⟨⟨#[104, 101, 97, 100, 115]⟩, 1, true, sGET, 6⟩,
  ⟨⟨#[101, 110, 116, 114, 105, 101, 115]⟩, 2, true, sGET, 7⟩,
  ⟨⟨#[103, 114, 111, 119, 116, 104]⟩, 2, true, sGET, 8⟩,
  ⟨⟨#[117, 115, 97, 103, 101]⟩, 0, false, sGET, 9⟩]
theorem row_form : (Try.prog.info? 87).map (fun i => (i.zero, i.size)) = some (some (.agg #[.string ⟨#[]⟩, .int .i64 0, .bool false, .string ⟨#[]⟩, .int .i64 0]), 5) := by kernel_rfl
set_option maxHeartbeats 1600000 in
set_option maxRecDepth 100000 in
theorem forms_c (w : World) : Calls Try.prog 43 #[] w (Rets (fun v w' => v = .slice (some ⟨w.heap.size, 0, none⟩) 10 10 ∧ w'.heap[w.heap.size]? = some (.cells (formsL.flatMap FormP.cells).toArray 87 (0, 0)) ∧ Keeps (fun _ => False) w w')) := by
  go_enter Try.func43, Try.ntmps43
  go_wp2_with ((with_reducible refine at_ 11 rfl ?_); go_must (refine step_lit rfl 84 _ 10 rfl (formsL.map fun f => .agg f.cells.toArray) rfl rfl (by decide) 87 _ 5 Try.underlying84 row_form (by decide) (by decide) (by intro v hv; rw [List.mem_map] at hv; obtain ⟨f, _, rfl⟩ := hv; rfl) ?_); intro w2 hb2 hk2 hs2)
  go_ret
  exact ⟨rfl, hb2, hk2⟩
end Go.Proofs.Ytibegbmehpggbaa
