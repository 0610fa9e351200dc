/-
  The walks of package wire: a reader in memory; New, Idle.
-/
import Derived.Test.YtibegbmehpggbaaDoorWireP
import Derived.Test.YtibegbmehpggbaaDoorChunkR
import Derived.Test.YtibegbmehpggbaaDoorSet
namespace Go.Proofs.YtibegbmehpggbaaDoor
open Go.RowKit Go.Canon Go.Mem
set_option linter.unusedVariables false
set_option linter.unusedSimpArgs false
def wcells (vl vb vc : Value) (s : Wire.S) : List Value := [.bool true, .bool s.bad, .bool s.whole, .int .i64 (s.head : Nat), .int .i64 (s.lines : Nat), vl, .string (str s.x.method), .string (str s.x.target), .string (str s.x.token), vb, .bool s.sa, .bool s.sl, .bool s.se, .int .i64 s.left, vc, .bool s.inB]
/-- The reader of chunks, or none. -/
def ChIs (w : World) (R : Nat → Prop) (vc : Value) : Option Chunk.Rd → Prop
  | none => vc = .pointer none
  | some c => ∃ y, vc = .pointer (some ⟨y, 0, none⟩) ∧ RdIs w R y c
/-- A reader in memory. -/
def WIs (w : World) (S : Nat → Prop) (g : Nat) (s : Wire.S) : Prop := ∃ (vl vb vc : Value) (R1 R2 R3 : Nat → Prop), w.heap[g]? = some (.cells (wcells vl vb vc s).toArray 64 (0, 0)) ∧ S g ∧
  OwnRow w R1 5 1 vl s.line.length (Disk.bytes8 s.line) ∧ OwnRow w R2 5 1 vb s.x.body.length (Disk.bytes8 s.x.body) ∧ ChIs w R3 vc s.ch ∧
  (∀ k, R1 k → S k ∧ k ≠ g) ∧ (∀ k, R2 k → S k ∧ k ≠ g) ∧ (∀ k, R3 k → S k ∧ k ≠ g) ∧ (∀ k, R1 k → ¬ R2 k) ∧ (∀ k, R1 k → ¬ R3 k) ∧ (∀ k, R2 k → ¬ R3 k)
theorem ChIs.kept {w w' : World} {R S' : Nat → Prop} {vc : Value} {o : Option Chunk.Rd} (h : ChIs w R vc o) (hk : Keeps S' w w') (hn : ∀ k, R k → ¬ S' k) : ChIs w' R vc o := by
  cases o with
  | none => exact h
  | some c => obtain ⟨y, e, h⟩ := h; exact ⟨y, e, h.kept hk hn⟩
theorem WIs.kept {w w' : World} {S S' : Nat → Prop} {g : Nat} {s : Wire.S} (h : WIs w S g s) (hk : Keeps S' w w') (hn : ∀ k, S k → ¬ S' k) : WIs w' S g s := by
  obtain ⟨vl, vb, vc, R1, R2, R3, h1, h2, h3, h4, h5, h6, h7, h8, h9⟩ := h
  exact ⟨vl, vb, vc, R1, R2, R3, hk.heap h1 (hn g h2), h2, h3.kept hk (fun k h => hn k (h6 k h).1), h4.kept hk (fun k h => hn k (h7 k h).1), h5.kept hk (fun k h => hn k (h8 k h).1), h6, h7, h8, h9⟩
/-- What a step of a reader answers. -/
def WStep (w : World) (S : Nat → Prop) (g : Nat) (ans : Value) (s : Wire.S) : Value → World → Prop := fun v w' => v = ans ∧ WIs w' (fun k => S k ∨ w.heap.size ≤ k) g s ∧ Keeps S w w'
theorem str0 : (Value.string ⟨#[]⟩) = .string (str []) := rfl
set_option maxHeartbeats 800000 in
theorem newW_c (w : World) : Calls Tryd.prog 26 #[] w (Rets fun v w' => Keeps (fun _ => False) w w' ∧ ∃ g, w.heap.size ≤ g ∧ v = .pointer (some ⟨g, 0, none⟩) ∧ WIs w' (fun k => w.heap.size ≤ k) g Wire.new) := by
  go_enter Tryd.func26, Tryd.ntmps26
  go_wp2
  go_ret
  refine ⟨(Keeps.refl _ w).alloc _, w.heap.size, Nat.le_refl _, rfl, .slice none 0 0, .slice none 0 0, .pointer none, fun _ => False, fun _ => False, fun _ => False, ?_, Nat.le_refl _, OwnRow.nil _ _ _ _, OwnRow.nil _ _ _ _, rfl, fun _ h => h.elim, fun _ h => h.elim, fun _ h => h.elim, fun _ h => h.elim, fun _ h => h.elim, fun _ h => h.elim⟩
  exact heap_alloc_new w _
section
variable {w : World} {S : Nat → Prop} {g : Nat} {s : Wire.S}
end
end Go.Proofs.YtibegbmehpggbaaDoor
