/-
  WalNobody: the walk.
-/
import Derived.Test.YtmkpdoljaccpaaaWalV
namespace Go.Proofs.Ytmkpdoljaccpaaa
open Go.RowKit Go.Canon Go.Mem Go.Args
open Go.Disk (St)
set_option linter.unusedVariables false
set_option linter.unusedSimpArgs false
set_option maxHeartbeats 1600000 in
set_option maxRecDepth 100000 in
theorem walNobody_in (W : World) (v : Value) (b : List Int) (hr : Rd W (fun k => k < W.heap.size) v b.length (Disk.bytes8 b)) : Calls Try.prog 9 #[v] W (Rets (Yes W)) := by
  obtain ⟨w1, hw1⟩ : ∃ w1, w1 = W.alloc (Obj.cells #[.pointer none, .slice none 0 0, .int .i64 0, .bool false] 78) := ⟨_, rfl⟩
  have hk1 : Keeps (fun _ => False) W w1 := by rw [hw1]; exact (Keeps.refl _ W).alloc _
  have hb1 : w1.heap[W.heap.size]? = some (.cells #[.pointer none, .slice none 0 0, .int .i64 0, .bool false] 78 (0, 0)) := by rw [hw1]; exact heap_alloc_new W _
  have HR := Lib.hid (hr.kept hk1 (fun _ _ h => h))
  have HC := Lib.hid (cut_c v b HR.out 100)
  have HW := Lib.hid hw1
  have HK1 := Lib.hid hk1
  obtain ⟨w2, hw2⟩ : ∃ w2, w2 = w1.alloc (Obj.cells #[.slice none 0 0, .slice none 0 0, .slice none 0 0, .bool false, .int .i64 0, .bool false] 61) := ⟨_, rfl⟩
  have hk2 : Keeps (fun _ => False) w1 w2 := by rw [hw2]; exact (Keeps.refl _ w1).alloc _
  have hb2 : w2.heap[w1.heap.size]? = some (.cells #[.slice none 0 0, .slice none 0 0, .slice none 0 0, .bool false, .int .i64 0, .bool false] 61 (0, 0)) := by rw [hw2]; exact heap_alloc_new w1 _
  have HNo := Lib.hid (show NoDisk w2 (.pointer (some ⟨w1.heap.size, 0, none⟩)) from .inr ⟨_, rfl, cell_of_row w2 _ _ _ _ _ hb2⟩)
  have hb12 := hk2.heap hb1 (fun h => h)
  have c0 : w2.cell? ⟨W.heap.size, 0, none⟩ = some (.pointer none) := cell_of_row w2 _ _ _ _ _ hb12
  have c1 : w2.cell? ⟨W.heap.size, 1, none⟩ = some (.slice none 0 0) := cell_of_row w2 _ _ _ _ _ hb12
  have c2 : w2.cell? ⟨W.heap.size, 2, none⟩ = some (.int .i64 0) := cell_of_row w2 _ _ _ _ _ hb12
  have HNL := Lib.hid (show ∃ x, (Value.pointer (some ⟨W.heap.size, 0, none⟩)) = .pointer (some ⟨x, 0, none⟩) ∧ w2.cell? ⟨x, 0, none⟩ = some (.pointer none) ∧ w2.cell? ⟨x, 1, none⟩ = some (.slice none 0 0) ∧ w2.cell? ⟨x, 2, none⟩ = some (.int .i64 0) from ⟨_, rfl, c0, c1, c2⟩)
  have HW2 := Lib.hid hw2
  have HK2 := Lib.hid hk2
  clear hw1 hw2 hr hk1 hk2 hb1 hb2 hb12 c0 c1 c2
  go_enter Try.func9, Try.ntmps9
  go_wp2_with (first
    | (go_at_call 39; go_loud (refine Rets.use (lives10_c _) ?_); rintro v9 w9 ⟨rfl, hk9⟩)
    | (go_at_call 42; go_loud (refine Rets.use (room_no (by first | exact .inl rfl | exact .inr HNL.out)) ?_); rintro _ _ ⟨rfl, rfl⟩)
    | (go_at_call 36; go_loud (refine Rets.use (next_nil _) ?_); rintro _ _ ⟨rfl, rfl⟩)
    | (go_at_call 41; go_loud (refine Rets.use (texts_no (by first | exact .inl rfl | exact .inr HNL.out)) ?_); rintro _ _ ⟨rfl, rfl⟩)
    | (go_at_call 37; go_loud (refine Rets.use (append_no (by first | exact .inl rfl | exact .inr HNL.out) _) ?_); rintro _ _ ⟨rfl, rfl⟩)
    | (go_at_call 34; (try rw [← HW2.out]); go_loud (refine Rets.use (open_nob (by first | exact .inl rfl | exact HNo.out)) ?_); rintro _ _ ⟨rfl, rfl⟩)
    | (go_at_call 24; go_loud (rw [← HW.out]; refine Rets.use HC.out ?_; rintro vC w3 ⟨hC, rfl⟩)))
  go_ret
  exact ⟨rfl, (HK1.out.trans HK2.out (fun _ _ h => h)).trans hk9 (fun _ _ h => h)⟩
theorem walNobody_walk (W : World) (a0 : Option Addr) (n0 c0 : Nat) (x0 : (Kd.slice (.int .u8)).Dat) (H0 : Has W (.slice (.int .u8)) [.slice a0 n0 c0] x0) : Calls Try.prog 9 #[.slice a0 n0 c0] W (Rets (Yes W)) := walNobody_in W _ _ H0.bytes.1
end Go.Proofs.Ytmkpdoljaccpaaa
