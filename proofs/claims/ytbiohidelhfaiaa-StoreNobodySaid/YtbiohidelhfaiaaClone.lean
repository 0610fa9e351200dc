/-
  bytes.Clone.
-/
import Derived.Test.YtbiohidelhfaiaaSmall
namespace Go.Proofs.Ytbiohidelhfaiaa
open Go.RowKit Go.Canon Go.Mem
set_option linter.unusedVariables false
set_option linter.unusedSimpArgs false
set_option maxHeartbeats 800000 in
set_option maxRecDepth 100000 in
theorem clone_c {ok : Nat → Prop} {w : World} (v : Value) (xs : List Int) (hr : Rd w ok v xs.length (Disk.bytes8 xs)) (hl : xs.length ≤ 140737488355328) : Calls Try.prog 64 #[v] w (Rets (NewRow 5 1 xs.length (Disk.bytes8 xs) w)) := by
  obtain ⟨A, c, rfl, hc, hz⟩ := hr.slice
  cases A with
  | none =>
    obtain ⟨e1, rfl⟩ := hz rfl
    obtain rfl := List.eq_nil_of_length_eq_zero e1
    clear hr hz e1 hc
    have he : ∀ w : World, (binOp .eql 23 (.slice none 0 0) (.slice none 0 0)).run Try.prog w = .ok (.bool true) w := fun _ => rfl
    go_enter Try.func64, Try.ntmps64
    go_wp2
    go_ret
    exact ⟨OwnRow.nil _ _ _ _, Keeps.refl _ _⟩
  | some a =>
    obtain ⟨w1, hw1⟩ : ∃ w1, w1 = w.alloc (.cells #[] 5) := ⟨_, rfl⟩
    have hk1 : Keeps (fun _ => False) w w1 := by rw [hw1]; exact (Keeps.refl _ w).alloc _
    have hb1 : w1.heap[w.heap.size]? = some (.cells #[] 5 (0, 0)) := by rw [hw1]; exact heap_alloc_new w _
    have hO1 : OwnRow w1 (fun k => w.heap.size ≤ k) 5 1 (.slice (some ⟨w.heap.size, 0, none⟩) 0 0) 0 [] := ⟨⟨rfl, .inr ⟨w.heap.size, 0, #[], rfl, Nat.zero_le _, hb1, Nat.le_refl _, by unfold maxLen; omega, rfl, rfl⟩⟩, fun k hk => by simp only [Value.ownBlock, Option.some.injEq] at hk; omega⟩
    have HR := Lib.hid (hr.kept hk1 (fun _ _ h => h))
    have HW := Lib.hid hw1
    have HO1 := Lib.hid hO1
    clear hr hw1 hb1 hz hO1
    have he : ∀ w : World, (binOp .eql 23 (.slice (some a) xs.length c) (.slice none 0 0)).run Try.prog w = .ok (.bool false) w := fun _ => rfl
    go_enter Try.func64, Try.ntmps64
    go_wp2_with ((with_reducible refine at_ 7 rfl ?_); go_must (rw [← HW.out]; refine step_append_rd rfl _ _ _ rfl 5 _ 1 1 Try.underlying23 row_byte rfl (by decide) (.slice (some ⟨w.heap.size, 0, none⟩) 0 0) 0 [] rfl HO1.out _ xs.length (Disk.bytes8 xs) rfl HR.out (by rw [Disk.bytes8_len, Nat.mul_one]) (Disk.bytes8_one xs) (by simp only [maxLen]; omega) (by omega) ?_); intro v2 w2 hO2 hk2)
    go_ret
    rw [Nat.zero_add, List.nil_append] at hO2
    exact ⟨hO2.mono (fun k _ h => by have := hk1.size; omega), hk1.trans hk2 (fun k hk h => by simp only [Value.ownBlock, Option.some.injEq] at h; omega)⟩
end Go.Proofs.Ytbiohidelhfaiaa
