/-
  ChunkReads: the walk.
-/
import Derived.Test.YtomnkdjlljobeaaChunkG
namespace Go.Proofs.Ytomnkdjlljobeaa
open Go.RowKit Go.Canon Go.Mem Go.Args
set_option linter.unusedVariables false
set_option linter.unusedSimpArgs false
theorem byte_of {w : World} {v : Value} {l : List Int} (h : Has w (.slice (.int .u8)) [v] l) : Byte l := by
  obtain ⟨A, c, _, _, _, _, h5⟩ := h
  intro x hx
  obtain ⟨i, hi, rfl⟩ := List.getElem_of_mem hx
  obtain ⟨a, es, _, _, _, h6⟩ := h5 i l[i] (List.getElem?_eq_getElem hi)
  have := h6.2
  simp [Lit.wf, IntKind.min, IntKind.max, IntKind.signed, IntKind.bits] at this
  omega
theorem Byte.take {l : List Int} (h : Byte l) (k : Nat) : Byte (l.take k) := fun x hx => h x (List.mem_of_mem_take hx)
theorem put_b (r : Chunk.Rd) (x : Int) : (Chunk.put r x).2.b.length ≤ r.b.length + 1 := by
  have ht : (Chunk.take r x).2.b.length ≤ r.b.length + 1 := by
    unfold Chunk.take Chunk.count Chunk.must
    repeat' split
    all_goals simp
  unfold Chunk.put
  repeat' split
  all_goals simp
  all_goals exact ht
theorem go_len : ∀ (l : List Int) (r : Chunk.Rd) (i : Int), (Chunk.go r l i).1.length ≤ r.b.length + l.length
  | [], r, i => by simp [Chunk.go]
  | x :: l, r, i => by
    have h := put_b r x
    rw [Chunk.go, List.length_cons]
    split
    · simp
    · split
      · simp only; omega
      · have := go_len l (Chunk.put r x).2 (i + 1)
        omega
theorem whole_len (l : List Int) (most : Int) : (Chunk.whole l most).1.length ≤ l.length := by
  unfold Chunk.whole
  split
  · simp
  · have := go_len l ⟨most, 0, 0, []⟩ 0
    simpa using this
theorem same_self {ok ok2 : Nat → Prop} {w : World} {v v2 : Value} {xs : List Int} (hr : Rd w ok v xs.length (Disk.bytes8 xs)) (hr2 : Rd w ok2 v2 xs.length (Disk.bytes8 xs)) (hl : xs.length ≤ 9223372036854775807) : Calls Try.prog 16 #[v, v2] w (Rets (Still (.bool true) w)) := by
  have h := same_c v v2 xs xs hr hr2 hl
  have e : decide (xs = xs) = true := by simp
  rw [e] at h
  exact h
set_option maxHeartbeats 3200000 in
set_option maxRecDepth 100000 in
theorem reads_in (W : World) (v : Value) (l0 : List Int) (most : Int) (hr : Rd W (fun k => k < W.heap.size) v l0.length (Disk.bytes8 l0)) (hB : Byte l0) : Calls Try.prog 3 #[v, .int .i64 most] W (Rets (Yes W)) := by
  have HR := Lib.hid hr
  have hl : (l0.take 6000).length ≤ 6000 := by rw [List.length_take]; omega
  have HB := Lib.hid (hB.take 6000)
  have hl2 : (l0.take 6000).length ≤ 140737488355328 := by omega
  have hl3 : (l0.take 6000).length ≤ 999999 := by omega
  have hl4 : (l0.take 6000).length ≤ 9223372036854775807 := by omega
  have HC := Lib.hid (cut_c v l0 HR.out 6000)
  have ht : (Chunk.whole (l0.take 6000) most).1.length ≤ 9223372036854775807 := by have := whole_len (l0.take 6000) most; omega
  clear hr hB HR
  generalize l0.take 6000 = l at *
  have HW1 := Lib.hid (fun (ok : Nat → Prop) (w : World) (v : Value) (h : Rd w ok v l.length (Disk.bytes8 l)) => whole12_c v l most h hl3 HB.out)
  have HW2 := Lib.hid (fun (ok : Nat → Prop) (w : World) (h0 : ∀ j, ok j → j < w.heap.size) (v : Value) (h : Rd w ok v l.length (Disk.bytes8 l)) => rwhole_c h0 v l most h hl3 HB.out)
  generalize Chunk.whole l most = t at *
  go_enter Try.func3, Try.ntmps3
  go_wp2_with (first
    | (go_at_call 17; refine Rets.use (lives12_c _) ?_; rintro v w7 ⟨rfl, hk7⟩)
    | (go_at_call 16; (refine Rets.use (same_self (hM.rd.kept hk24 (fun _ _ h => h)) (hC.kept hk04 (fun _ _ h => h)) hl4) ?_); rintro v w6 ⟨rfl, hk6⟩)
    | (go_at_call 16; (refine Rets.use (same_self (hO1.rd.kept hk3 (fun _ _ h => h)) hO2.rd ht) ?_); rintro v w5 ⟨rfl, hk5⟩; have hk24 := (hk2.trans hk3 (fun _ _ h => h)).trans hk5 (fun _ _ h => h); have hk04 := hk1.trans hk24 (fun _ _ h => h))
    | (go_at_call 15; (refine Rets.use (HW2.out (fun k => k < W.heap.size) w2 (fun j h => by have := hk1.size; have := hk2.size; omega) vC ((hC.kept hk1 (fun _ _ h => h)).kept hk2 (fun _ _ h => h))) ?_); rintro v w3 ⟨hk3, u2, rfl, hO2⟩)
    | (go_at_call 14; (refine Rets.use (HW1.out _ _ vM hM.rd) ?_); rintro v w2 ⟨hk2, u1, rfl, hO1⟩)
    | (go_at_call 13; refine Rets.use (copy_c vC l hC hl2) ?_; rintro vM w1 ⟨hM, hk1⟩)
    | (go_at_call 12; refine Rets.use HC.out ?_; rintro vC w0 ⟨hC, rfl⟩))
  go_ret
  exact ⟨rfl, (hk04.trans hk6 (fun _ _ h => h)).trans hk7 (fun _ _ h => h)⟩
theorem reads12_walk (W : World) (a0 : Option Addr) (n0 c0 : Nat) (x0 : (Kd.slice (.int .u8)).Dat) (H0 : Has W (.slice (.int .u8)) [.slice a0 n0 c0] x0) (n : Int) (wn : (Lit.int .i64 n).wf = true) :
    Calls Try.prog 3 #[.slice a0 n0 c0, .int .i64 n] W (Rets (Yes W)) := reads_in W _ _ n H0.bytes.1 (byte_of H0)
end Go.Proofs.Ytomnkdjlljobeaa
