/-
  ChunkPrints: the walk.
-/
import Derived.Test.YtomnkdjlljobeaaLPrints
namespace Go.Proofs.Ytomnkdjlljobeaa
open Go.RowKit Go.Canon Go.Mem Go.Args
set_option linter.unusedVariables false
set_option linter.unusedSimpArgs false
theorem printed_len (l : List Int) (size : Int) : (printed l size).1.length ≤ 9223372036854775807 := by
  unfold printed
  split
  · simp
  · split
    · simp
    · rename_i h
      have := pr_len size.toNat l.length l (Nat.le_refl _) (by omega)
      simp only
      omega
set_option maxHeartbeats 3200000 in
set_option maxRecDepth 100000 in
theorem prints_in (W : World) (v : Value) (l0 : List Int) (size : Int) (hr : Rd W (fun k => k < W.heap.size) v l0.length (Disk.bytes8 l0)) : Calls Try.prog 6 #[v, .int .i64 size] W (Rets (Yes W)) := by
  have HC := Lib.hid (cut_c v l0 hr 3000)
  have hl : (l0.take 3000).length ≤ 3000 := by rw [List.length_take]; omega
  clear hr
  generalize l0.take 3000 = l at *
  have hl2 : l.length ≤ 140737488355328 := by omega
  have hl4 : l.length ≤ 9223372036854775807 := by omega
  have ht := printed_len l size
  have HP1 := Lib.hid (fun (ok : Nat → Prop) (w : World) (v : Value) (h : Rd w ok v l.length (Disk.bytes8 l)) (hok : ∀ j, ok j → j < w.heap.size) => print12_c v l size h hok)
  have HP2 := Lib.hid (fun (ok : Nat → Prop) (w : World) (v : Value) (h : Rd w ok v l.length (Disk.bytes8 l)) (hok : ∀ j, ok j → j < w.heap.size) => rprint_c v l size h hok)
  generalize printed l size = t at *
  go_enter Try.func6, Try.ntmps6
  go_wp2_with (first
    | (go_at_call 17; refine Rets.use (lives12_c _) ?_; rintro v w7 ⟨rfl, hk7⟩)
    | (go_at_call 16; refine Rets.use (same_self (hM.rd.kept hk14 (fun _ _ h => h)) (hC.kept hk04 (fun _ _ h => h)) hl4) ?_; rintro v w6 ⟨rfl, hk6⟩)
    | (go_at_call 16; refine Rets.use (same_self (hO2.1.rd.kept hO3.2 (fun _ _ h => h)) hO3.1.rd ht) ?_; rintro v w5 ⟨rfl, hk5⟩; have hk14 := (hO2.2.trans hO3.2 (fun _ _ h => h)).trans hk5 (fun _ _ h => h); have hk04 := hk1.trans hk14 (fun _ _ h => h))
    | (go_at_call 24; refine Rets.use (HP2.out (fun k => k < W.heap.size) w2 vC ((hC.kept hk1 (fun _ _ h => h)).kept hO2.2 (fun _ _ h => h)) (fun j h => by have := hk1.size; have := hO2.2.size; omega)) ?_; rintro v w3 ⟨u3, rfl, hO3⟩)
    | (go_at_call 23; refine Rets.use (HP1.out _ _ vM hM.rd.lt (fun j h => h.2)) ?_; rintro v w2 ⟨u2, rfl, hO2⟩)
    | (go_at_call 13; refine Rets.use (copy_c vC l hC hl2) ?_; rintro vM w1 ⟨hM, hk1⟩)
    | (go_at_call 12; refine Rets.use HC.out ?_; rintro vC w0 ⟨hC, rfl⟩))
  go_ret
  exact ⟨rfl, (hk04.trans hk6 (fun _ _ h => h)).trans hk7 (fun _ _ h => h)⟩
theorem prints12_walk (W : World) (a0 : Option Addr) (n0 c0 : Nat) (x0 : (Kd.slice (.int .u8)).Dat) (H0 : Has W (.slice (.int .u8)) [.slice a0 n0 c0] x0) (n : Int) (wn : (Lit.int .i64 n).wf = true) :
    Calls Try.prog 6 #[.slice a0 n0 c0, .int .i64 n] W (Rets (Yes W)) := prints_in W _ _ n H0.bytes.1
end Go.Proofs.Ytomnkdjlljobeaa
