/-
  x[i:j] of a slice that is read.
-/
import Derived.Test.YtbiohidelhfaiaaSet
namespace Go.Proofs.Ytbiohidelhfaiaa
open Go.RowKit Go.Canon Go.Mem
set_option linter.unusedVariables false
set_option linter.unusedSimpArgs false
section
variable {P : Program} {ops : Array Oper} {op : Oper} {rest : List Oper} {a : Act} {w : World} {Q : Exit → Act → World → Prop}
/-- x[i:j] of a slice that is read. -/
theorem step_slice_mid {ok : Nat → Prop} (hgd : Region.wanted op (yielded ops a.tmps) = true) (ty : TypeId) (x l h : Operand) (ho : op.op = .slice ty x (some l) (some h) none) (ht : P.underlying ty = some (.slice (P.elem ty))) (hi : (P.info? (P.elem ty)).map (·.size) = some 1)
    (A : Option Addr) (n c i j : Nat) (kl kh : IntKind) (cs : List Value) (hx : a.eval x = .slice A n c) (hl : a.eval l = .int kl (i : Int)) (hh : a.eval h = .int kh (j : Int)) (hij : i ≤ j) (hj : j ≤ n) (hr : Rd w ok (.slice A n c) n cs) (hc : cs.length = n)
    (hk : ∀ v, Rd w ok v (j - i) ((cs.take j).drop i) → wpList P ops Q rest (a.put op.dst v) w) : wpList P ops Q (op :: rest) a w := by
  refine plain_ hgd fun K hK => ?_
  have hnc : n ≤ c := by obtain ⟨_, _, e, h, _⟩ := hr; cases e; exact h
  have hrun : (Instr.sliceAt ty (.slice A n c) (some (.int kl (i : Int))) (some (.int kh (j : Int))) none).run P w = .ok (sliced A i j c 1) w := by
    rw [run_sliceAt_slice w ty _ _ _ _ ht, run_slice_lh w ty A n c ht kl kh i j (by omega) (by omega) (by omega)]
    cases hq : P.info? (P.elem ty) with
    | none => simp [hq] at hi
    | some q =>
      have hs : q.size = 1 := by simpa [hq] using hi
      simp [sizeOf, typeInfo, hq, hs]
  unfold Oper.wp execOp
  simp only [ho, hx, hl, hh, Option.map_some, Option.map_none, Sem.run_bind, hrun, Result.andThen_ok, Sem.run_pure]
  have h1 := Rd.front hr j 1 hj (by omega)
  rw [Nat.mul_one] at h1
  exact hK _ _ (hk _ (Rd.tail h1 i hij (by rw [List.length_take]; omega)))
end
theorem info_elem : (Try.prog.info? (Try.prog.elem 23)).map (·.size) = some 1 := by kernel_rfl
theorem under_elem : Try.prog.underlying 23 = some (.slice (Try.prog.elem 23)) := by kernel_rfl
theorem drop8 (l : List Int) (k : Nat) : (Disk.bytes8 l).drop k = Disk.bytes8 (l.drop k) := by unfold Disk.bytes8; rw [List.map_drop]
theorem mid8 (l : List Int) (i j : Nat) : ((Disk.bytes8 l).take j).drop i = Disk.bytes8 ((l.drop i).take (j - i)) := by unfold Disk.bytes8; rw [← List.map_take, ← List.map_drop, List.drop_take]
end Go.Proofs.Ytbiohidelhfaiaa
