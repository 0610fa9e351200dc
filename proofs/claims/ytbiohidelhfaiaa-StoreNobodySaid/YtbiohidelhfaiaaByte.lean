/-
  Lists of bytes.
-/
import Derived.Test.YtbiohidelhfaiaaDiskM
namespace Go.Proofs.Ytbiohidelhfaiaa
set_option linter.unusedVariables false
/-- All are bytes. -/
def IsB (l : List Int) : Prop := ∀ x ∈ l, 0 ≤ x ∧ x < 256
theorem IsB.take {l : List Int} (h : IsB l) (n : Nat) : IsB (l.take n) := fun x hx => h x (List.mem_of_mem_take hx)
theorem IsB.drop {l : List Int} (h : IsB l) (n : Nat) : IsB (l.drop n) := fun x hx => h x (List.mem_of_mem_drop hx)
theorem IsB.app {a b : List Int} (h : IsB a) (h' : IsB b) : IsB (a ++ b) := fun x hx => (List.mem_append.1 hx).elim (h x) (h' x)
theorem IsB.nil : IsB [] := fun x hx => by simp at hx
theorem IsB.one {x : Int} (h : 0 ≤ x ∧ x < 256) : IsB [x] := fun y hy => by rw [List.mem_singleton] at hy; rw [hy]; exact h
end Go.Proofs.Ytbiohidelhfaiaa
