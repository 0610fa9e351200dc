/-
  Frames, plainly: words, sums, frames.
-/
import Derived.Test.YtbiohidelhfaiaaDiskP
import Derived.Test.YtbiohidelhfaiaaByte
namespace Go.Proofs.Ytbiohidelhfaiaa
set_option linter.unusedVariables false
set_option linter.unusedSimpArgs false
/-- A number in so many bytes. -/
def wput : Nat → Int → List Int
  | 0, _ => []
  | n + 1, x => wput n (x / 256) ++ [x % 256]
def wget (l : List Int) : Int := l.foldl (fun x c => x * 256 + c) 0
theorem wput_len (n : Nat) : ∀ x, (wput n x).length = n := by
  induction n with
  | zero => intro x; rfl
  | succ n ih => intro x; rw [wput, List.length_append, ih]; rfl
theorem wput_byte (n : Nat) : ∀ x, IsB (wput n x) := by
  induction n with
  | zero => intro x y hy; cases hy
  | succ n ih =>
    intro x y hy
    rw [wput] at hy
    rcases List.mem_append.1 hy with hy | hy
    · exact ih _ y hy
    · rw [List.mem_singleton] at hy; subst hy; omega
theorem wget_snoc (l : List Int) (x : Int) : wget (l ++ [x]) = wget l * 256 + x := by simp [wget, List.foldl_append]
theorem wget_put (n : Nat) : ∀ x : Int, 0 ≤ x → x < 256 ^ n → wget (wput n x) = x := by
  induction n with
  | zero => intro x h0 h1; simp at h1; have : x = 0 := by omega
            subst this; rfl
  | succ n ih =>
    intro x h0 h1
    have hp : (256 : Int) ^ (n + 1) = 256 ^ n * 256 := by rw [Int.pow_succ]
    rw [wput, wget_snoc, ih (x / 256) (by omega) (by omega)]
    omega
/-- A sum's bytes, the lowest first. -/
def lowB (c : Int) : List Int := [c % 256, c / 256 % 256, c / 65536 % 256, c / 16777216 % 256]
theorem lowB_byte (c : Int) : IsB (lowB c) := by
  intro x hx
  simp only [lowB, List.mem_cons, List.not_mem_nil, or_false] at hx
  rcases hx with rfl | rfl | rfl | rfl <;> omega
end Go.Proofs.Ytbiohidelhfaiaa
