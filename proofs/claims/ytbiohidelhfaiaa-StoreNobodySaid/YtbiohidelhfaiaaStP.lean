/-
  Changes and their texts, plainly.
-/
import Derived.Test.YtbiohidelhfaiaaTxtP
import Derived.Test.YtbiohidelhfaiaaByte
namespace Go.Proofs.Ytbiohidelhfaiaa
set_option linter.unusedVariables false
set_option linter.unusedSimpArgs false
namespace Sto
/-! ### short numbers -/
def var : Nat → Nat → List Int
  | 0, x => [(x : Int)]
  | f + 1, x => if x < 128 then [(x : Int)] else (128 + (x % 128 : Nat) : Int) :: var f (x / 128)
def varF (x : Nat) : List Int := var 9 x
/-- A short number, how many bytes it has, the error. -/
def rdGo : List Int → Nat → Nat → Nat × Nat × Int
  | [], _, _ => (0, 0, 3)
  | c :: r, i, acc =>
    if i = 9 ∧ 1 < c then (0, 0, 4)
    else if c < 128 then (if c = 0 ∧ 0 < i then (0, 0, 4) else (acc + c.toNat * 128 ^ i, i + 1, 0))
    else rdGo r (i + 1) (acc + (c.toNat - 128) * 128 ^ i)
def rdF (l : List Int) : Nat × Nat × Int := rdGo l 0 0
theorem var_pos : ∀ f x, 0 < (var f x).length := by
  intro f x
  cases f with
  | zero => simp [var]
  | succ f => rw [var]; split <;> simp
theorem rdGo_le : ∀ (l : List Int) (i acc : Nat), (rdGo l i acc).2.2 = 0 → i + 1 ≤ (rdGo l i acc).2.1 ∧ (rdGo l i acc).2.1 ≤ i + l.length := by
  intro l
  induction l with
  | nil => intro i acc h; simp [rdGo] at h
  | cons c r ih =>
    intro i acc h
    rw [rdGo] at h ⊢
    split at h
    · simp at h
    · rename_i h1
      rw [if_neg h1]
      split at h
      · rename_i h2
        rw [if_pos h2]
        split at h
        · simp at h
        · rename_i h3
          rw [if_neg h3]
          simp
      · rename_i h2
        rw [if_neg h2]
        have := ih (i + 1) _ h
        rw [List.length_cons]
        omega
/-- What is written is read, whatever stands behind. -/
theorem rd_var : ∀ (f x : Nat) (i acc : Nat) (r : List Int), x < 128 ^ (f + 1) → f + i ≤ 9 → (i = 9 → x ≤ 1) → (f + i = 9 → x < 2 * 128 ^ f) → (0 < i → 0 < x) → rdGo (var f x ++ r) i acc = (acc + x * 128 ^ i, i + (var f x).length, 0) := by
  intro f
  induction f with
  | zero =>
    intro x i acc r hx hi h9 h2 h0
    simp only [Nat.zero_add, Nat.pow_one] at hx
    rw [var, List.singleton_append, rdGo, if_neg (by rintro ⟨h, h'⟩; have := h9 h; omega), if_pos (by omega), if_neg (by rintro ⟨h, h'⟩; have := h0 h'; omega)]
    simp
  | succ f ih =>
    intro x i acc r hx hi h9 h2 h0
    rw [var]
    by_cases hlt : x < 128
    · rw [if_pos hlt, List.singleton_append, rdGo, if_neg (by rintro ⟨h, h'⟩; omega), if_pos (by omega), if_neg (by rintro ⟨h, h'⟩; have := h0 h'; omega)]
      simp
    · rw [if_neg hlt, List.cons_append, rdGo, if_neg (by rintro ⟨h, h'⟩; omega), if_neg (by omega)]
      have hp : (128 : Nat) ^ (f + 1 + 1) = 128 * 128 ^ (f + 1) := by rw [Nat.pow_succ]; omega
      have hd : x / 128 < 128 ^ (f + 1) := by rw [Nat.div_lt_iff_lt_mul (by decide)]; omega
      have hp2 : (128 : Nat) ^ (f + 1) = 128 * 128 ^ f := by rw [Nat.pow_succ]; omega
      rw [ih (x / 128) (i + 1) _ r hd (by omega) (by intro h; have h3 := h2 (by omega); have : f = 0 := by omega
                                                     subst this; simp at h3; omega) (by intro h; have h3 := h2 (by omega); rw [Nat.div_lt_iff_lt_mul (by decide)]; omega) (by intro _; omega)]
      have hi1 : (128 : Nat) ^ (i + 1) = 128 * 128 ^ i := by rw [Nat.pow_succ]; omega
      refine Prod.ext ?_ (Prod.ext ?_ rfl)
      · have e : ((128 + (x % 128 : Nat) : Int).toNat - 128) = x % 128 := by omega
        have hm := Nat.div_add_mod x 128
        show acc + ((128 + (x % 128 : Nat) : Int).toNat - 128) * 128 ^ i + x / 128 * 128 ^ (i + 1) = acc + x * 128 ^ i
        rw [hi1, e]
        generalize (128 : Nat) ^ i = P
        generalize x / 128 = q at *
        generalize x % 128 = m at *
        subst hm
        rw [Nat.add_mul, Nat.add_assoc, Nat.add_comm (m * P), ← Nat.mul_assoc, Nat.mul_comm q 128]
      · simp only [List.length_cons]; omega
/-- What is read, written again, is what was read. -/
theorem var_rd : ∀ (l : List Int) (i acc : Nat), i ≤ 9 → (∀ c ∈ l, 0 ≤ c ∧ c < 256) → (rdGo l i acc).2.2 = 0 → ∃ x, (rdGo l i acc).1 = acc + x * 128 ^ i ∧ l.take ((rdGo l i acc).2.1 - i) = var (9 - i) x ∧ (0 < i → 0 < x) ∧ x < 2 * 128 ^ (9 - i) := by
  intro l
  induction l with
  | nil => intro i acc _ _ h; simp [rdGo] at h
  | cons c r ih =>
    intro i acc hi hB h
    have hc := hB c (List.mem_cons_self ..)
    rw [rdGo] at h ⊢
    split at h
    · simp at h
    · rename_i h1
      rw [if_neg h1]
      have e : (c.toNat : Int) = c := Int.toNat_of_nonneg hc.1
      split at h
      · rename_i h2
        rw [if_pos h2]
        split at h
        · simp at h
        · rename_i h3
          rw [if_neg h3]
          refine ⟨c.toNat, rfl, ?_, fun h => by
            rcases Nat.eq_zero_or_pos c.toNat with h4 | h4
            · exact (h3 ⟨by omega, h⟩).elim
            · exact h4, ?_⟩
          · simp only [Nat.add_sub_cancel_left, List.take_succ_cons, List.take_zero]
            cases hf : 9 - i with
            | zero => rw [var, e]
            | succ f => rw [var, if_pos (by omega), e]
          · by_cases h9 : i = 9
            · subst h9
              have : ¬ 1 < c := fun h => h1 ⟨rfl, h⟩
              simp; omega
            · obtain ⟨f, hf⟩ : ∃ f, 9 - i = f + 1 := ⟨9 - i - 1, by omega⟩
              rw [hf, Nat.pow_succ]
              have : 0 < 128 ^ f := Nat.pow_pos (by decide)
              omega
      · rename_i h2
        rw [if_neg h2]
        have hi2 : i + 1 ≤ 9 := by
          rcases Nat.lt_or_ge i 9 with h | h
          · omega
          · exact (h1 ⟨by omega, by omega⟩).elim
        obtain ⟨x, h4, h5, h6, h7⟩ := ih (i + 1) _ hi2 (fun y hy => hB y (List.mem_cons_of_mem _ hy)) h
        have hle := rdGo_le r (i + 1) _ h
        have hx := h6 (Nat.succ_pos _)
        obtain ⟨f, hf⟩ : ∃ f, 9 - i = f + 1 := ⟨9 - i - 1, by omega⟩
        have hf1 : 9 - (i + 1) = f := by omega
        rw [hf1] at h5 h7
        refine ⟨(c.toNat - 128) + x * 128, ?_, ?_, fun _ => by omega, ?_⟩
        · rw [h4, Nat.pow_succ]
          generalize (128 : Nat) ^ i = P
          rw [Nat.add_mul, Nat.add_assoc, Nat.mul_assoc, Nat.mul_comm 128 P]
        · obtain ⟨m, hm⟩ : ∃ m, (rdGo r (i + 1) (acc + (c.toNat - 128) * 128 ^ i)).2.1 - i = m + 1 := ⟨(rdGo r (i + 1) (acc + (c.toNat - 128) * 128 ^ i)).2.1 - (i + 1), by omega⟩
          have hm2 : (rdGo r (i + 1) (acc + (c.toNat - 128) * 128 ^ i)).2.1 - (i + 1) = m := by omega
          rw [hm2] at h5
          rw [hm, List.take_succ_cons, h5, hf, var, if_neg (by omega)]
          have e1 : ((c.toNat - 128) + x * 128) % 128 = c.toNat - 128 := by omega
          have e2 : ((c.toNat - 128) + x * 128) / 128 = x := by omega
          rw [e1, e2]
          congr 1
          omega
        · rw [hf, Nat.pow_succ]
          omega
/-! ### changes -/
structure Chg where
  key : List Int
  del : Bool
  val : List Int
deriving DecidableEq
def keyC (c : Int) : Bool := decide (33 ≤ c ∧ c ≤ 126)
def keyF (k : List Int) : Bool := k.all keyC && decide (1 ≤ k.length ∧ k.length ≤ 40)
/-- What is wrong with one change, behind others. -/
def chk1 (ahead : List Chg) (c : Chg) : Int :=
  if keyF c.key = false then 2 else if 4096 < c.val.length then 5 else if c.del = true ∧ 0 < c.val.length then 2 else if (ahead.any fun a => decide (a.key = c.key)) = true then 10 else 0
def chkGo : List Chg → List Chg → Int
  | _, [] => 0
  | ahead, c :: r => if chk1 ahead c ≠ 0 then chk1 ahead c else chkGo (ahead ++ [c]) r
def chk (l : List Chg) : Int := if l.length = 0 ∨ 16 < l.length then 2 else chkGo [] l
def counted (b : List Int) : List Int := varF b.length ++ b
def enc1 (c : Chg) : List Int := (if c.del = true then 1 else 0) :: (counted c.key ++ if c.del = true then [] else counted c.val)
def encL (l : List Chg) : List Int := varF l.length ++ l.flatMap enc1
def enc (l : List Chg) : List Int × Int := if chk l ≠ 0 then ([], chk l) else (encL l, 0)
/-! ### read -/
/-- Bytes that are counted, what is behind. -/
def piece (b : List Int) : Option (List Int × List Int) :=
  if (rdF b).2.2 ≠ 0 ∨ b.length - (rdF b).2.1 < (rdF b).1 then none else some ((b.drop (rdF b).2.1).take (rdF b).1, b.drop ((rdF b).2.1 + (rdF b).1))
def change (b : List Int) : Option (Chg × List Int) :=
  match b with
  | [] => none
  | t :: r => if 1 < t then none else match piece r with
    | none => none
    | some (k, r2) => if t = 1 then some (⟨k, true, []⟩, r2) else match piece r2 with
      | none => none
      | some (v, r3) => some (⟨k, false, v⟩, r3)
def changes : Nat → List Int → Option (List Chg × List Int)
  | 0, b => some ([], b)
  | n + 1, b => match change b with
    | none => none
    | some (c, r) => match changes n r with
      | none => none
      | some (l, r2) => some (c :: l, r2)
def dec (b : List Int) : List Chg × Int :=
  if (rdF b).2.2 ≠ 0 ∨ 16 < (rdF b).1 then ([], 4) else match changes (rdF b).1 (b.drop (rdF b).2.1) with
    | none => ([], 4)
    | some (l, r) => if r ≠ [] ∨ chk l ≠ 0 then ([], 4) else (l, 0)
end Sto
end Go.Proofs.Ytbiohidelhfaiaa
