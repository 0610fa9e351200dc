/-
  Layer 12, plainly: a reader byte by byte, and what it answers to all bytes at once.
-/
namespace Go.Chunk
set_option linter.unusedVariables false
set_option linter.unusedSimpArgs false
structure Rd where
  most : Int
  at_ : Int
  left : Int
  b : List Int
def digit (x : Int) : Int := if 48 ≤ x ∧ x ≤ 57 then x - 48 else if 97 ≤ x ∧ x ≤ 102 then x - 97 + 10 else -1
def count (r : Rd) (x : Int) : Int × Rd :=
  if digit x < 0 ∨ (r.at_ = 1 ∧ r.left = 0) then (4, r)
  else if r.most - r.b.length < 16 * r.left + digit x then (5, r)
  else (0, { r with left := 16 * r.left + digit x, at_ := 1 })
def must (r : Rd) (x want to : Int) : Int × Rd := if x = want then (0, { r with at_ := to }) else (4, r)
def take (r : Rd) (x : Int) : Int × Rd :=
  if r.at_ = 0 then count r x
  else if r.at_ = 1 then (if x = 13 then (0, { r with at_ := 2 }) else count r x)
  else if r.at_ = 2 then must r x 10 (if r.left = 0 then 6 else 3)
  else if r.at_ = 3 then (0, { r with b := r.b ++ [x], left := r.left - 1, at_ := if r.left - 1 = 0 then 4 else 3 })
  else if r.at_ = 4 then must r x 13 5
  else if r.at_ = 5 then must r x 10 0
  else if r.at_ = 6 ∧ r.left = 0 then must { r with left := -1 } x 13 6
  else must r x 10 7
def put (r : Rd) (x : Int) : (Bool × Int) × Rd :=
  if r.at_ = 7 ∨ r.at_ = 8 then ((false, 20), r)
  else if (take r x).1 ≠ 0 then ((false, (take r x).1), { (take r x).2 with at_ := 8 })
  else ((decide ((take r x).2.at_ = 7), 0), (take r x).2)
/-- All bytes: what was said, how many bytes it took, why not. -/
def go (r : Rd) : List Int → Int → List Int × Int × Int
  | [], _ => ([], 0, 3)
  | x :: l, i => if (put r x).1.2 ≠ 0 then ([], 0, (put r x).1.2) else if (put r x).1.1 then ((put r x).2.b, i + 1, 0) else go (put r x).2 l (i + 1)
def whole (b : List Int) (most : Int) : List Int × Int × Int := if most < 0 ∨ 2048 < most then ([], 0, 2) else go ⟨most, 0, 0, []⟩ b 0
/-! ### by pieces -/
def two : List Int → Int
  | [] => 3
  | [x] => if x = 13 then 3 else 4
  | x :: y :: _ => if x = 13 ∧ y = 10 then 0 else 4
def counts (x : Int) : Int := if digit x < 0 then 16 else digit x
theorem digit_le (x : Int) : digit x ≤ 15 := by unfold digit; split <;> (try split) <;> omega
def sz (most : Int) : List Int → Int → Int → Int × Int × Int
  | [], n, a => if a = 0 then (0, 0, 3) else (n, a + 2, 3)
  | x :: l, n, a => if 0 < a ∧ x = 13 then (n, a + 2, two (x :: l)) else if counts x = 16 ∨ (0 < a ∧ n = 0) then (0, 0, 4) else if most < 16 * n + counts x then (0, 0, 5) else sz most l (16 * n + counts x) (a + 1)
/-- Behind a size: n bytes, then CR LF and so on; or the end. -/
def after (most : Int) (body : List Int) (n : Int) (l : List Int) (i : Int) : List Int × Int × Int :=
  if n = 0 then (if two l ≠ 0 then ([], 0, two l) else (body, i + 2, 0))
  else if (l.length : Int) < n then ([], 0, 3)
  else if two (l.drop n.toNat) ≠ 0 then ([], 0, two (l.drop n.toNat)) else go ⟨most, 0, 0, body ++ l.take n.toNat⟩ (l.drop (n.toNat + 2)) (i + n + 2)
section
variable {m n i : Int} {b : List Int}
theorem go_nil (r : Rd) (i : Int) : go r [] i = ([], 0, 3) := rfl
theorem go_last (l : List Int) : go ⟨m, 6, 0, b⟩ l i = if two l ≠ 0 then ([], 0, two l) else (b, i + 2, 0) := by
  match l with
  | [] => rfl
  | [x] => by_cases hx : x = 13 <;> simp [go, put, take, must, two, hx]
  | x :: y :: l =>
    by_cases hx : x = 13 <;> by_cases hy : y = 10 <;> simp [go, put, take, must, two, hx, hy] <;> omega
theorem go_cr (l : List Int) : go ⟨m, 4, 0, b⟩ l i = if two l ≠ 0 then ([], 0, two l) else go ⟨m, 0, 0, b⟩ (l.drop 2) (i + 2) := by
  match l with
  | [] => rfl
  | [x] => by_cases hx : x = 13 <;> simp [go, put, take, must, two, hx]
  | x :: y :: l =>
    by_cases hx : x = 13 <;> by_cases hy : y = 10 <;> simp [go, put, take, must, two, hx, hy, Int.add_assoc]
theorem go_data : ∀ (l : List Int) (n : Nat) (b : List Int) (i : Int), 0 < n → go ⟨m, 3, n, b⟩ l i = if l.length < n then ([], 0, 3) else go ⟨m, 4, 0, b ++ l.take n⟩ (l.drop n) (i + n)
  | [], n, b, i, h => by rw [if_pos (by simpa using h)]; rfl
  | x :: l, n, b, i, h => by
    by_cases h1 : n = 1
    · subst h1
      simp [go, put, take]
    · have hm : ¬ ((n : Int) - 1 = 0) := by omega
      have e : ((n : Int) - 1) = ((n - 1 : Nat) : Int) := by omega
      have hn : n = (n - 1) + 1 := by omega
      have step : go ⟨m, 3, n, b⟩ (x :: l) i = go ⟨m, 3, (n : Int) - 1, b ++ [x]⟩ l (i + 1) := by
        have h1 : (put ⟨m, 3, n, b⟩ x) = ((false, 0), ⟨m, 3, (n : Int) - 1, b ++ [x]⟩) := by simp [put, take, hm]
        rw [go, h1]; simp
      rw [step, e, go_data l (n - 1) (b ++ [x]) (i + 1) (by omega)]
      by_cases hl : l.length < n - 1
      · rw [if_pos hl, if_pos (by simp; omega)]
      · rw [if_neg hl, if_neg (by simp; omega), hn, List.take_succ_cons, List.drop_succ_cons, ← hn, List.append_assoc]
        congr 1
        omega
theorem go_after (l : List Int) (hn : 0 ≤ n) : go ⟨m, if n = 0 then 6 else 3, n, b⟩ l i = after m b n l i := by
  unfold after
  by_cases h0 : n = 0
  · subst h0; rw [if_pos rfl, if_pos rfl]; exact go_last l
  · rw [if_neg h0, if_neg h0]
    obtain ⟨k, rfl⟩ : ∃ k : Nat, n = k := ⟨n.toNat, by omega⟩
    rw [go_data l k b i (by omega), Int.toNat_natCast]
    by_cases hl : l.length < k
    · rw [if_pos hl, if_pos (by omega)]
    · rw [if_neg hl, if_neg (by omega), go_cr, List.drop_drop]
theorem sz_le (m : Int) : ∀ (l : List Int) (n a : Int), 0 < a → (sz m l n a).2.2 = 0 → a + 2 ≤ (sz m l n a).2.1
  | [], n, a, ha, h => by have h0 : a ≠ 0 := by omega
                          simp [sz, h0] at h
  | x :: l, n, a, ha, h => by
    rw [sz] at h ⊢
    split at h
    · rename_i hc; rw [if_pos hc]; simp
    · rename_i hc
      rw [if_neg hc]
      split at h
      · simp at h
      · rename_i hc2
        rw [if_neg hc2]
        split at h
        · simp at h
        · rename_i hc3
          rw [if_neg hc3]
          have := sz_le m l (16 * n + counts x) (a + 1) (by omega) h
          omega
theorem go_size : ∀ (l : List Int) (n a i : Int), 0 < a → 0 ≤ n → go ⟨m, 1, n, b⟩ l i = (if (sz (m - b.length) l n a).2.2 ≠ 0 then ([], 0, (sz (m - b.length) l n a).2.2) else after m b (sz (m - b.length) l n a).1 (l.drop ((sz (m - b.length) l n a).2.1 - a).toNat) (i + ((sz (m - b.length) l n a).2.1 - a)))
  | [], n, a, i, ha, hn => by
    have h0 : a ≠ 0 := by omega
    simp [sz, go, h0]
  | x :: l, n, a, i, ha, hn => by
    by_cases hx : x = 13
    · subst hx
      have e : sz (m - b.length) (13 :: l) n a = (n, a + 2, two (13 :: l)) := by rw [sz, if_pos ⟨ha, rfl⟩]
      rw [e]
      have s1 : go ⟨m, 1, n, b⟩ (13 :: l) i = go ⟨m, 2, n, b⟩ l (i + 1) := by simp [go, put, take]
      rw [s1]
      match l with
      | [] => simp [go, two]
      | y :: l =>
        by_cases hy : y = 10
        · subst hy
          have s2 : go ⟨m, 2, n, b⟩ (10 :: l) (i + 1) = go ⟨m, if n = 0 then 6 else 3, n, b⟩ l (i + 1 + 1) := by
            by_cases h0 : n = 0 <;> simp [go, put, take, must, h0]
          rw [s2, go_after l hn]
          have h2 : (a + 2 - a).toNat = 2 := by omega
          simp only [two, h2]
          simp
          congr 1; omega
        · have s2 : go ⟨m, 2, n, b⟩ (y :: l) (i + 1) = ([], 0, 4) := by simp [go, put, take, must, hy]
          rw [s2]
          simp [two, hy]
    · have hd := digit_le x
      by_cases h1 : digit x < 0 ∨ n = 0
      · have e : sz (m - b.length) (x :: l) n a = (0, 0, 4) := by
          rw [sz, if_neg (fun h => hx h.2), if_pos (by unfold counts; rcases h1 with h | h; exact .inl (by rw [if_pos h]); exact .inr ⟨ha, h⟩)]
        have s1 : go ⟨m, 1, n, b⟩ (x :: l) i = ([], 0, 4) := by
          have : digit x < 0 ∨ ((1 : Int) = 1 ∧ n = 0) := by rcases h1 with h | h; exact .inl h; exact .inr ⟨rfl, h⟩
          have hp : (put ⟨m, 1, n, b⟩ x).1 = (false, 4) := by simp [put, take, count, hx, h1]
          rw [go, hp]; simp
        rw [e, s1]; simp
      · have hc : counts x = digit x := by unfold counts; rw [if_neg (fun h => h1 (.inl h))]
        by_cases h2 : m - b.length < 16 * n + digit x
        · have e : sz (m - b.length) (x :: l) n a = (0, 0, 5) := by
            rw [sz, if_neg (fun h => hx h.2), hc, if_neg (by rintro (h | h); omega; exact h1 (.inr h.2)), if_pos h2]
          have s1 : go ⟨m, 1, n, b⟩ (x :: l) i = ([], 0, 5) := by
            have hp : (put ⟨m, 1, n, b⟩ x).1 = (false, 5) := by simp [put, take, count, hx, h1, h2]
            rw [go, hp]; simp
          rw [e, s1]; simp
        · have e : sz (m - b.length) (x :: l) n a = sz (m - b.length) l (16 * n + digit x) (a + 1) := by
            rw [sz, if_neg (fun h => hx h.2), hc, if_neg (by rintro (h | h); omega; exact h1 (.inr h.2)), if_neg h2]
          have s1 : go ⟨m, 1, n, b⟩ (x :: l) i = go ⟨m, 1, 16 * n + digit x, b⟩ l (i + 1) := by
            have hp : put ⟨m, 1, n, b⟩ x = ((false, 0), ⟨m, 1, 16 * n + digit x, b⟩) := by simp [put, take, count, hx, h1, h2]
            rw [go, hp]; simp
          rw [e, s1, go_size l (16 * n + digit x) (a + 1) (i + 1) (by omega) (by omega)]
          by_cases h3 : (sz (m - b.length) l (16 * n + digit x) (a + 1)).2.2 = 0
          · have hk := sz_le (m - b.length) l (16 * n + digit x) (a + 1) (by omega) h3
            rw [if_neg (by simpa using h3), if_neg (by simpa using h3)]
            have e2 : ((sz (m - b.length) l (16 * n + digit x) (a + 1)).2.1 - a).toNat = ((sz (m - b.length) l (16 * n + digit x) (a + 1)).2.1 - (a + 1)).toNat + 1 := by omega
            rw [e2, List.drop_succ_cons]
            congr 1; omega
          · rw [if_pos h3, if_pos h3]
theorem sz_first (m : Int) (x : Int) (l : List Int) : sz m (x :: l) 0 0 = if digit x < 0 then (0, 0, 4) else if m < digit x then (0, 0, 5) else sz m l (digit x) 1 := by
  have hd := digit_le x
  rw [sz, if_neg (by omega)]
  by_cases h : digit x < 0
  · rw [if_pos h, if_pos (.inl (by unfold counts; rw [if_pos h]))]
  · have hc : counts x = digit x := by unfold counts; rw [if_neg h]
    rw [hc, if_neg h, if_neg (by omega)]
    simp
theorem go_round (l : List Int) : go ⟨m, 0, 0, b⟩ l i = if (sz (m - b.length) l 0 0).2.2 ≠ 0 then ([], 0, (sz (m - b.length) l 0 0).2.2) else after m b (sz (m - b.length) l 0 0).1 (l.drop (sz (m - b.length) l 0 0).2.1.toNat) (i + (sz (m - b.length) l 0 0).2.1) := by
  match l with
  | [] => simp [sz, go]
  | x :: l =>
    rw [sz_first]
    by_cases h : digit x < 0
    · have hp : (put ⟨m, 0, 0, b⟩ x).1 = (false, 4) := by simp [put, take, count, h]
      rw [if_pos h, go, hp]; simp
    · rw [if_neg h]
      by_cases h2 : m - b.length < digit x
      · have hp : (put ⟨m, 0, 0, b⟩ x).1 = (false, 5) := by simp [put, take, count, h, h2]
        rw [if_pos h2, go, hp]; simp
      · have hp : put ⟨m, 0, 0, b⟩ x = ((false, 0), ⟨m, 1, digit x, b⟩) := by simp [put, take, count, h, h2]
        have s1 : go ⟨m, 0, 0, b⟩ (x :: l) i = go ⟨m, 1, digit x, b⟩ l (i + 1) := by rw [go, hp]; simp
        rw [if_neg h2, s1, go_size l (digit x) 1 (i + 1) (by omega) (by omega)]
        by_cases h3 : (sz (m - b.length) l (digit x) 1).2.2 = 0
        · have hk := sz_le (m - b.length) l (digit x) 1 (by omega) h3
          rw [if_neg (by simpa using h3), if_neg (by simpa using h3)]
          have e2 : (sz (m - b.length) l (digit x) 1).2.1.toNat = ((sz (m - b.length) l (digit x) 1).2.1 - 1).toNat + 1 := by omega
          rw [e2, List.drop_succ_cons]
          congr 1; omega
        · rw [if_pos h3, if_pos h3]
theorem sz_in (m : Int) : ∀ (l : List Int) (n a : Int), 0 ≤ a → 0 ≤ n → (a ≠ 0 → n ≤ m) → (sz m l n a).2.2 = 0 → 0 ≤ (sz m l n a).1 ∧ (sz m l n a).1 ≤ m ∧ a ≤ (sz m l n a).2.1 ∧ (sz m l n a).2.1 ≤ a + l.length
  | [], n, a, ha, hn, hm, h => by by_cases h0 : a = 0 <;> simp [sz, h0] at h
  | x :: l, n, a, ha, hn, hm, h => by
    rw [sz] at h ⊢
    split at h
    · rename_i hc
      rw [if_pos hc]
      simp only at h ⊢
      match l with
      | [] => by_cases hx : x = 13 <;> simp [two, hx] at h
      | y :: l => exact ⟨hn, hm (by omega), by omega, by simp; omega⟩
    · rename_i hc
      rw [if_neg hc]
      split at h
      · simp at h
      · rename_i hc2
        rw [if_neg hc2]
        split at h
        · simp at h
        · rename_i hc3
          rw [if_neg hc3]
          have hc4 : 0 ≤ counts x := by unfold counts; split <;> omega
          have := sz_in m l (16 * n + counts x) (a + 1) (by omega) (by omega) (fun _ => by omega) h
          rw [List.length_cons]
          omega
theorem two_len {l : List Int} (h : two l = 0) : 2 ≤ l.length := by
  match l with
  | [] => simp [two] at h
  | [x] => by_cases hx : x = 13 <;> simp [two, hx] at h
  | x :: y :: l => simp
end
/-! ### what is printed -/
def hexc (d : Nat) : Int := if d < 10 then 48 + (d : Int) else 87 + (d : Int)
theorem digit_hexc {d : Nat} (h : d < 16) : digit (hexc d) = d := by
  unfold digit hexc
  split <;> split <;> (try split) <;> omega
theorem hexc_ne {d : Nat} (h : d < 16) : hexc d ≠ 13 := by unfold hexc; split <;> omega
def hex (n : Nat) : List Int := if h : n < 16 then [hexc n] else hex (n / 16) ++ [hexc (n % 16)]
termination_by n
decreasing_by omega
theorem hex_one {n : Nat} (h : n < 16) : hex n = [hexc n] := by rw [hex, dif_pos h]
theorem hex_more {n : Nat} (h : ¬ n < 16) : hex n = hex (n / 16) ++ [hexc (n % 16)] := by rw [hex, dif_neg h]
section
variable {m i : Int} {b : List Int}
theorem put_first {d : Nat} (h : d < 16) (hm : (d : Int) ≤ m - b.length) : put ⟨m, 0, 0, b⟩ (hexc d) = ((false, 0), ⟨m, 1, d, b⟩) := by
  have e := digit_hexc h
  simp [put, take, count, e, show ¬ ((d : Int) < 0) by omega, show ¬ (m - (b.length : Int) < (d : Int)) by omega]
theorem put_first_big {d : Nat} (h : d < 16) (hm : m - b.length < (d : Int)) : (put ⟨m, 0, 0, b⟩ (hexc d)).1 = (false, 5) := by
  have e := digit_hexc h
  simp [put, take, count, e, show ¬ ((d : Int) < 0) by omega, hm]
theorem put_more {n d : Nat} (h : d < 16) (hn : 0 < n) (hm : 16 * (n : Int) + d ≤ m - b.length) : put ⟨m, 1, n, b⟩ (hexc d) = ((false, 0), ⟨m, 1, 16 * (n : Int) + d, b⟩) := by
  have e := digit_hexc h
  simp [put, take, count, e, hexc_ne h, show ¬ ((d : Int) < 0) by omega, show ¬ (n = 0) by omega, show ¬ (m - (b.length : Int) < 16 * (n : Int) + d) by omega]
theorem put_more_big {n d : Nat} (h : d < 16) (hn : 0 < n) (hm : m - b.length < 16 * (n : Int) + d) : (put ⟨m, 1, n, b⟩ (hexc d)).1 = (false, 5) := by
  have e := digit_hexc h
  simp [put, take, count, e, hexc_ne h, show ¬ ((d : Int) < 0) by omega, show ¬ (n = 0) by omega, hm]
theorem go_hex : ∀ (n : Nat) (l : List Int) (i : Int), 0 < n → (n : Int) ≤ m - b.length → go ⟨m, 0, 0, b⟩ (hex n ++ l) i = go ⟨m, 1, n, b⟩ l (i + (hex n).length) := fun n => by
  induction n using Nat.strongRecOn with
  | _ n ih =>
    intro l i hn hm
    by_cases h : n < 16
    · rw [hex_one h]
      rw [List.singleton_append, go, put_first h hm]; simp
    · rw [hex_more h, List.append_assoc, List.singleton_append, ih (n / 16) (by omega) _ i (by omega) (by omega), go, put_more (by omega) (by omega) (by omega)]
      simp
      congr 1
      · congr 1; omega
      · omega
theorem go_hex_big : ∀ (n : Nat) (l : List Int) (i : Int), 0 < n → 0 ≤ m - b.length → m - b.length < n → go ⟨m, 0, 0, b⟩ (hex n ++ l) i = ([], 0, 5) := fun n => by
  induction n using Nat.strongRecOn with
  | _ n ih =>
    intro l i hn h0 hm
    by_cases h : n < 16
    · rw [hex_one h]
      rw [List.singleton_append, go, put_first_big h hm]; simp
    · rw [hex_more h, List.append_assoc, List.singleton_append]
      by_cases h1 : m - b.length < ((n / 16 : Nat) : Int)
      · exact ih (n / 16) (by omega) _ i (by omega) h0 h1
      · rw [go_hex (n / 16) _ i (by omega) (by omega), go, put_more_big (by omega) (by omega) (by omega)]
        simp
/-- Bytes in chunks. -/
def pr (size : Nat) (b : List Int) : List Int :=
  if h : size = 0 ∨ b = [] then [48, 13, 10, 13, 10] else hex (min size b.length) ++ [13, 10] ++ b.take (min size b.length) ++ [13, 10] ++ pr size (b.drop (min size b.length))
termination_by b.length
decreasing_by
  have : b.length ≠ 0 := fun h2 => h (.inr (List.eq_nil_of_length_eq_zero h2))
  rw [List.length_drop]; omega
theorem pr_nil (size : Nat) : pr size [] = [48, 13, 10, 13, 10] := by rw [pr, dif_pos (.inr rfl)]
theorem pr_cons {size : Nat} {d : List Int} (h : 0 < size) (hd : 0 < d.length) : pr size d = hex (min size d.length) ++ [13, 10] ++ d.take (min size d.length) ++ [13, 10] ++ pr size (d.drop (min size d.length)) := by
  conv => lhs; rw [pr]
  rw [dif_neg (by rintro (h1 | h1); omega; subst h1; simp at hd)]
theorem go_chunk {n : Nat} (hn : 0 < n) (d : List Int) (hd : d.length = n) (l : List Int) (i : Int) : go ⟨m, 1, n, b⟩ (13 :: 10 :: (d ++ 13 :: 10 :: l)) i = go ⟨m, 0, 0, b ++ d⟩ l (i + 4 + n) := by
  have h0 : (n : Int) ≠ 0 := by omega
  have s1 : go ⟨m, 1, n, b⟩ (13 :: 10 :: (d ++ 13 :: 10 :: l)) i = go ⟨m, if (n : Int) = 0 then 6 else 3, n, b⟩ (d ++ 13 :: 10 :: l) (i + 1 + 1) := by
    have hnn : n ≠ 0 := by omega
    simp [go, put, take, must, hnn]
  rw [s1, if_neg h0, go_data _ n b _ hn, if_neg (by simp [hd]), List.take_left' hd, List.drop_left' hd, go_cr]
  simp [two]
  congr 1; omega
/-- What is printed is read, whatever stands behind; or it is too much. -/
theorem go_pr {size : Nat} (hs : 0 < size) : ∀ (k : Nat) (d b behind : List Int) (i : Int), d.length ≤ k → (b.length : Int) ≤ m →
    go ⟨m, 0, 0, b⟩ (pr size d ++ behind) i = if (b.length : Int) + d.length ≤ m then (b ++ d, i + (pr size d).length, 0) else ([], 0, 5)
  | k, [], b, behind, i, hk, hb => by
    rw [if_pos (by simpa using hb), pr_nil]
    have : go ⟨m, 0, 0, b⟩ (48 :: ([13, 10, 13, 10] ++ behind)) i = (b, i + 5, 0) := by
      have hp : put ⟨m, 0, 0, b⟩ 48 = ((false, 0), ⟨m, 1, 0, b⟩) := put_first (d := 0) (by decide) (by simp; omega)
      rw [go, hp]
      simp [go, put, take, must]
      omega
    simpa using this
  | 0, x :: d, b, behind, i, hk, hb => by simp at hk
  | k + 1, x :: d, b, behind, i, hk, hb => by
    have hd : 0 < (x :: d).length := by simp
    generalize x :: d = e at *
    rw [pr_cons hs hd]
    obtain ⟨n, hn⟩ : ∃ n, n = min size e.length := ⟨_, rfl⟩
    rw [← hn]
    have hn0 : 0 < n := by omega
    have hn1 : n ≤ e.length := by omega
    have ht : (e.take n).length = n := by rw [List.length_take]; omega
    simp only [List.append_assoc]
    by_cases h1 : m - b.length < n
    · rw [go_hex_big n _ i hn0 (by omega) h1, if_neg (by omega)]
    · rw [go_hex n _ i hn0 (by omega)]
      simp only [List.cons_append, List.nil_append]
      rw [go_chunk hn0 _ ht, go_pr hs k (e.drop n) (b ++ e.take n) behind _ (by rw [List.length_drop]; omega) (by rw [List.length_append, ht]; omega)]
      have hdl : (e.drop n).length = e.length - n := List.length_drop ..
      by_cases h2 : (b.length : Int) + e.length ≤ m
      · rw [if_pos h2, if_pos (by rw [List.length_append, ht, hdl]; omega), List.append_assoc, List.take_append_drop]
        congr 2
        simp [ht]
        omega
      · rw [if_neg h2, if_neg (by rw [List.length_append, ht, hdl]; omega)]
/-- A beginning ends too early. -/
theorem go_short : ∀ (p : List Int) (r : Rd) (q bd : List Int) (i n : Int), go r (p ++ q) i = (bd, i + n, 0) → (p.length : Int) < n → go r p i = ([], 0, 3)
  | [], r, q, bd, i, n, h, hn => rfl
  | x :: p, r, q, bd, i, n, h, hn => by
    rw [List.cons_append, go] at h
    rw [go]
    split at h
    · rename_i h1
      simp at h; exact (h1 h.2.2).elim
    · rename_i h1
      rw [if_neg h1]
      split at h
      · simp at h; simp at hn; omega
      · rename_i h2
        rw [if_neg h2]
        exact go_short p _ q bd (i + 1) (n - 1) (by rw [h]; congr 2; omega) (by simp at hn; omega)
end
/-! ### one by one -/
def feed (r : Rd) (l : List Int) : Rd := l.foldl (fun r x => (put r x).2) r
/-- All are taken, and none but perhaps the last one is the end. -/
def alive : Rd → List Int → Prop
  | _, [] => True
  | r, x :: l => (put r x).1 = (false, 0) ∧ alive (put r x).2 l
def okrun : Rd → List Int → Prop
  | _, [] => True
  | r, x :: l => (put r x).1.2 = 0 ∧ okrun (put r x).2 l
theorem feed_cons (r : Rd) (x : Int) (l : List Int) : feed r (x :: l) = feed (put r x).2 l := rfl
theorem feed_snoc (r : Rd) (l : List Int) (x : Int) : feed r (l ++ [x]) = (put (feed r l) x).2 := by simp [feed, List.foldl_append]
theorem alive_ok : ∀ (l : List Int) (r : Rd), alive r l → okrun r l
  | [], _, _ => trivial
  | x :: l, r, h => ⟨by rw [h.1], alive_ok l _ h.2⟩
theorem alive_snoc : ∀ (l : List Int) (r : Rd) (x : Int), alive r l → (put (feed r l) x).1 = (false, 0) → alive r (l ++ [x])
  | [], r, x, h, h2 => ⟨h2, trivial⟩
  | y :: l, r, x, h, h2 => ⟨h.1, alive_snoc l _ x h.2 h2⟩
theorem okrun_snoc : ∀ (l : List Int) (r : Rd) (x : Int), okrun r l → (put (feed r l) x).1.2 = 0 → okrun r (l ++ [x])
  | [], r, x, h, h2 => ⟨h2, trivial⟩
  | y :: l, r, x, h, h2 => ⟨h.1, okrun_snoc l _ x h.2 h2⟩
theorem go_alive : ∀ (l : List Int) (r : Rd) (x i : Int), alive r l → go r (l ++ [x]) i = go (feed r l) [x] (i + l.length)
  | [], r, x, i, h => by simp [feed]
  | y :: l, r, x, i, h => by
    rw [List.cons_append, go, h.1]
    simp only [ne_eq, not_true_eq_false, if_false, Bool.false_eq_true]
    rw [go_alive l _ x (i + 1) h.2, feed_cons]
    congr 1
    simp; omega
theorem put_err (r : Rd) (x : Int) (h : r.at_ ≠ 7 ∧ r.at_ ≠ 8) : (put r x).1.2 = 0 ∨ ((put r x).1 = (false, 4) ∨ (put r x).1 = (false, 5)) ∧ (put r x).2.b = r.b ∧ (put r x).2.at_ = 8 := by
  have ht : (take r x).1 = 0 ∨ ((take r x).1 = 4 ∨ (take r x).1 = 5) ∧ (take r x).2.b = r.b := by
    unfold take count must
    repeat' split
    all_goals simp
  unfold put
  rw [if_neg (by rintro (h1 | h1); exact h.1 h1; exact h.2 h1)]
  rcases ht with h0 | ⟨h4 | h5, hb⟩
  · left; simp [h0]
  · right; simp [h4, hb]
  · right; simp [h5, hb]
theorem put_done (r : Rd) (x : Int) (h : r.at_ ≠ 7 ∧ r.at_ ≠ 8) (h0 : (put r x).1.2 = 0) : (put r x).1 = (decide ((put r x).2.at_ = 7), 0) ∧ (put r x).2.at_ ≠ 8 := by
  have hat : (take r x).1 = 0 → (take r x).2.at_ ≠ 8 := by
    unfold take count must
    repeat' split
    all_goals simp
    all_goals (try split) <;> simp_all
    all_goals omega
  unfold put at h0 ⊢
  rw [if_neg (by rintro (h1 | h1); exact h.1 h1; exact h.2 h1)] at h0 ⊢
  split at h0
  · rename_i hc; simp at h0; exact (hc h0).elim
  · rename_i hc
    rw [if_neg hc]
    exact ⟨rfl, hat (by simpa using hc)⟩
/-- What all bytes say, as far as they go. -/
def bodyOf (m : Int) (body : List Int) (l : List Int) : List Int :=
  if h : l = [] ∨ (sz m l 0 0).2.2 ≠ 0 ∨ (sz m l 0 0).1 = 0 then body
  else bodyOf m (body ++ (l.drop (sz m l 0 0).2.1.toNat).take (sz m l 0 0).1.toNat) (l.drop ((sz m l 0 0).2.1.toNat + (sz m l 0 0).1.toNat + 2))
termination_by l.length
decreasing_by
  have : l.length ≠ 0 := fun h2 => h (.inl (List.eq_nil_of_length_eq_zero h2))
  rw [List.length_drop]; omega
section
variable {m : Int}
theorem feed_last : ∀ (l : List Int) (r : Rd), 6 ≤ r.at_ → (feed r l).b = r.b
  | [], r, h => rfl
  | x :: l, r, h => by
    rw [feed_cons]
    have : 6 ≤ (put r x).2.at_ ∧ (put r x).2.b = r.b := by
      unfold put
      split
      · exact ⟨h, rfl⟩
      · have ht : 6 ≤ (take r x).2.at_ ∧ (take r x).2.b = r.b := by
          unfold take
          rw [if_neg (by omega), if_neg (by omega), if_neg (by omega), if_neg (by omega), if_neg (by omega), if_neg (by omega)]
          unfold must
          repeat' split
          all_goals simp
          all_goals omega
        split
        · exact ⟨by simp, ht.2⟩
        · exact ht
    rw [feed_last l _ this.1, this.2]
theorem feed_cr (l b : List Int) (h : okrun ⟨m, 4, 0, b⟩ l) : (feed ⟨m, 4, 0, b⟩ l).b = (feed ⟨m, 0, 0, b⟩ (l.drop 2)).b ∧ okrun ⟨m, 0, 0, b⟩ (l.drop 2) := by
  match l, h with
  | [], _ => exact ⟨rfl, trivial⟩
  | [x], h => exact ⟨by by_cases hx : x = 13 <;> simp [feed, put, take, must, hx], trivial⟩
  | x :: y :: l, h =>
    by_cases hx : x = 13
    · by_cases hy : y = 10
      · subst hx hy
        have e : feed ⟨m, 4, 0, b⟩ (13 :: 10 :: l) = feed ⟨m, 0, 0, b⟩ l := by simp [feed_cons, put, take, must]
        exact ⟨by rw [e]; rfl, by simpa [okrun, put, take, must] using h⟩
      · simp [okrun, put, take, must, hx, hy] at h
    · simp [okrun, put, take, must, hx] at h
theorem feed_data : ∀ (l : List Int) (n : Nat) (b : List Int), 0 < n → okrun ⟨m, 3, n, b⟩ l → (feed ⟨m, 3, n, b⟩ l).b = (feed ⟨m, 4, 0, b ++ l.take n⟩ (l.drop n)).b ∧ okrun ⟨m, 4, 0, b ++ l.take n⟩ (l.drop n)
  | [], n, b, h, _ => by simp [feed, okrun]
  | x :: l, n, b, h, ho => by
    by_cases h1 : n = 1
    · subst h1
      have hp : put ⟨m, 3, (1 : Nat), b⟩ x = ((false, 0), ⟨m, 4, 0, b ++ [x]⟩) := by simp [put, take]
      rw [feed_cons, hp]
      exact ⟨by simp, by have := ho.2; rw [hp] at this; simpa using this⟩
    · have hm : ¬ ((n : Int) - 1 = 0) := by omega
      have hp : put ⟨m, 3, n, b⟩ x = ((false, 0), ⟨m, 3, ((n - 1 : Nat) : Int), b ++ [x]⟩) := by simp [put, take, hm]; omega
      have hn : n = (n - 1) + 1 := by omega
      have ho2 := ho.2
      rw [hp] at ho2
      have := feed_data l (n - 1) (b ++ [x]) (by omega) ho2
      rw [feed_cons, hp, hn, List.take_succ_cons, List.drop_succ_cons]
      simpa using this
theorem feed_size : ∀ (l : List Int) (n a : Int) (b : List Int), 0 < a → 0 ≤ n → okrun ⟨m, 1, n, b⟩ l →
    ((sz m l n a).2.2 = 3 ∧ (feed ⟨m, 1, n, b⟩ l).b = b) ∨ ((sz m l n a).2.2 = 0 ∧ a ≤ (sz m l n a).2.1 ∧ 0 ≤ (sz m l n a).1 ∧ (feed ⟨m, 1, n, b⟩ l).b = (feed ⟨m, if (sz m l n a).1 = 0 then 6 else 3, (sz m l n a).1, b⟩ (l.drop ((sz m l n a).2.1 - a).toNat)).b ∧ okrun ⟨m, if (sz m l n a).1 = 0 then 6 else 3, (sz m l n a).1, b⟩ (l.drop ((sz m l n a).2.1 - a).toNat))
  | [], n, a, b, ha, hn, ho => by
    have h0 : a ≠ 0 := by omega
    left; simp [sz, h0, feed]
  | x :: l, n, a, b, ha, hn, ho => by
    by_cases hx : x = 13
    · subst hx
      have e : sz m (13 :: l) n a = (n, a + 2, two (13 :: l)) := by rw [sz, if_pos ⟨ha, rfl⟩]
      have hp : put ⟨m, 1, n, b⟩ 13 = ((false, 0), ⟨m, 2, n, b⟩) := by simp [put, take]
      have ho2 := ho.2
      rw [hp] at ho2
      rw [e, feed_cons, hp]
      match l, ho2 with
      | [], _ => left; simp [two, feed]
      | y :: l, ho2 =>
        by_cases hy : y = 10
        · subst hy
          have h2 : (a + 2 - a).toNat = 2 := by omega
          have hp2 : put ⟨m, 2, n, b⟩ 10 = ((false, 0), ⟨m, if n = 0 then 6 else 3, n, b⟩) := by by_cases h0 : n = 0 <;> simp [put, take, must, h0]
          have ho3 := ho2.2
          rw [hp2] at ho3
          right
          rw [feed_cons, hp2]
          simp only [h2]
          exact ⟨by simp [two], by omega, hn, rfl, ho3⟩
        · have := ho2.1
          simp [put, take, must, hy] at this
    · have hd := digit_le x
      have ho1 := ho.1
      have hc0 : ¬ (digit x < 0 ∨ n = 0) := by
        intro h1
        have hp : (put ⟨m, 1, n, b⟩ x).1 = (false, 4) := by simp [put, take, count, hx, h1]
        rw [hp] at ho1; simp at ho1
      have hc1 : ¬ (m - b.length < 16 * n + digit x) := by
        intro h2
        have hp : (put ⟨m, 1, n, b⟩ x).1 = (false, 5) := by simp [put, take, count, hx, hc0, h2]
        rw [hp] at ho1; simp at ho1
      have hc : counts x = digit x := by unfold counts; rw [if_neg (fun h => hc0 (.inl h))]
      have hp : put ⟨m, 1, n, b⟩ x = ((false, 0), ⟨m, 1, 16 * n + digit x, b⟩) := by simp [put, take, count, hx, hc0, hc1]
      have ho2 := ho.2
      rw [hp] at ho2
      have e : sz m (x :: l) n a = sz m l (16 * n + digit x) (a + 1) := by
        rw [sz, if_neg (fun h => hx h.2), hc, if_neg (by rintro (h | h); omega; exact hc0 (.inr h.2)), if_neg (by omega)]
      rw [e, feed_cons, hp]
      rcases feed_size l (16 * n + digit x) (a + 1) b (by omega) (by omega) ho2 with h | ⟨h1, h2, h3, h4, h5⟩
      · exact .inl h
      · right
        have e2 : ((sz m l (16 * n + digit x) (a + 1)).2.1 - a).toNat = ((sz m l (16 * n + digit x) (a + 1)).2.1 - (a + 1)).toNat + 1 := by omega
        rw [e2, List.drop_succ_cons]
        exact ⟨h1, by omega, h3, h4, h5⟩
theorem body_law : ∀ (k : Nat) (l b : List Int), l.length ≤ k → okrun ⟨m, 0, 0, b⟩ l → bodyOf m b l = (feed ⟨m, 0, 0, b⟩ l).b
  | _, [], b, _, _ => by rw [bodyOf, dif_pos (.inl rfl)]; rfl
  | 0, x :: l, b, h, _ => by simp at h
  | k + 1, x :: l, b, hk, ho => by
    have hd := digit_le x
    have ho1 := ho.1
    have hc0 : ¬ (digit x < 0) := by
      intro h1
      have hp : (put ⟨m, 0, 0, b⟩ x).1 = (false, 4) := by simp [put, take, count, h1]
      rw [hp] at ho1; simp at ho1
    have hc1 : ¬ (m - b.length < digit x) := by
      intro h2
      have hp : (put ⟨m, 0, 0, b⟩ x).1 = (false, 5) := by simp [put, take, count, hc0, h2]
      rw [hp] at ho1; simp at ho1
    have hp : put ⟨m, 0, 0, b⟩ x = ((false, 0), ⟨m, 1, digit x, b⟩) := by simp [put, take, count, hc0, hc1]
    have ho2 := ho.2
    rw [hp] at ho2
    have e : sz m (x :: l) 0 0 = sz m l (digit x) 1 := by rw [sz_first, if_neg hc0, if_neg (by omega)]
    rw [feed_cons, hp]
    rcases feed_size l (digit x) 1 b (by decide) (by omega) ho2 with ⟨h1, h2⟩ | ⟨h1, h2, h3, h4, h5⟩
    · rw [bodyOf, dif_pos (.inr (.inl (by rw [e, h1]; decide))), h2]
    · by_cases hn : (sz m l (digit x) 1).1 = 0
      · rw [bodyOf, dif_pos (.inr (.inr (by rw [e]; exact hn))), h4, if_pos hn]
        exact (feed_last _ ⟨m, 6, _, b⟩ (Int.le_refl 6)).symm
      · rw [bodyOf, dif_neg (by rw [e]; rintro (h | h | h); cases h; exact h h1; exact hn h), e]
        obtain ⟨n, hnn⟩ : ∃ n : Nat, (sz m l (digit x) 1).1 = n := ⟨(sz m l (digit x) 1).1.toNat, by omega⟩
        rw [if_neg hn] at h4 h5
        rw [hnn] at h4 h5 hn ⊢
        obtain ⟨h6, h7⟩ := feed_data _ n b (by omega) h5
        obtain ⟨h8, h9⟩ := feed_cr _ _ h7
        have e2 : (sz m l (digit x) 1).2.1.toNat = ((sz m l (digit x) 1).2.1 - 1).toNat + 1 := by omega
        rw [h4, h6, h8, e2, Int.toNat_natCast, List.drop_succ_cons, show ((sz m l (digit x) 1).2.1 - 1).toNat + 1 + n + 2 = (((sz m l (digit x) 1).2.1 - 1).toNat + (n + 2)) + 1 by omega, List.drop_succ_cons]
        rw [List.drop_drop, List.drop_drop] at h9 ⊢
        rw [show ((sz m l (digit x) 1).2.1 - 1).toNat + (n + 2) = ((sz m l (digit x) 1).2.1 - 1).toNat + n + 2 by omega] at *
        exact body_law k _ _ (by rw [List.length_drop]; simp at hk; omega) h9
end
end Go.Chunk
