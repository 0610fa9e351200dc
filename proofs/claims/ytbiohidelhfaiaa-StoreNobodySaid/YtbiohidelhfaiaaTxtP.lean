/-
  Layer 4, plainly: pieces of a text, names, numbers in digits.
-/
import Derived.Test.YtbiohidelhfaiaaByte
namespace Go.Proofs.Ytbiohidelhfaiaa
set_option linter.unusedVariables false
set_option linter.unusedSimpArgs false
/-! ### pieces -/
def joinP (p : List Int) : List (List Int) → List (List Int)
  | [] => [p]
  | q :: r => (p ++ q) :: r
def splitF (x : Int) : List Int → List (List Int)
  | [] => [[]]
  | c :: r => if c = x then [] :: splitF x r else joinP [c] (splitF x r)
theorem splitF_ne (x : Int) : ∀ l, splitF x l ≠ []
  | [] => by simp [splitF]
  | c :: r => by
    rw [splitF]
    split
    · simp
    · cases splitF x r <;> simp [joinP]
theorem joinP_nil {l : List (List Int)} (h : l ≠ []) : joinP [] l = l := by
  cases l with
  | nil => exact (h rfl).elim
  | cons q r => simp [joinP]
theorem joinP_join (p q : List Int) (l : List (List Int)) : joinP p (joinP q l) = joinP (p ++ q) l := by
  cases l <;> simp [joinP]
theorem split_nil (x : Int) (p : List Int) : joinP p (splitF x []) = [p] := by simp [splitF, joinP]
theorem split_cut (x : Int) (p r : List Int) : joinP p (splitF x (x :: r)) = p :: splitF x r := by
  rw [splitF, if_pos rfl]; simp [joinP]
theorem split_on {c x : Int} (h : c ≠ x) (p r : List Int) : joinP p (splitF x (c :: r)) = joinP (p ++ [c]) (splitF x r) := by
  rw [splitF, if_neg h, joinP_join]
theorem joinP_len (p : List Int) {l : List (List Int)} (h : l ≠ []) : (joinP p l).length = l.length := by
  cases l with
  | nil => exact (h rfl).elim
  | cons q r => simp [joinP]
def cntF (x : Int) : List Int → Nat
  | [] => 0
  | c :: r => (if c = x then 1 else 0) + cntF x r
theorem split_len (x : Int) : ∀ l, (splitF x l).length = cntF x l + 1
  | [] => rfl
  | c :: r => by
    rw [splitF, cntF]
    split
    · rw [List.length_cons, split_len x r]; omega
    · rw [joinP_len _ (splitF_ne x r), split_len x r]; omega
theorem cntF_app (x : Int) : ∀ a b, cntF x (a ++ b) = cntF x a + cntF x b
  | [], b => by simp [cntF]
  | c :: r, b => by rw [List.cons_append, cntF, cntF, cntF_app x r]; omega
theorem cntF_le (x : Int) : ∀ l, cntF x l ≤ l.length
  | [] => Nat.le_refl _
  | c :: r => by have := cntF_le x r; rw [cntF, List.length_cons]; split <;> omega
theorem joinP_byte {p : List Int} (h : IsB p) : ∀ {l : List (List Int)}, (∀ q ∈ l, IsB q) → ∀ q ∈ joinP p l, IsB q
  | [], _, q, hq => by rw [joinP, List.mem_singleton] at hq; rw [hq]; exact h
  | y :: r, hl, q, hq => by
    rw [joinP, List.mem_cons] at hq
    rcases hq with rfl | hq
    · exact h.app (hl y (List.mem_cons_self ..))
    · exact hl q (List.mem_cons_of_mem _ hq)
theorem split_byte (x : Int) : ∀ {l : List Int}, IsB l → ∀ q ∈ splitF x l, IsB q
  | [], _, q, hq => by rw [splitF, List.mem_singleton] at hq; rw [hq]; exact IsB.nil
  | c :: r, h, q, hq => by
    have hr : ∀ q ∈ splitF x r, IsB q := split_byte x (fun y hy => h y (List.mem_cons_of_mem _ hy))
    rw [splitF] at hq
    split at hq
    · rcases List.mem_cons.1 hq with rfl | hq
      · exact IsB.nil
      · exact hr q hq
    · exact joinP_byte (IsB.one (h c (List.mem_cons_self ..))) hr q hq
theorem joinP_short (p : List Int) : ∀ {l : List (List Int)} (n : Nat), (∀ q ∈ l, p.length + q.length ≤ n) → p.length ≤ n → ∀ q ∈ joinP p l, q.length ≤ n
  | [], n, _, hp, q, hq => by rw [joinP, List.mem_singleton] at hq; rw [hq]; exact hp
  | y :: r, n, hl, hp, q, hq => by
    rw [joinP, List.mem_cons] at hq
    rcases hq with rfl | hq
    · rw [List.length_append]; exact hl y (List.mem_cons_self ..)
    · have := hl q (List.mem_cons_of_mem _ hq); omega
theorem split_short (x : Int) : ∀ (l : List Int), ∀ q ∈ splitF x l, q.length ≤ l.length
  | [], q, hq => by rw [splitF, List.mem_singleton] at hq; rw [hq]; exact Nat.le_refl _
  | c :: r, q, hq => by
    have hr := split_short x r
    rw [splitF] at hq
    split at hq
    · rcases List.mem_cons.1 hq with rfl | hq
      · simp
      · have := hr q hq; simp; omega
    · exact joinP_short [c] (c :: r).length (fun q hq => by have := hr q hq; simp; omega) (by simp) q hq
/-- What Fields answers. -/
def fieldsF (x : Int) (l : List Int) (most : Int) : List (List Int) × Bool := if most < (splitF x l).length then ([], false) else (splitF x l, true)
/-! ### names -/
def lowC (c : Int) : Bool := decide (97 ≤ c ∧ c ≤ 122)
def nameC (c : Int) : Bool := lowC c || decide (48 ≤ c ∧ c ≤ 57) || decide (c = 45)
def nameF (l : List Int) : Bool := decide (1 ≤ l.length ∧ l.length ≤ 16) && l.all nameC && (l.take 1).all lowC
/-! ### numbers in digits -/
def digC (c : Int) : Bool := decide (48 ≤ c ∧ c ≤ 57)
def valF (l : List Int) : Int := l.foldl (fun n c => 10 * n + (c - 48)) 0
theorem valF_snoc (l : List Int) (c : Int) : valF (l ++ [c]) = 10 * valF l + (c - 48) := by simp [valF, List.foldl_append]
/-- The digits of a number that is not below 0. -/
def digF : Nat → Int → List Int
  | 0, _ => []
  | f + 1, n => if n < 10 then [48 + n] else digF f (n / 10) ++ [48 + n % 10]
def decF (n : Int) : List Int := if n < 0 then 45 :: digF 30 (-n) else digF 30 n
/-- Written as a number is: digits, and no nought ahead of others. -/
def okD (l : List Int) : Bool := decide (1 ≤ l.length) && l.all digC && (decide (l.length ≤ 1) || (l.take 1).all fun c => decide (c ≠ 48))
def readD (l : List Int) : Int × Bool := if okD l = true ∧ valF l ≤ 9223372036854775807 then (valF l, true) else (0, false)
theorem valF_pos : ∀ {l : List Int}, l.all digC = true → 0 ≤ valF l := by
  have h : ∀ (l : List Int) (n : Int), l.all digC = true → 0 ≤ n → 0 ≤ l.foldl (fun n c => 10 * n + (c - 48)) n := by
    intro l
    induction l with
    | nil => intro n _ hn; exact hn
    | cons c r ih =>
      intro n h hn
      rw [List.all_cons, Bool.and_eq_true] at h
      have := of_decide_eq_true h.1
      exact ih _ h.2 (show 0 ≤ 10 * n + (c - 48) by omega)
  intro l hl
  exact h l 0 hl (by decide)
theorem valF_lt (l : List Int) (h : l.all digC = true) : valF l < 10 ^ l.length := by
  have go : ∀ n (l : List Int), l.length = n → l.all digC = true → valF l < 10 ^ l.length := by
    intro n
    induction n with
    | zero => intro l hl _; rw [List.eq_nil_of_length_eq_zero hl]; decide
    | succ n ih =>
      intro l hl h
      have hne : l ≠ [] := fun e => by rw [e] at hl; cases hl
      rw [← List.dropLast_concat_getLast hne, List.all_append, Bool.and_eq_true] at h
      have hd := of_decide_eq_true (by simpa [List.all_cons] using h.2 : digC (l.getLast hne) = true)
      have h1 := ih l.dropLast (by rw [List.length_dropLast, hl]; rfl) h.1
      rw [List.length_dropLast, hl, Nat.add_sub_cancel] at h1
      rw [← List.dropLast_concat_getLast hne, valF_snoc, List.length_append, List.length_dropLast, List.length_singleton, hl, Nat.add_sub_cancel, Int.pow_succ]
      omega
  exact go l.length l rfl h
theorem valF_ge {c : Int} {l : List Int} (h : (c :: l).all digC = true) (hc : c ≠ 48) : (10 : Int) ^ l.length ≤ valF (c :: l) := by
  have go : ∀ n (l : List Int), l.length = n → (c :: l).all digC = true → (10 : Int) ^ l.length ≤ valF (c :: l) := by
    intro n
    induction n with
    | zero =>
      intro l hl h
      rw [List.eq_nil_of_length_eq_zero hl] at h ⊢
      have := of_decide_eq_true (by simpa [List.all_cons] using h : digC c = true)
      show (10 : Int) ^ 0 ≤ 10 * 0 + (c - 48)
      have e : (10 : Int) ^ 0 = 1 := rfl
      omega
    | succ n ih =>
      intro l hl h
      have hne : l ≠ [] := fun e => by rw [e] at hl; cases hl
      have e : c :: l = (c :: l.dropLast) ++ [l.getLast hne] := by rw [List.cons_append, List.dropLast_concat_getLast hne]
      rw [e, List.all_append, Bool.and_eq_true] at h
      have hd := of_decide_eq_true (by simpa [List.all_cons] using h.2 : digC (l.getLast hne) = true)
      have h1 := ih l.dropLast (by rw [List.length_dropLast, hl]; rfl) h.1
      rw [List.length_dropLast, hl, Nat.add_sub_cancel] at h1
      rw [e, valF_snoc, hl, Int.pow_succ]
      omega
  exact go l.length l rfl h
/-- A number's digits are those that mean it. -/
theorem digF_all (f : Nat) : ∀ n : Int, 0 ≤ n → (digF f n).all digC = true := by
  induction f with
  | zero => intro n _; rfl
  | succ f ih =>
    intro n hn
    rw [digF]
    split
    · simp [digC]; omega
    · rw [List.all_append, ih _ (by omega), List.all_cons]
      simp [digC]; omega
theorem digF_val (f : Nat) : ∀ n : Int, 0 ≤ n → n < 10 ^ f → valF (digF f n) = n := by
  induction f with
  | zero => intro n h0 h1; have e : (10 : Int) ^ 0 = 1 := rfl; rw [digF]; show (0 : Int) = n; omega
  | succ f ih =>
    intro n h0 h1
    rw [digF]
    split
    · show 10 * 0 + (48 + n - 48) = n; omega
    · rw [Int.pow_succ] at h1
      rw [valF_snoc, ih (n / 10) (by omega) (by omega)]
      omega
theorem digF_ok (f : Nat) : ∀ n : Int, 0 ≤ n → n < 10 ^ (f + 1) → okD (digF (f + 1) n) = true := by
  induction f with
  | zero =>
    intro n h0 h1
    have e : (10 : Int) ^ 1 = 10 := rfl
    rw [digF, if_pos (by omega)]
    simp [okD, digC]; omega
  | succ f ih =>
    intro n h0 h1
    rw [digF]
    split
    · simp [okD, digC]; omega
    · rename_i h
      rw [Int.pow_succ] at h1
      have h2 := ih (n / 10) (by omega) (by omega)
      unfold okD at h2 ⊢
      rw [Bool.and_eq_true, Bool.and_eq_true] at h2
      obtain ⟨⟨h3, h4⟩, h5⟩ := h2
      have h3 := of_decide_eq_true h3
      rw [Bool.or_eq_true] at h5
      have hz : ((digF (f + 1) (n / 10)).take 1).all (fun c => decide (c ≠ 48)) = true := by
        rcases h5 with h5 | h5
        · -- one digit: not nought
          have h5 := of_decide_eq_true h5
          have hv := digF_val (f + 1) (n / 10) (by omega) (by omega)
          obtain ⟨y, hy⟩ : ∃ y, digF (f + 1) (n / 10) = [y] := by
            cases hl : digF (f + 1) (n / 10) with
            | nil => rw [hl] at h3; simp at h3
            | cons y r =>
              rw [hl] at h5
              cases r with
              | nil => exact ⟨y, rfl⟩
              | cons z t => simp at h5
          rw [hy] at hv ⊢
          have : valF [y] = 10 * 0 + (y - 48) := rfl
          simp
          omega
        · exact h5
      rw [List.length_append, List.all_append, h4, List.take_append_of_le_length h3, hz]
      simp [digC]; omega
/-- Digits that mean the same are the same, where none bears a nought ahead. -/
theorem okD_inj : ∀ (n : Nat) (a b : List Int), a.length = n → okD a = true → okD b = true → valF a = valF b → a = b := by
  have len : ∀ a b : List Int, okD a = true → okD b = true → valF a = valF b → a.length ≤ b.length := by
    intro a b ha hb hv
    unfold okD at ha hb
    rw [Bool.and_eq_true, Bool.and_eq_true] at ha hb
    obtain ⟨⟨a1, a2⟩, a3⟩ := ha
    obtain ⟨⟨b1, b2⟩, b3⟩ := hb
    have b1 := of_decide_eq_true b1
    have hvb := valF_lt b b2
    rw [Bool.or_eq_true] at a3
    rcases a3 with a3 | a3
    · have := of_decide_eq_true a3; omega
    · cases a with
      | nil => simp
      | cons c r =>
        have hc : c ≠ 48 := by simpa using a3
        have hg := valF_ge a2 hc
        rw [List.length_cons]
        have h1 : (10 : Int) ^ r.length < 10 ^ b.length := by omega
        have h2 : (10 : Nat) ^ r.length < 10 ^ b.length := by exact_mod_cast h1
        exact (Nat.pow_lt_pow_iff_right (by decide)).1 h2
  have same : ∀ (n : Nat) (a b : List Int), a.length = n → b.length = n → a.all digC = true → b.all digC = true → valF a = valF b → a = b := by
    intro n
    induction n with
    | zero => intro a b ha hb _ _ _; rw [List.eq_nil_of_length_eq_zero ha, List.eq_nil_of_length_eq_zero hb]
    | succ n ih =>
      intro a b ha hb h1 h2 hv
      have na : a ≠ [] := fun e => by rw [e] at ha; cases ha
      have nb : b ≠ [] := fun e => by rw [e] at hb; cases hb
      rw [← List.dropLast_concat_getLast na] at h1 hv ⊢
      rw [← List.dropLast_concat_getLast nb] at h2 hv ⊢
      rw [List.all_append, Bool.and_eq_true] at h1 h2
      rw [valF_snoc, valF_snoc] at hv
      have d1 := of_decide_eq_true (by simpa [List.all_cons] using h1.2 : digC (a.getLast na) = true)
      have d2 := of_decide_eq_true (by simpa [List.all_cons] using h2.2 : digC (b.getLast nb) = true)
      rw [ih a.dropLast b.dropLast (by rw [List.length_dropLast, ha]; rfl) (by rw [List.length_dropLast, hb]; rfl) h1.1 h2.1 (by omega), show a.getLast na = b.getLast nb by omega]
  intro n a b _ ha hb hv
  have h1 := len a b ha hb hv
  have h2 := len b a hb ha hv.symm
  unfold okD at ha hb
  rw [Bool.and_eq_true, Bool.and_eq_true] at ha hb
  exact same a.length a b rfl (by omega) ha.1.2 hb.1.2 hv
theorem okD_len {l : List Int} (h : okD l = true) (hv : valF l ≤ 9223372036854775807) : l.length ≤ 19 := by
  unfold okD at h
  rw [Bool.and_eq_true, Bool.and_eq_true] at h
  obtain ⟨⟨h1, h2⟩, h3⟩ := h
  rw [Bool.or_eq_true] at h3
  rcases h3 with h3 | h3
  · have := of_decide_eq_true h3; omega
  · cases l with
    | nil => simp
    | cons c r =>
      have hc : c ≠ 48 := by simpa using h3
      have hg := valF_ge h2 hc
      rw [List.length_cons]
      have h4 : (10 : Int) ^ r.length < 10 ^ 19 := by have : (10 : Int) ^ 19 = 10000000000000000000 := by decide
                                                      omega
      have h5 : (10 : Nat) ^ r.length < 10 ^ 19 := by exact_mod_cast h4
      have := (Nat.pow_lt_pow_iff_right (by decide)).1 h5
      omega
theorem dec_ok {n : Int} (h0 : 0 ≤ n) (h1 : n ≤ 9223372036854775807) : okD (decF n) = true ∧ valF (decF n) = n := by
  unfold decF
  rw [if_neg (by omega)]
  have h2 : n < 10 ^ (29 + 1) := by have : (10 : Int) ^ (29 + 1) = 1000000000000000000000000000000 := by decide
                                    omega
  exact ⟨digF_ok 29 n h0 h2, digF_val 30 n h0 h2⟩
theorem digF_fuel (f g : Nat) {n : Int} (h0 : 0 ≤ n) (h1 : n < 10 ^ (f + 1)) (h2 : n < 10 ^ (g + 1)) : digF (f + 1) n = digF (g + 1) n :=
  okD_inj _ _ _ rfl (digF_ok f n h0 h1) (digF_ok g n h0 h2) (by rw [digF_val (f + 1) n h0 h1, digF_val (g + 1) n h0 h2])
theorem dig_step {n : Int} (h : 10 ≤ n) (h1 : n < 10 ^ 29) : digF 30 n = digF 30 (n / 10) ++ [48 + n % 10] := by
  have p : (10 : Int) ^ (28 + 1) = 100000000000000000000000000000 := by decide
  have p2 : (10 : Int) ^ (29 + 1) = 1000000000000000000000000000000 := by decide
  rw [show (10 : Int) ^ 29 = 10 ^ (28 + 1) from rfl, p] at h1
  rw [digF, if_neg (by omega)]
  rw [digF_fuel 28 29 (n := n / 10) (by omega) (by rw [p]; omega) (by rw [p2]; omega)]
theorem p29 : (10 : Int) ^ 29 = 100000000000000000000000000000 := by decide
theorem dec_small {n : Int} (h : 0 ≤ n) (h1 : n < 10) : decF n = [48 + n] := by unfold decF; rw [if_neg (by omega), digF, if_pos h1]
theorem dec_step {n : Int} (h : 10 ≤ n) (h1 : n < 10 ^ 29) : decF n = decF (n / 10) ++ [48 + n % 10] := by
  unfold decF
  rw [if_neg (by omega), if_neg (by omega), dig_step h h1]
theorem dec_neg1 {n : Int} (h : 0 < n) (h1 : n < 10) : decF (-n) = [45, 48 + n] := by unfold decF; rw [if_pos (by omega), Int.neg_neg, digF, if_pos h1]
theorem dec_neg {n : Int} (h : 10 ≤ n) (h1 : n < 10 ^ 29) : decF (-n) = decF (-(n / 10)) ++ [48 + n % 10] := by
  unfold decF
  rw [if_pos (by omega), if_pos (by omega), Int.neg_neg, Int.neg_neg, dig_step h h1, List.cons_append]
theorem digF_byte (f : Nat) {n : Int} (h : 0 ≤ n) : IsB (digF f n) := fun x hx => by
  have := digF_all f n h
  rw [List.all_eq_true] at this
  have := of_decide_eq_true (this x hx)
  omega
theorem dec_byte (n : Int) : IsB (decF n) := by
  unfold decF
  split
  · intro x hx
    rcases List.mem_cons.1 hx with rfl | hx
    · decide
    · exact digF_byte 30 (by omega) x hx
  · exact digF_byte 30 (by omega)
theorem digF_len (f : Nat) : ∀ n : Int, (digF f n).length ≤ f := by
  induction f with
  | zero => intro n; exact Nat.le_refl _
  | succ f ih =>
    intro n
    rw [digF]
    split
    · simp
    · have := ih (n / 10); simp; omega
theorem dec_len (n : Int) : (decF n).length ≤ 31 := by
  unfold decF
  split
  · have := digF_len 30 (-n); simp; omega
  · have := digF_len 30 n; omega
/-- Written so: just if it reads so. -/
theorem dec_iff {l : List Int} (h : l.all digC = true) (hv : valF l ≤ 9223372036854775807) : decF (valF l) = l ↔ okD l = true := by
  obtain ⟨h1, h2⟩ := dec_ok (valF_pos h) hv
  constructor
  · intro e; rw [← e]; exact h1
  · intro e; exact okD_inj _ _ _ rfl h1 e h2
end Go.Proofs.Ytbiohidelhfaiaa
