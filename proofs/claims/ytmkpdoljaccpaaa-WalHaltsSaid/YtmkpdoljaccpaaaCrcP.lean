/-
  Sums, plainly: no burst of at most 32 bits goes unseen.
-/
import Derived.Test.YtmkpdoljaccpaaaFrame
namespace Go.Proofs.Ytmkpdoljaccpaaa
open Go.RowKit
set_option linter.unusedVariables false
set_option linter.unusedSimpArgs false
/-! ### one bit -/
def T32 (s : BitVec 32) : BitVec 32 := (s >>> 1) ^^^ (if s.getLsbD 0 = true then 0xedb88320#32 else 0#32)
theorem T32_xor (a b : BitVec 32) : T32 (a ^^^ b) = T32 a ^^^ T32 b := by
  unfold T32
  rw [BitVec.ushiftRight_xor_distrib, BitVec.getLsbD_xor]
  generalize a >>> 1 = x
  generalize b >>> 1 = y
  cases a.getLsbD 0 <;> cases b.getLsbD 0 <;> simp
  · rw [BitVec.xor_assoc]
  · rw [BitVec.xor_assoc, BitVec.xor_assoc, BitVec.xor_comm y]
  · rw [BitVec.xor_assoc, BitVec.xor_comm y, ← BitVec.xor_assoc (3988292384#32), BitVec.xor_self, BitVec.zero_xor]
theorem T32_zero : T32 0#32 = 0#32 := by decide
theorem T32_inj {s : BitVec 32} (h : T32 s = 0#32) : s = 0#32 := by
  unfold T32 at h
  cases hs : s.getLsbD 0
  · rw [hs] at h
    simp at h
    have h1 : s.toNat / 2 = 0 := by
      have := congrArg BitVec.toNat h
      simpa [Nat.shiftRight_eq_div_pow] using this
    have h2 : s.toNat % 2 = 0 := by
      have : s.toNat.testBit 0 = false := hs
      rw [Nat.testBit_zero] at this
      simpa using this
    apply BitVec.eq_of_toNat_eq
    simp
    omega
  · rw [hs] at h
    simp at h
    have h1 : s.toNat / 2 = 3988292384 := by
      have := congrArg BitVec.toNat h
      simpa [Nat.shiftRight_eq_div_pow] using this
    have := s.isLt
    omega
theorem ofInt_xor (x y : Int) : BitVec.ofInt 32 (bits .xor .u32 x y) = BitVec.ofInt 32 x ^^^ BitVec.ofInt 32 y := by
  unfold bits
  simp only [IntKind.wrap_u32]
  have : ∀ v : BitVec 32, BitVec.ofInt 32 ((v.toNat : Int) % 4294967296) = v := by
    intro v
    apply BitVec.eq_of_toNat_eq
    have := v.isLt
    rw [BitVec.toNat_ofInt]
    omega
  exact this _
theorem ofInt_and (x y : Int) : BitVec.ofInt 32 (bits .and .u32 x y) = BitVec.ofInt 32 x &&& BitVec.ofInt 32 y := by
  unfold bits
  simp only [IntKind.wrap_u32]
  have : ∀ v : BitVec 32, BitVec.ofInt 32 ((v.toNat : Int) % 4294967296) = v := by
    intro v
    apply BitVec.eq_of_toNat_eq
    have := v.isLt
    rw [BitVec.toNat_ofInt]
    omega
  exact this _
theorem ofInt_mod (x : Int) : BitVec.ofInt 32 (x % 4294967296) = BitVec.ofInt 32 x := by
  apply BitVec.eq_of_toNat_eq
  rw [BitVec.toNat_ofInt, BitVec.toNat_ofInt]
  omega
theorem crc1_T {c : Int} (h0 : 0 ≤ c) (h1 : c < 4294967296) : BitVec.ofInt 32 (crc1 c) = T32 (BitVec.ofInt 32 c) := by
  unfold crc1
  rw [ofInt_xor, ofInt_and, ofInt_mod, BitVec.ofInt_neg, ofInt_and]
  have e1 : BitVec.ofInt 32 (c / 2) = BitVec.ofInt 32 c >>> 1 := by
    apply BitVec.eq_of_toNat_eq
    rw [BitVec.toNat_ushiftRight, BitVec.toNat_ofInt, BitVec.toNat_ofInt, Nat.shiftRight_eq_div_pow]
    omega
  rw [e1]
  unfold T32
  congr 1
  have e2 : BitVec.ofInt 32 c &&& BitVec.ofInt 32 1 = if (BitVec.ofInt 32 c).getLsbD 0 = true then 1#32 else 0#32 := by
    apply BitVec.eq_of_toNat_eq
    rw [BitVec.toNat_and]
    have : (BitVec.ofInt 32 (1 : Int)).toNat = 1 := by decide
    rw [this, Nat.and_one_is_mod]
    have e3 : (BitVec.ofInt 32 c).getLsbD 0 = decide ((BitVec.ofInt 32 c).toNat % 2 = 1) := by
      show (BitVec.ofInt 32 c).toNat.testBit 0 = _
      rw [Nat.testBit_zero]
    rw [e3]
    by_cases hh : (BitVec.ofInt 32 c).toNat % 2 = 1
    · rw [show decide ((BitVec.ofInt 32 c).toNat % 2 = 1) = true by simpa using hh, if_pos rfl, hh]; rfl
    · rw [show decide ((BitVec.ofInt 32 c).toNat % 2 = 1) = false from decide_eq_false hh, if_neg (by simp), show (BitVec.ofInt 32 c).toNat % 2 = 0 by omega]; rfl
  rw [e2]
  split
  · decide
  · decide
/-! ### many bits -/
def TN : Nat → BitVec 32 → BitVec 32
  | 0, s => s
  | n + 1, s => TN n (T32 s)
theorem TN_xor (n : Nat) : ∀ a b, TN n (a ^^^ b) = TN n a ^^^ TN n b := by
  induction n with
  | zero => intro a b; rfl
  | succ n ih => intro a b; rw [TN, T32_xor, ih]; rfl
theorem TN_zero (n : Nat) : TN n 0#32 = 0#32 := by
  induction n with
  | zero => rfl
  | succ n ih => rw [TN, T32_zero, ih]
theorem TN_inj (n : Nat) : ∀ {s : BitVec 32}, TN n s = 0#32 → s = 0#32 := by
  induction n with
  | zero => intro s h; exact h
  | succ n ih => intro s h; exact T32_inj (ih h)
theorem TN_add (n m : Nat) : ∀ s, TN (n + m) s = TN m (TN n s) := by
  induction n with
  | zero => intro s; rw [Nat.zero_add]; rfl
  | succ n ih => intro s; rw [show n + 1 + m = n + m + 1 by omega, TN, ih]; rfl
theorem TN_succ (n : Nat) (s : BitVec 32) : TN (n + 1) s = T32 (TN n s) := by
  rw [TN_add n 1]; rfl
def bit32 (b : Bool) : BitVec 32 := if b = true then 1#32 else 0#32
theorem bit32_xor (a b : Bool) : bit32 (a ^^ b) = bit32 a ^^^ bit32 b := by cases a <;> cases b <;> decide
def crcBits (s : BitVec 32) (l : List Bool) : BitVec 32 := l.foldl (fun s b => T32 (s ^^^ bit32 b)) s
theorem crcBits_app (s : BitVec 32) (a b : List Bool) : crcBits s (a ++ b) = crcBits (crcBits s a) b := List.foldl_append
theorem crcBits_xor : ∀ (a b : List Bool) (s t : BitVec 32), a.length = b.length → crcBits (s ^^^ t) (List.zipWith xor a b) = crcBits s a ^^^ crcBits t b := by
  intro a
  induction a with
  | nil => intro b s t h; cases b with
    | nil => rfl
    | cons y r => cases h
  | cons x a ih =>
    intro b s t h
    cases b with
    | nil => cases h
    | cons y b =>
      simp only [List.length_cons, Nat.add_right_cancel_iff] at h
      show crcBits (T32 (s ^^^ t ^^^ bit32 (xor x y))) (List.zipWith xor a b) = crcBits (T32 (s ^^^ bit32 x)) a ^^^ crcBits (T32 (t ^^^ bit32 y)) b
      rw [← ih b _ _ h, ← T32_xor, bit32_xor]
      congr 2
      rw [BitVec.xor_assoc, BitVec.xor_assoc, ← BitVec.xor_assoc t, BitVec.xor_comm t, BitVec.xor_assoc]
theorem crcBits_off (s : BitVec 32) (n : Nat) : crcBits s (List.replicate n false) = TN n s := by
  induction n generalizing s with
  | zero => rfl
  | succ n ih =>
    rw [List.replicate_succ]
    show crcBits (T32 (s ^^^ bit32 false)) _ = _
    rw [ih, show bit32 false = 0#32 from rfl, BitVec.xor_zero]; rfl
/-- A number's bits, the lowest first. -/
def bitsN : Nat → Nat → List Bool
  | 0, _ => []
  | n + 1, x => decide (x % 2 = 1) :: bitsN n (x / 2)
theorem bitsN_len (n : Nat) : ∀ x, (bitsN n x).length = n := by
  induction n with
  | zero => intro x; rfl
  | succ n ih => intro x; rw [bitsN, List.length_cons, ih]
theorem bitsN_add (a b : Nat) : ∀ x, bitsN (a + b) x = bitsN a x ++ bitsN b (x / 2 ^ a) := by
  induction a with
  | zero => intro x; simp [bitsN]
  | succ a ih =>
    intro x
    rw [show a + 1 + b = a + b + 1 by omega, bitsN, bitsN, ih, Nat.div_div_eq_div_mul, List.cons_append, ← Nat.pow_succ']
theorem bitsN_mod (n m : Nat) (h : n ≤ m) : ∀ x, bitsN n (x % 2 ^ m) = bitsN n x := by
  induction n generalizing m with
  | zero => intro x; rfl
  | succ n ih =>
    intro x
    obtain ⟨k, rfl⟩ : ∃ k, m = k + 1 := ⟨m - 1, by omega⟩
    have hp : (2 : Nat) ^ (k + 1) = 2 * 2 ^ k := Nat.pow_succ'
    rw [bitsN, bitsN, hp, Nat.mod_mul_right_mod]
    congr 1
    rw [Nat.mod_mul_right_div_self, ih k (by omega)]
theorem T32_even {y : Nat} (h : 2 * y < 4294967296) : T32 (BitVec.ofNat 32 (2 * y)) = BitVec.ofNat 32 y := by
  unfold T32
  have h0 : (BitVec.ofNat 32 (2 * y)).getLsbD 0 = false := by
    show (BitVec.ofNat 32 (2 * y)).toNat.testBit 0 = false
    rw [BitVec.toNat_ofNat, Nat.testBit_zero]
    simp
  rw [h0, if_neg (by simp)]
  apply BitVec.eq_of_toNat_eq
  simp [Nat.shiftRight_eq_div_pow]
  omega
theorem split32 {x : Nat} (h : x < 4294967296) : BitVec.ofNat 32 x = bit32 (decide (x % 2 = 1)) ^^^ BitVec.ofNat 32 (2 * (x / 2)) := by
  apply BitVec.eq_of_toNat_eq
  rw [BitVec.toNat_xor, BitVec.toNat_ofNat, BitVec.toNat_ofNat, Nat.mod_eq_of_lt h, Nat.mod_eq_of_lt (show 2 * (x / 2) < 2 ^ 32 by omega)]
  by_cases hx : x % 2 = 1
  · rw [show bit32 (decide (x % 2 = 1)) = 1#32 by simp [bit32, hx], show (1#32 : BitVec 32).toNat = 1 from rfl]
    have h1 : (1 ^^^ (2 * (x / 2))) / 2 = 1 / 2 ^^^ (2 * (x / 2)) / 2 := Nat.xor_div_two
    have h2 : (1 ^^^ (2 * (x / 2))) % 2 = 1 := by
      have h3 : (1 ^^^ (2 * (x / 2))).testBit 0 = true := by
        rw [Nat.testBit_xor, Nat.testBit_zero, Nat.testBit_zero]
        simp
      rw [Nat.testBit_zero] at h3
      exact of_decide_eq_true h3
    rw [show 1 / 2 = 0 from rfl, Nat.zero_xor] at h1
    omega
  · rw [show bit32 (decide (x % 2 = 1)) = 0#32 by simp [bit32, hx], show (0#32 : BitVec 32).toNat = 0 from rfl, Nat.zero_xor]
    omega
theorem crcBits_num (n : Nat) : ∀ (x : Nat) (s : BitVec 32), n ≤ 32 → x < 2 ^ n → crcBits s (bitsN n x) = TN n (s ^^^ BitVec.ofNat 32 x) := by
  induction n with
  | zero =>
    intro x s _ h
    have : x = 0 := by simpa using h
    subst this
    simp [bitsN, crcBits, TN]
  | succ n ih =>
    intro x s hn h
    have hp : (2 : Nat) ^ (n + 1) = 2 * 2 ^ n := Nat.pow_succ'
    have h32 : (2 : Nat) ^ (n + 1) ≤ 2 ^ 32 := Nat.pow_le_pow_right (by decide) hn
    have hx : x < 4294967296 := Nat.lt_of_lt_of_le h h32
    rw [bitsN]
    show crcBits (T32 (s ^^^ bit32 (decide (x % 2 = 1)))) (bitsN n (x / 2)) = TN n (T32 (s ^^^ BitVec.ofNat 32 x))
    rw [ih (x / 2) _ (by omega) (by omega)]
    congr 1
    rw [split32 hx, ← BitVec.xor_assoc, T32_xor (s ^^^ _), T32_even (by omega)]
/-- A number out of bits. -/
def num : List Bool → Nat
  | [] => 0
  | b :: r => (if b = true then 1 else 0) + 2 * num r
theorem num_lt : ∀ l : List Bool, num l < 2 ^ l.length := by
  intro l
  induction l with
  | nil => decide
  | cons b r ih =>
    rw [num, List.length_cons, Nat.pow_succ']
    split <;> omega
theorem bitsN_num : ∀ l : List Bool, bitsN l.length (num l) = l := by
  intro l
  induction l with
  | nil => rfl
  | cons b r ih =>
    rw [num, List.length_cons, bitsN]
    cases b
    · rw [if_neg (by simp), show (0 + 2 * num r) / 2 = num r by omega, ih]
      congr 1
      simp
    · rw [if_pos rfl, show (1 + 2 * num r) / 2 = num r by omega, ih]
      congr 1
      simp
theorem num_zero : ∀ l : List Bool, num l = 0 → l = List.replicate l.length false := by
  intro l
  induction l with
  | nil => intro _; rfl
  | cons b r ih =>
    intro h
    rw [num] at h
    cases b
    · rw [List.length_cons, List.replicate_succ, ← ih (by simp at h; omega)]
    · simp at h
/-- No burst goes unseen. -/
theorem burst32 {l : List Bool} (h : l.length ≤ 32) (h0 : crcBits 0#32 l = 0#32) : l = List.replicate l.length false := by
  apply num_zero
  have hl := num_lt l
  have h32 : (2 : Nat) ^ l.length ≤ 2 ^ 32 := Nat.pow_le_pow_right (by decide) h
  have e := crcBits_num l.length (num l) 0#32 h hl
  rw [bitsN_num, h0, BitVec.zero_xor] at e
  have e2 := TN_inj _ e.symm
  have e3 := congrArg BitVec.toNat e2
  rw [BitVec.toNat_ofNat, Nat.mod_eq_of_lt (by omega)] at e3
  exact e3
theorem all_off {l : List Bool} (h : ∀ j : Nat, l[j]? ≠ some true) : l = List.replicate l.length false := by
  apply List.eq_replicate_of_mem
  intro b hb
  obtain ⟨j, hj, rfl⟩ := List.getElem_of_mem hb
  cases hx : l[j] with
  | false => rfl
  | true => exact (h j (by rw [List.getElem?_eq_getElem hj, hx])).elim
theorem burst {l : List Bool} (a : Nat) (hw : ∀ j : Nat, l[j]? = some true → a ≤ j ∧ j < a + 32) (h0 : crcBits 0#32 l = 0#32) : l = List.replicate l.length false := by
  have e : l = l.take a ++ ((l.drop a).take 32 ++ (l.drop a).drop 32) := by rw [List.take_append_drop, List.take_append_drop]
  have e1 : l.take a = List.replicate (l.take a).length false := all_off (fun j hj => by
    rw [List.getElem?_take] at hj
    split at hj
    · have := hw j hj; omega
    · cases hj)
  have e3 : (l.drop a).drop 32 = List.replicate ((l.drop a).drop 32).length false := all_off (fun j hj => by
    rw [List.getElem?_drop, List.getElem?_drop] at hj
    have := hw _ hj; omega)
  have h1 : crcBits 0#32 ((l.drop a).take 32) = 0#32 := by
    rw [e, crcBits_app, crcBits_app, e1, crcBits_off, TN_zero, e3, crcBits_off] at h0
    exact TN_inj _ h0
  have e2 := burst32 (by rw [List.length_take]; omega) h1
  rw [e, e1, e2, e3]
  simp only [List.append_assoc, List.replicate_append_replicate, List.length_append, List.length_replicate]
end Go.Proofs.Ytmkpdoljaccpaaa
