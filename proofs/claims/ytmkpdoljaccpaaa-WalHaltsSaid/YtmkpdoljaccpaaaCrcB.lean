/-
  Frames, plainly: one of which at most 32 bits in a row are others is none.
-/
import Derived.Test.YtmkpdoljaccpaaaCrcP
import Derived.Test.YtmkpdoljaccpaaaWalP
namespace Go.Proofs.Ytmkpdoljaccpaaa
open Go.RowKit
set_option linter.unusedVariables false
set_option linter.unusedSimpArgs false
theorem u32_in (op : BinOp) (x y : Int) : 0 ≤ bits op .u32 x y ∧ bits op .u32 x y < 4294967296 := by
  unfold bits
  simp only [IntKind.wrap_u32]
  omega
theorem crcN_in (n : Nat) {c : Int} (h : 0 ≤ c ∧ c < 4294967296) : 0 ≤ crcN n c ∧ crcN n c < 4294967296 := by
  cases n with
  | zero => exact h
  | succ n =>
    rw [crcN]
    unfold crc1
    exact u32_in _ _ _
theorem crcN_T (n : Nat) {c : Int} (h : 0 ≤ c ∧ c < 4294967296) : BitVec.ofInt 32 (crcN n c) = TN n (BitVec.ofInt 32 c) := by
  induction n with
  | zero => rfl
  | succ n ih => rw [crcN, crc1_T (crcN_in n h).1 (crcN_in n h).2, ih, TN_succ]
/-- Bytes' bits, each byte's lowest first. -/
def toB : List Int → List Bool
  | [] => []
  | x :: r => bitsN 8 x.toNat ++ toB r
theorem toB_len : ∀ l, (toB l).length = 8 * l.length := by
  intro l
  induction l with
  | nil => rfl
  | cons x r ih => rw [toB, List.length_append, bitsN_len, ih, List.length_cons]; omega
theorem toB_app : ∀ a b, toB (a ++ b) = toB a ++ toB b := by
  intro a b
  induction a with
  | nil => rfl
  | cons x r ih => rw [List.cons_append, toB, ih, toB, List.append_assoc]
theorem ofInt_nat {x : Int} (h : 0 ≤ x) : BitVec.ofInt 32 x = BitVec.ofNat 32 x.toNat := by
  conv => lhs; rw [← Int.toNat_of_nonneg h]
  rw [BitVec.ofInt_natCast]
theorem crcB_T {c x : Int} (hx : 0 ≤ x ∧ x < 256) : BitVec.ofInt 32 (crcB c x) = crcBits (BitVec.ofInt 32 c) (bitsN 8 x.toNat) := by
  unfold crcB
  rw [crcN_T 8 (u32_in _ _ _), ofInt_xor, ofInt_mod, crcBits_num 8 _ _ (by decide) (by omega), ofInt_nat hx.1]
theorem crcAll_T : ∀ (l : List Int) (c : Int), IsB l → BitVec.ofInt 32 (crcAll c l) = crcBits (BitVec.ofInt 32 c) (toB l) := by
  intro l
  induction l with
  | nil => intro c _; rfl
  | cons x r ih =>
    intro c h
    show BitVec.ofInt 32 (crcAll (crcB c x) r) = _
    rw [ih _ (fun y hy => h y (List.mem_cons_of_mem _ hy)), crcB_T (h x (List.mem_cons_self ..)), toB, crcBits_app]
theorem toB_low {w : Int} (h : 0 ≤ w ∧ w < 4294967296) : toB (lowB w) = bitsN 32 w.toNat := by
  have e : ∀ k : Nat, (w / ((2 : Int) ^ k) % 256).toNat = w.toNat / 2 ^ k % 2 ^ 8 := by
    intro k
    obtain ⟨n, rfl⟩ : ∃ n : Nat, w = n := ⟨w.toNat, by omega⟩
    rw [Int.toNat_natCast, show (2 : Int) ^ k = ((2 ^ k : Nat) : Int) by simp]
    rw [← Int.natCast_ediv, show (256 : Int) = ((256 : Nat) : Int) from rfl, ← Int.natCast_emod, Int.toNat_natCast]
  have e0 := e 0
  have e1 := e 8
  have e2 := e 16
  have e3 := e 24
  simp only [Int.pow_zero, Int.ediv_one, Nat.pow_zero, Nat.div_one] at e0
  have p1 : (2 : Int) ^ 8 = 256 := by decide
  have p2 : (2 : Int) ^ 16 = 65536 := by decide
  have p3 : (2 : Int) ^ 24 = 16777216 := by decide
  rw [p1] at e1
  rw [p2] at e2
  rw [p3] at e3
  simp only [lowB, toB, List.append_nil]
  rw [e0, e1, e2, e3, bitsN_mod 8 8 (Nat.le_refl _), bitsN_mod 8 8 (Nat.le_refl _), bitsN_mod 8 8 (Nat.le_refl _), bitsN_mod 8 8 (Nat.le_refl _)]
  rw [show (32 : Nat) = 8 + (8 + (8 + 8)) from rfl, bitsN_add, bitsN_add, bitsN_add]
  rw [Nat.div_div_eq_div_mul, Nat.div_div_eq_div_mul, ← Nat.pow_add, ← Nat.pow_add]
theorem p32 : (2 : Nat) ^ 32 = 4294967296 := by decide
/-- What the bits of bytes and of their sum come to. -/
theorem residue {m : List Int} (h : IsB m) : crcBits (BitVec.ofInt 32 4294967295) (toB (m ++ lowB (sumF m))) = TN 32 (BitVec.ofInt 32 4294967295) := by
  have hs : 0 ≤ sumF m ∧ sumF m < 4294967296 := u32_in _ _ _
  rw [toB_app, crcBits_app, toB_low hs, crcBits_num 32 _ _ (Nat.le_refl _) (by rw [p32]; omega), ← ofInt_nat hs.1]
  congr 1
  unfold sumF
  rw [ofInt_xor, crcAll_T m _ h, show BitVec.ofInt 32 IntKind.u32.max = BitVec.ofInt 32 4294967295 from by decide]
  generalize crcBits _ (toB m) = st
  rw [BitVec.xor_comm _ st, ← BitVec.xor_assoc, BitVec.xor_self, BitVec.zero_xor]
theorem bitsN_inj (n : Nat) : ∀ (x y : Nat), x < 2 ^ n → y < 2 ^ n → bitsN n x = bitsN n y → x = y := by
  induction n with
  | zero => intro x y hx hy _; simp at hx hy; omega
  | succ n ih =>
    intro x y hx hy h
    rw [Nat.pow_succ'] at hx hy
    rw [bitsN, bitsN] at h
    obtain ⟨h1, h2⟩ := List.cons.inj h
    have := ih _ _ (by omega) (by omega) h2
    have h3 : (x % 2 = 1) ↔ (y % 2 = 1) := by simpa using h1
    omega
theorem toB_inj : ∀ (a b : List Int), IsB a → IsB b → toB a = toB b → a = b := by
  intro a
  induction a with
  | nil =>
    intro b _ _ h
    have := congrArg List.length h
    rw [toB_len, toB_len] at this
    exact (List.eq_nil_of_length_eq_zero (by simp at this; omega)).symm
  | cons x r ih =>
    intro b ha hb h
    cases b with
    | nil =>
      have := congrArg List.length h
      rw [toB_len, toB_len] at this
      simp at this
    | cons y q =>
      rw [toB, toB] at h
      obtain ⟨h1, h2⟩ := List.append_inj h (by rw [bitsN_len, bitsN_len])
      have hx := ha x (List.mem_cons_self ..)
      have hy := hb y (List.mem_cons_self ..)
      have e1 := bitsN_inj 8 _ _ (by omega) (by omega) h1
      rw [ih q (fun z hz => ha z (List.mem_cons_of_mem _ hz)) (fun z hz => hb z (List.mem_cons_of_mem _ hz)) h2, show x = y by omega]
theorem zip_same : ∀ (a b : List Bool), a.length = b.length → (∀ j : Nat, (List.zipWith xor a b)[j]? ≠ some true) → a = b := by
  intro a
  induction a with
  | nil => intro b h _; cases b with
    | nil => rfl
    | cons y r => cases h
  | cons x r ih =>
    intro b h hz
    cases b with
    | nil => cases h
    | cons y q =>
      have h0 := hz 0
      simp only [List.zipWith_cons_cons, List.getElem?_cons_zero] at h0
      rw [ih q (by simpa using h) (fun j => by have := hz (j + 1); simpa using this)]
      congr 1
      cases x <;> cases y <;> simp_all
theorem zip_differ : ∀ (a b : List Bool) (j : Nat), (List.zipWith xor a b)[j]? = some true → a[j]? ≠ b[j]? := by
  intro a b j h e
  rw [List.getElem?_zipWith] at h
  rw [e] at h
  cases hb : b[j]? with
  | none => rw [hb] at h; cases h
  | some v => rw [hb] at h; cases v <;> cases h
/-- Where two differ in at most 32 bits in a row, and both sums stand, they are the same. -/
theorem code_same {m m' : List Int} (hm : IsB m) (hm' : IsB m') (hl : m.length = m'.length) (a : Nat) (hw : ∀ j : Nat, (toB (m ++ lowB (sumF m)))[j]? ≠ (toB (m' ++ lowB (sumF m')))[j]? → a ≤ j ∧ j < a + 32) : m ++ lowB (sumF m) = m' ++ lowB (sumF m') := by
  have hlen : (toB (m ++ lowB (sumF m))).length = (toB (m' ++ lowB (sumF m'))).length := by
    rw [toB_len, toB_len, List.length_append, List.length_append, hl]; rfl
  have hx := crcBits_xor _ _ (BitVec.ofInt 32 4294967295) (BitVec.ofInt 32 4294967295) hlen
  rw [residue hm, residue hm', BitVec.xor_self, BitVec.xor_self] at hx
  have hb := burst a (fun j hj => hw j (zip_differ _ _ j hj)) hx
  refine toB_inj _ _ ?_ ?_ (zip_same _ _ hlen (fun j hj => ?_))
  · intro y hy
    rcases List.mem_append.1 hy with hy | hy
    · exact hm y hy
    · exact lowB_byte _ y hy
  · intro y hy
    rcases List.mem_append.1 hy with hy | hy
    · exact hm' y hy
    · exact lowB_byte _ y hy
  · rw [hb, List.getElem?_replicate] at hj
    split at hj
    · cases hj
    · cases hj
theorem toB_take : ∀ (n : Nat) (l : List Int), toB (l.take n) = (toB l).take (8 * n) := by
  intro n
  induction n with
  | zero => intro l; simp [toB]
  | succ n ih =>
    intro l
    cases l with
    | nil => simp [toB]
    | cons x r =>
      rw [List.take_succ_cons, toB, toB, ih, show 8 * (n + 1) = 8 + 8 * n by omega, List.take_append, bitsN_len, List.take_of_length_le (show (bitsN 8 x.toNat).length ≤ 8 + 8 * n by rw [bitsN_len]; omega), show 8 + 8 * n - 8 = 8 * n by omega]
theorem toB_drop : ∀ (n : Nat) (l : List Int), toB (l.drop n) = (toB l).drop (8 * n) := by
  intro n
  induction n with
  | zero => intro l; simp
  | succ n ih =>
    intro l
    cases l with
    | nil => simp [toB]
    | cons x r =>
      rw [List.drop_succ_cons, toB, ih, show 8 * (n + 1) = 8 + 8 * n by omega, List.drop_append, bitsN_len, List.drop_of_length_le (show (bitsN 8 x.toNat).length ≤ 8 + 8 * n by rw [bitsN_len]; omega), List.nil_append, show 8 + 8 * n - 8 = 8 * n by omega]
/-- A frame of which at most 32 bits in a row are others is not read. -/
theorem halt_frame {seq : Int} {t f' rest : List Int} (hs : 1 ≤ seq) (hs2 : seq < 18446744073709551616) (ht : t.length ≤ 16384) (htb : IsB t) (hfb : IsB f') (hl : f'.length = (putF seq t).length) (a : Nat) (hw : ∀ j : Nat, (toB (putF seq t))[j]? ≠ (toB f')[j]? → a ≤ j ∧ j < a + 32) (hne : putF seq t ≠ f') : (readF (f' ++ rest)).2.2.2 ≠ 0 := by
  intro hc
  apply hne
  have hfl := putF_len seq t
  have hh : (headF (t.length : Int) seq).length = 12 := headF_len _ _
  have hhb : IsB (headF (t.length : Int) seq) := by
    intro y hy
    unfold headF at hy
    rcases List.mem_append.1 hy with hy | hy
    · exact wput_byte _ _ y hy
    · exact wput_byte _ _ y hy
  have f16 : (putF seq t).take 16 = headF t.length seq ++ lowB (sumF (headF t.length seq)) := by
    have e0 : putF seq t = (headF t.length seq ++ lowB (sumF (headF t.length seq))) ++ (t ++ lowB (sumF t)) := by simp [putF, List.append_assoc]
    have e1 : (headF (t.length : Int) seq ++ lowB (sumF (headF t.length seq))).length = 16 := by rw [List.length_append, hh]; rfl
    rw [e0, List.take_append_of_le_length (by omega), List.take_of_length_le (by omega)]
  have d16 : (putF seq t).drop 16 = t ++ lowB (sumF t) := by
    have e0 : putF seq t = (headF t.length seq ++ lowB (sumF (headF t.length seq))) ++ (t ++ lowB (sumF t)) := by simp [putF, List.append_assoc]
    have e1 : (headF (t.length : Int) seq ++ lowB (sumF (headF t.length seq))).length = 16 := by rw [List.length_append, hh]; rfl
    rw [e0, List.drop_append_of_le_length (by omega), List.drop_of_length_le (by omega), List.nil_append]
  have t12 : (f' ++ rest).take 12 = f'.take 12 := List.take_append_of_le_length (by omega)
  have t4 : (f' ++ rest).take 4 = f'.take 4 := List.take_append_of_le_length (by omega)
  have d12 : ((f' ++ rest).drop 12).take 4 = (f'.drop 12).take 4 := by
    rw [List.drop_append_of_le_length (by omega), List.take_append_of_le_length (by rw [List.length_drop]; omega)]
  have hd16 : (f' ++ rest).drop 16 = f'.drop 16 ++ rest := List.drop_append_of_le_length (by omega)
  unfold readF at hc
  rw [if_neg (by rw [List.length_append]; omega)] at hc
  by_cases h2 : standsF (f' ++ rest) 12 (sumF ((f' ++ rest).take 12)) = false
  · rw [if_pos h2] at hc; cases hc
  · rw [if_neg h2] at hc
    have h2b : (f'.drop 12).take 4 = lowB (sumF (f'.take 12)) := by
      have : standsF (f' ++ rest) 12 (sumF ((f' ++ rest).take 12)) = true := by simpa using h2
      unfold standsF at this
      rw [t12, d12] at this
      exact of_decide_eq_true this
    have e16 : f'.take 16 = f'.take 12 ++ lowB (sumF (f'.take 12)) := by
      rw [← h2b, show (16 : Nat) = 12 + 4 from rfl, List.take_add]
    have hc1 := code_same hhb (IsB.take hfb 12) (by rw [hh, List.length_take]; omega) a (fun j hj => by
      rw [← f16, ← e16, toB_take, toB_take] at hj
      refine hw j (fun e => hj ?_)
      rw [List.getElem?_take, List.getElem?_take, e])
    rw [← f16, ← e16] at hc1
    by_cases h3 : wget (((f' ++ rest).drop 4).take 8) = 0
    · rw [if_pos h3] at hc; cases hc
    · rw [if_neg h3] at hc
      have w4 : wget ((f' ++ rest).take 4) = t.length := by
        rw [t4]
        have e4 : f'.take 4 = (putF seq t).take 4 := by
          have := congrArg (List.take 4) hc1
          rw [List.take_take, List.take_take] at this
          exact this.symm
        have e5 : (putF seq t).take 4 = wput 4 (t.length : Int) := by
          simp only [putF, headF, List.append_assoc]
          rw [List.take_append_of_le_length (by rw [wput_len]; decide), List.take_of_length_le (by rw [wput_len]; decide)]
        rw [e4, e5]
        exact wget_put 4 _ (by omega) (by rw [pow4]; omega)
      rw [w4, if_neg (by omega), if_neg (by rw [List.length_append]; omega), Int.toNat_natCast] at hc
      by_cases h6 : standsF (f' ++ rest) (16 + t.length) (sumF (((f' ++ rest).drop 16).take t.length)) = false
      · rw [if_pos h6] at hc; cases hc
      · have t6 : ((f' ++ rest).drop 16).take t.length = (f'.drop 16).take t.length := by
          rw [hd16, List.take_append_of_le_length (by rw [List.length_drop]; omega)]
        have d6 : ((f' ++ rest).drop (16 + t.length)).take 4 = (f'.drop (16 + t.length)).take 4 := by
          rw [List.drop_append_of_le_length (by omega), List.take_append_of_le_length (by rw [List.length_drop]; omega)]
        have h6b : (f'.drop (16 + t.length)).take 4 = lowB (sumF ((f'.drop 16).take t.length)) := by
          have : standsF (f' ++ rest) (16 + t.length) (sumF (((f' ++ rest).drop 16).take t.length)) = true := by simpa using h6
          unfold standsF at this
          rw [t6, d6] at this
          exact of_decide_eq_true this
        have e6 : f'.drop 16 = (f'.drop 16).take t.length ++ lowB (sumF ((f'.drop 16).take t.length)) := by
          rw [← h6b, ← List.drop_drop]
          conv => lhs; rw [← List.take_append_drop t.length (f'.drop 16)]
          congr 1
          rw [List.take_of_length_le (by rw [List.length_drop, List.length_drop]; omega)]
        have hc2 := code_same htb (IsB.take (IsB.drop hfb 16) t.length) (by rw [List.length_take, List.length_drop]; omega) (a - 128) (fun j hj => by
          rw [← d16, ← e6, toB_drop, toB_drop] at hj
          have := hw (8 * 16 + j) (fun e => hj (by rw [List.getElem?_drop, List.getElem?_drop, e]))
          omega)
        rw [← d16, ← e6] at hc2
        rw [← List.take_append_drop 16 (putF seq t), ← List.take_append_drop 16 f', hc1, hc2]
end Go.Proofs.Ytmkpdoljaccpaaa
