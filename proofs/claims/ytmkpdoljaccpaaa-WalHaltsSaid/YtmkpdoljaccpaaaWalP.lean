/-
  A log, plainly: frames on sectors are read as they were laid.
-/
import Derived.Test.YtmkpdoljaccpaaaWalV
namespace Go.Proofs.Ytmkpdoljaccpaaa
open Go.Disk (St)
set_option linter.unusedVariables false
set_option linter.unusedSimpArgs false
theorem pow4 : (256 : Int) ^ 4 = 4294967296 := by decide
theorem pow8 : (256 : Int) ^ 8 = 18446744073709551616 := by decide
/-- What is written is read. -/
theorem readF_put {seq : Int} {b : List Int} (hs : 1 ≤ seq) (hs2 : seq < 18446744073709551616) (hb : b.length ≤ 16384) (tail : List Int) : readF (putF seq b ++ tail) = (seq, b, (b.length : Int) + 20, 0) := by
  have hh : (headF (b.length : Int) seq).length = 12 := headF_len _ _
  have e0 : putF seq b ++ tail = headF b.length seq ++ (lowB (sumF (headF b.length seq)) ++ (b ++ (lowB (sumF b) ++ tail))) := by simp [putF, List.append_assoc]
  have t12 : (putF seq b ++ tail).take 12 = headF b.length seq := by rw [e0, List.take_append_of_le_length (by omega), List.take_of_length_le (by omega)]
  have d12 : (putF seq b ++ tail).drop 12 = lowB (sumF (headF b.length seq)) ++ (b ++ (lowB (sumF b) ++ tail)) := by rw [e0, List.drop_append_of_le_length (by omega), List.drop_of_length_le (by omega), List.nil_append]
  have d16 : (putF seq b ++ tail).drop 16 = b ++ (lowB (sumF b) ++ tail) := by
    rw [show (16 : Nat) = 12 + 4 from rfl, ← List.drop_drop, d12, List.drop_append_of_le_length (by simp [lowB]), List.drop_of_length_le (by simp [lowB]), List.nil_append]
  have h12 : standsF (putF seq b ++ tail) 12 (sumF ((putF seq b ++ tail).take 12)) = true := by
    unfold standsF
    rw [t12, d12]
    simp [lowB]
  have t4 : (putF seq b ++ tail).take 4 = wput 4 (b.length : Int) := by
    rw [e0, headF, List.append_assoc, List.take_append_of_le_length (by rw [wput_len]; decide), List.take_of_length_le (by rw [wput_len]; decide)]
  have t8 : ((putF seq b ++ tail).drop 4).take 8 = wput 8 seq := by
    rw [e0, headF, List.append_assoc, List.drop_append_of_le_length (by rw [wput_len]; decide), List.drop_of_length_le (by rw [wput_len]; decide), List.nil_append, List.take_append_of_le_length (by rw [wput_len]; decide), List.take_of_length_le (by rw [wput_len]; decide)]
  have w4 : wget (wput 4 (b.length : Int)) = b.length := wget_put 4 _ (by omega) (by rw [pow4]; omega)
  have w8 : wget (wput 8 seq) = seq := wget_put 8 _ (by omega) (by rw [pow8]; omega)
  have tb : ((putF seq b ++ tail).drop 16).take b.length = b := by rw [d16, List.take_append_of_le_length (Nat.le_refl _), List.take_length]
  have db : (putF seq b ++ tail).drop (16 + b.length) = lowB (sumF b) ++ tail := by
    rw [← List.drop_drop, d16, List.drop_append_of_le_length (Nat.le_refl _), List.drop_length, List.nil_append]
  have hlen : (putF seq b ++ tail).length = b.length + 20 + tail.length := by rw [List.length_append, putF_len]
  unfold readF
  rw [if_neg (by rw [hlen]; omega), if_neg (by rw [h12]; simp), t8, w8, if_neg (by omega), t4, w4, if_neg (by omega), if_neg (by rw [hlen]; omega), Int.toNat_natCast, tb, if_neg]
  unfold standsF
  rw [db]
  simp [lowB]
/-- A frame's sectors. -/
def secs (f : List Int) : List (List Int) := (List.range (spanF f.length)).map fun i => Disk.pad (secF f i)
theorem secs_len (f : List Int) : (secs f).length = spanF f.length := by simp [secs]
theorem pad_len {b : List Int} (h : b.length ≤ 64) : (Disk.pad b).length = 64 := pad_64 h
theorem secs_64 (f : List Int) : ∀ x ∈ secs f, x.length = 64 := by
  intro x hx
  obtain ⟨i, _, rfl⟩ := List.mem_map.1 hx
  exact pad_64 (by unfold secF; rw [List.length_take]; omega)
theorem pad_full {b : List Int} (h : b.length = 64) : Disk.pad b = b := by
  unfold Disk.pad
  rw [h, List.drop_of_length_le (by rw [Disk.zsec_len]; exact Nat.le_refl _), List.append_nil]
theorem zsec_rep : Disk.zsec = List.replicate 64 0 := by unfold Disk.zsec; rfl
theorem secs_flat : ∀ (n : Nat) (f : List Int), f.length ≤ n → ∃ z, flatS (secs f) = f ++ List.replicate z 0 := by
  intro n
  induction n with
  | zero =>
    intro f h
    have : f = [] := List.eq_nil_of_length_eq_zero (by omega)
    subst this
    exact ⟨0, rfl⟩
  | succ n ih =>
    intro f h
    by_cases h0 : f.length = 0
    · have : f = [] := List.eq_nil_of_length_eq_zero h0
      subst this
      exact ⟨0, rfl⟩
    · by_cases h64 : f.length ≤ 64
      · have hs : spanF f.length = 1 := by unfold spanF; omega
        refine ⟨64 - f.length, ?_⟩
        unfold secs
        rw [hs]
        show flatS [Disk.pad (secF f 0)] = _
        have : secF f 0 = f := by unfold secF; rw [Nat.mul_zero, List.drop_zero, List.take_of_length_le (by omega)]
        rw [this]
        unfold flatS Disk.pad
        rw [zsec_rep, List.drop_replicate]
        simp
      · obtain ⟨z, hz⟩ := ih (f.drop 64) (by rw [List.length_drop]; omega)
        refine ⟨z, ?_⟩
        have hs : spanF f.length = spanF (f.drop 64).length + 1 := by rw [List.length_drop]; unfold spanF; omega
        have e : secs f = f.take 64 :: secs (f.drop 64) := by
          unfold secs
          rw [hs, List.range_succ_eq_map, List.map_cons, List.map_map]
          congr 1
          · have : secF f 0 = f.take 64 := by unfold secF; simp
            rw [this, pad_full (by rw [List.length_take]; omega)]
          · apply List.map_congr_left
            intro i _
            show Disk.pad (secF f (i + 1)) = Disk.pad (secF (f.drop 64) i)
            unfold secF
            rw [List.drop_drop]
            congr 3
            omega
        rw [e]
        show f.take 64 ++ flatS (secs (f.drop 64)) = _
        rw [hz, ← List.append_assoc, List.take_append_drop]
/-- Texts' sectors, numbered from i. -/
def laid : Nat → List (List Int) → List (List Int)
  | _, [] => []
  | i, t :: r => secs (putF (i : Int) t) ++ laid (i + 1) r
theorem laid_snoc (t : List Int) : ∀ (ts : List (List Int)) (i : Nat), laid i (ts ++ [t]) = laid i ts ++ secs (putF ((i + ts.length : Nat) : Int) t) := by
  intro ts
  induction ts with
  | nil => intro i; simp [laid]
  | cons x r ih =>
    intro i
    rw [List.cons_append, laid, ih, laid, List.append_assoc, List.length_cons, show i + (r.length + 1) = i + 1 + r.length by omega]
theorem laid_64 : ∀ (ts : List (List Int)) (i : Nat), ∀ x ∈ laid i ts, x.length = 64 := by
  intro ts
  induction ts with
  | nil => intro i x hx; cases hx
  | cons t r ih =>
    intro i x hx
    rcases List.mem_append.1 hx with hx | hx
    · exact secs_64 _ x hx
    · exact ih _ x hx
theorem flatS_app (a b : List (List Int)) : flatS (a ++ b) = flatS a ++ flatS b := by simp [flatS]
theorem flat_drop {now : List (List Int)} (h : ∀ x ∈ now, x.length = 64) (k : Nat) : (flatS now).drop (64 * k) = flatS (now.drop k) := by
  induction now generalizing k with
  | nil => simp [flatS]
  | cons x r ih =>
    cases k with
    | zero => rfl
    | succ k =>
      have hx := h x (List.mem_cons_self ..)
      show (x ++ flatS r).drop (64 * (k + 1)) = flatS (r.drop k)
      rw [← ih (fun y hy => h y (List.mem_cons_of_mem _ hy)), List.drop_append]
      rw [List.drop_of_length_le (by omega), List.nil_append]
      congr 1
      omega
/-- A frame does not begin with noughts alone. -/
theorem put_blank {seq : Int} {b : List Int} (hs : 1 ≤ seq) (hs2 : seq < 18446744073709551616) (tail : List Int) (h : blankF ((putF seq b ++ tail).take 64) = true) : False := by
  have w8 : wget (wput 8 seq) = seq := wget_put 8 _ (by omega) (by rw [pow8]; omega)
  have hz : ∀ x ∈ wput 8 seq, x = 0 := by
    intro x hx
    unfold blankF at h
    rw [List.all_eq_true] at h
    have hm : x ∈ (putF seq b ++ tail).take 64 := by
      have e0 : putF seq b ++ tail = headF b.length seq ++ (lowB (sumF (headF b.length seq)) ++ (b ++ (lowB (sumF b) ++ tail))) := by simp [putF, List.append_assoc]
      rw [e0, List.take_append, List.take_of_length_le (by rw [headF_len]; decide)]
      exact List.mem_append_left _ (List.mem_append_right _ hx)
    simpa using h x hm
  have h0 : ∀ (l : List Int) (c : Int), c = 0 → (∀ x ∈ l, x = 0) → l.foldl (fun x c => x * 256 + c) c = 0 := by
    intro l
    induction l with
    | nil => intro c hc _; exact hc
    | cons x r ih => intro c hc hl; exact ih _ (by show c * 256 + x = 0; rw [hc, hl x (List.mem_cons_self ..)]; rfl) (fun y hy => hl y (List.mem_cons_of_mem _ hy))
  have : wget (wput 8 seq) = 0 := h0 _ 0 rfl hz
  omega
end Go.Proofs.Ytmkpdoljaccpaaa
