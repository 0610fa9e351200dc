/-
  A log in memory; Open.
-/
import Derived.Test.YtbiohidelhfaiaaWalW
namespace Go.Proofs.Ytbiohidelhfaiaa
open Go.RowKit Go.Canon Go.Mem Go.Args
open Go.Disk (St)
set_option linter.unusedVariables false
set_option linter.unusedSimpArgs false
structure LogS where
  texts : List (List Int)
  next : Nat
  dead : Bool
/-- Texts, one by one. -/
def TextsRd (w : World) (T : Nat → Prop) (vs : List Value) (ls : List (List Int)) : Prop := vs.length = ls.length ∧ ∀ (i : Nat) (l : List Int), ls[i]? = some l → ∃ u, vs[i]? = some u ∧ Rd w T u l.length (Disk.bytes8 l)
theorem TextsRd.kept {w w' : World} {S T : Nat → Prop} {vs : List Value} {ls : List (List Int)} (h : TextsRd w T vs ls) (hk : Keeps S w w') (hn : ∀ k, T k → ¬ S k) : TextsRd w' T vs ls := by
  refine ⟨h.1, fun i l hi => ?_⟩
  obtain ⟨u, h1, h2⟩ := h.2 i l hi
  exact ⟨u, h1, h2.kept hk hn⟩
theorem TextsRd.mono {w : World} {T T' : Nat → Prop} {vs : List Value} {ls : List (List Int)} (h : TextsRd w T vs ls) (hn : ∀ k, T k → T' k) : TextsRd w T' vs ls := by
  refine ⟨h.1, fun i l hi => ?_⟩
  obtain ⟨u, h1, h2⟩ := h.2 i l hi
  exact ⟨u, h1, h2.mono hn⟩
theorem TextsRd.push {w : World} {T : Nat → Prop} {vs : List Value} {ls : List (List Int)} (h : TextsRd w T vs ls) {u : Value} {l : List Int} (hu : Rd w T u l.length (Disk.bytes8 l)) : TextsRd w T (vs ++ [u]) (ls ++ [l]) := by
  have hl := h.1
  refine ⟨by simp [hl], fun i x hx => ?_⟩
  by_cases hi : i < ls.length
  · rw [List.getElem?_append_left hi] at hx
    obtain ⟨y, h1, h2⟩ := h.2 i x hx
    exact ⟨y, by rw [List.getElem?_append_left (by omega)]; exact h1, h2⟩
  · rw [List.getElem?_append_right (by omega)] at hx
    obtain rfl : i = ls.length := by have := (List.getElem?_eq_some_iff.1 hx).1; simp at this; omega
    obtain rfl : l = x := by simpa using hx
    exact ⟨u, by rw [List.getElem?_append_right (by omega), hl]; simp, hu⟩
/-- A log in memory, in blocks of its own. -/
def LogMem (w : World) (x : Nat) (Q : Nat → Prop) (g : Nat) (L : LogS) : Prop := ∃ (R T : Nat → Prop) (v : Value) (vs : List Value), w.heap[x]? = some (.cells [Value.pointer (some ⟨g, 0, none⟩), v, .int .i64 L.next, .bool L.dead].toArray 127 (0, 0)) ∧ Q x ∧ (∀ k, R k → Q k) ∧ (∀ k, T k → Q k) ∧ ¬ R x ∧ ¬ T x ∧ (∀ k, R k → ¬ T k) ∧ OwnRow w R 23 1 v L.texts.length vs ∧ TextsRd w T vs L.texts
theorem LogMem.kept {w w' : World} {x g : Nat} {Q S : Nat → Prop} {L : LogS} (h : LogMem w x Q g L) (hk : Keeps S w w') (hn : ∀ k, Q k → ¬ S k) : LogMem w' x Q g L := by
  obtain ⟨R, T, v, vs, h1, h2, h3, h4, h5, h6, h7, h8, h9⟩ := h
  exact ⟨R, T, v, vs, hk.heap h1 (hn x h2), h2, h3, h4, h5, h6, h7, h8.kept hk (fun k hk => hn k (h3 k hk)), h9.kept hk (fun k hk => hn k (h4 k hk))⟩
theorem LogMem.wide {w : World} {x g : Nat} {Q Q' : Nat → Prop} {L : LogS} (h : LogMem w x Q g L) (hn : ∀ k, Q k → Q' k) : LogMem w x Q' g L := by
  obtain ⟨R, T, v, vs, h1, h2, h3, h4, h5, h6, h7, h8, h9⟩ := h
  exact ⟨R, T, v, vs, h1, hn x h2, fun k hk => hn k (h3 k hk), fun k hk => hn k (h4 k hk), h5, h6, h7, h8, h9⟩
/-- How many sectors a frame has. -/
def spanF (n : Nat) : Nat := (n + 63) / 64
theorem span_c {w : World} (n : Nat) (h : n ≤ 1000000) : Calls Try.prog 71 #[.int .i64 n] w (Rets (Only (.int .i64 (spanF n)) w)) := by
  have e : Int.tdiv ((n : Int) + 64 - 1) 64 = ((spanF n : Nat) : Int) := by
    rw [Int.tdiv_eq_ediv_of_nonneg (by omega)]
    unfold spanF
    omega
  go_enter Try.func71, Try.ntmps71
  go_wp2
  go_ret
  have hs : spanF n ≤ 1000000 := by unfold spanF; omega
  exact ⟨by show Value.int .i64 (RowKit.wrap64 _) = _; rw [show RowKit.wrap64 ((spanF n : Nat) : Int) = ((spanF n : Nat) : Int) by unfold RowKit.wrap64; omega], rfl⟩
def scan (all : List Int) (N : Nat) : Nat → List (List Int) → Nat → Option (List (List Int) × Nat)
  | 0, ls, nx => some (ls, nx)
  | f + 1, ls, nx => if nx < N ∧ blankF (secF all nx) = false then
      (if (readF (all.drop (64 * nx))).2.2.2 = 0 ∧ (readF (all.drop (64 * nx))).1 = (ls.length : Int) + 1 then scan all N f (ls ++ [(readF (all.drop (64 * nx))).2.1]) (nx + spanF (readF (all.drop (64 * nx))).2.2.1.toNat) else none)
    else some (ls, nx)
theorem readF_ok {l : List Int} (h : (readF l).2.2.2 = 0) (hB : IsB l) : ∃ k : Nat, (readF l).2.2.1 = ((k + 20 : Nat) : Int) ∧ k + 20 ≤ l.length ∧ (readF l).2.1.length = k ∧ k ≤ 16384 := by
  unfold readF at h ⊢
  have hp := wget_pos (hB.take 4)
  by_cases h1 : l.length < 16
  · rw [if_pos h1] at h; cases h
  · rw [if_neg h1] at h ⊢
    by_cases h2 : standsF l 12 (sumF (l.take 12)) = false
    · rw [if_pos h2] at h; cases h
    · rw [if_neg h2] at h ⊢
      by_cases h3 : wget ((l.drop 4).take 8) = 0
      · rw [if_pos h3] at h; cases h
      · rw [if_neg h3] at h ⊢
        by_cases h4 : 16384 < wget (l.take 4)
        · rw [if_pos h4] at h; cases h
        · rw [if_neg h4] at h ⊢
          by_cases h5 : (l.length : Int) - 20 < wget (l.take 4)
          · rw [if_pos h5] at h; cases h
          · rw [if_neg h5] at h ⊢
            by_cases h6 : standsF l (16 + (wget (l.take 4)).toNat) (sumF ((l.drop 16).take (wget (l.take 4)).toNat)) = false
            · rw [if_pos h6] at h; cases h
            · rw [if_neg h6]
              refine ⟨(wget (l.take 4)).toNat, by simp only; omega, by omega, ?_, by omega⟩
              simp only [List.length_take, List.length_drop]
              omega
end Go.Proofs.Ytbiohidelhfaiaa
