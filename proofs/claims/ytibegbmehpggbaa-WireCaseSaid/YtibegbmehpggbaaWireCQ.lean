/-
  WireCase: what stays true from round to round; a byte set.
-/
import Derived.Test.YtibegbmehpggbaaWireCP
import Derived.Test.YtibegbmehpggbaaSet
namespace Go.Proofs.Ytibegbmehpggbaa
open Go.RowKit Go.Canon Go.Mem
set_option linter.unusedVariables false
set_option linter.unusedSimpArgs false
/-- So far. -/
structure CI (b c : List Int) (i : Nat) (nm : Bool) : Prop where
  len : c.length = b.length
  rest : ∀ j : Nat, i ≤ j → c[j]? = b[j]?
  vary : ∀ j : Nat, c[j]? = b[j]? ∨ Alt b c j
  name : nm = true → InN b i
  ne : ∀ m, m < i → ¬ Pat b m
theorem CI.ce {b c : List Int} {i : Nat} {nm : Bool} (h : CI b c i nm) : CE b c := ⟨h.len, h.vary⟩
theorem CI.start (b : List Int) : CI b b 0 false := ⟨rfl, fun _ _ => rfl, fun _ => .inl rfl, fun h => (by cases h), fun m h => by omega⟩
theorem CE.pat {b c : List Int} (h : CE b c) (m : Nat) : Pat c m ↔ Pat b m :=
  ⟨fun ⟨h1, h2, h3, h4, h5⟩ => ⟨h1, h.back h2 (by decide), h.back h3 (by decide), h.back h4 (by decide), h.back h5 (by decide)⟩, fun ⟨h1, h2, h3, h4, h5⟩ => ⟨h1, h.same h2 (by decide), h.same h3 (by decide), h.same h4 (by decide), h.same h5 (by decide)⟩⟩
theorem CE.isB {b c : List Int} (h : CE b c) (hB : IsB b) : IsB c := by
  intro x hx
  obtain ⟨j, hj, rfl⟩ := List.getElem_of_mem hx
  rcases h.vary j with h1 | ⟨x', y, _, h2, _, h3, _⟩
  · rw [List.getElem?_eq_getElem hj] at h1
    exact hB _ (List.mem_of_getElem? h1.symm)
  · rw [List.getElem?_eq_getElem hj] at h2
    rw [Option.some.inj h2, ]
    rw [isL_iff] at h3
    omega
theorem CI.keep {b c : List Int} {i : Nat} {nm nm' : Bool} (h : CI b c i nm) (hP : ¬ Pat c i) (hn : nm' = true → InN b (i + 1)) : CI b c (i + 1) nm' :=
  ⟨h.len, fun j hj => h.rest j (by omega), h.vary, hn, fun m hm => by by_cases hmi : m < i; exact h.ne m hmi; obtain rfl : m = i := (by omega); exact fun hp => hP ((h.ce.pat _).2 hp)⟩
theorem CI.turn {b c : List Int} {i : Nat} (h : CI b c i true) (hP : ¬ Pat c i) {x y : Int} (hx : c[i]? = some x) (hl : isL x = true) (hy : isL y = true) (hlow : Wire.low x = Wire.low y) : CI b (c.set i y) (i + 1) true := by
  have hbx : b[i]? = some x := by rw [← h.rest i (Nat.le_refl _)]; exact hx
  have hne : ∀ m, m ≤ i → ¬ Pat b m := fun m hm => by by_cases hmi : m < i; exact h.ne m hmi; obtain rfl : m = i := (by omega); exact fun hp => hP ((h.ce.pat _).2 hp)
  have hi : i < c.length := (List.getElem?_eq_some_iff.1 hx).1
  refine ⟨by rw [List.length_set, h.len], fun j hj => ?_, fun j => ?_, fun _ => ?_, fun m hm => hne m (by omega)⟩
  · rw [List.getElem?_set_ne (by omega)]; exact h.rest j (by omega)
  · by_cases hj : j = i
    · subst hj
      right
      exact ⟨x, y, hbx, by rw [List.getElem?_set_self hi], hl, hy, hlow, h.name rfl, hne⟩
    · rcases h.vary j with h1 | ⟨x', y', h1, h2, h3⟩
      · left; rw [List.getElem?_set_ne (fun e => hj e.symm)]; exact h1
      · right; exact ⟨x', y', h1, by rw [List.getElem?_set_ne (fun e => hj e.symm)]; exact h2, h3⟩
  · obtain ⟨p, h1, h2, h3⟩ := h.name rfl
    refine ⟨p, by omega, h2, fun q hq hq2 => ?_⟩
    by_cases hqi : q < i
    · exact h3 q hq hqi
    · obtain rfl : q = i := by omega
      rw [hbx]; intro e; obtain rfl := Option.some.inj e; simp [isL, lowC, Wire.upC] at hl
theorem InN.on {b : List Int} {i : Nat} {x : Int} (h : InN b i) (hx : b[i]? = some x) (h58 : x ≠ 58) : InN b (i + 1) := by
  obtain ⟨p, h1, h2, h3⟩ := h
  refine ⟨p, by omega, h2, fun q hq hq2 => ?_⟩
  by_cases hqi : q < i
  · exact h3 q hq hqi
  · obtain rfl : q = i := by omega
    rw [hx]; intro e; exact h58 (Option.some.inj e)
theorem InN.new {b : List Int} {i : Nat} (hx : b[i]? = some 10) : InN b (i + 1) := ⟨i, by omega, hx, fun q h1 h2 => by omega⟩
theorem bytes8_set (l : List Int) (i : Nat) (y : Int) : (Disk.bytes8 l).set i (.int .u8 y) = Disk.bytes8 (l.set i y) := by
  simp [Disk.bytes8, List.map_set]
theorem own_put {w : World} {ok : Nat → Prop} {e : TypeId} {g j n c : Nat} {cs : List Value} (hown : OwnRow w ok e 1 (.slice (some ⟨g, 0, none⟩) n c) n cs) (hj : j < n) (v : Value) : w.frozen? ⟨g, j, none⟩ = false ∧ OwnRow (w.setCell ⟨g, j, none⟩ v) ok e 1 (.slice (some ⟨g, 0, none⟩) n c) n (cs.set j v) ∧ Keeps (· = g) w (w.setCell ⟨g, j, none⟩ v) := by
  obtain ⟨g', cap, cur, e1, hok, hb, h1, h2, h3, h4⟩ := hown.form (by omega)
  cases e1
  have hb0 : w.heap[g]? = some (.cells cur.toList.toArray e (0, 0)) := by simpa using hb
  refine ⟨frozen_of_row w g j _ e hb0, ⟨⟨by rw [List.length_set]; exact hown.len, .inr ⟨g, c, (cur.toList.set j v).toArray, rfl, Nat.zero_le _, by rw [heap_setCell_same w g j _ e v hb0]; simp only [Array.toArray_toList]; congr 2; apply Array.ext'; simp, h1, h2, by simp [h3], ?_⟩⟩, fun k hk => hown.2 k hk⟩, (Keeps.refl (fun x => x = g) w).setCell (p := ⟨g, j, none⟩) (fun _ => rfl) v⟩
  rw [← h4, Nat.mul_one, ← List.take_set]
set_option maxRecDepth 100000 in
theorem flip_L {x : Int} (h : isL x = true) : isL (bits .xor .u8 x 32) = true ∧ Wire.low x = Wire.low (bits .xor .u8 x 32) := by
  have hx := (isL_iff x).1 h
  have key : ∀ n : Fin 256, isL (n.val : Int) = true → isL (bits .xor .u8 (n.val : Int) 32) = true ∧ Wire.low (n.val : Int) = Wire.low (bits .xor .u8 (n.val : Int) 32) := by decide
  have := key ⟨x.toNat, by omega⟩
  simp only [Int.toNat_of_nonneg (show 0 ≤ x by omega)] at this
  exact this h
theorem bool_no {p : Bool} {P : Prop} (h : p = true ↔ P) (hn : ¬ P) : p = false := by
  cases p with
  | false => rfl
  | true => exact (hn (h.1 rfl)).elim
end Go.Proofs.Ytibegbmehpggbaa
