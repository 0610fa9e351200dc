/-
  The letters' case in the names of a head's lines: it changes nothing of what is read. Plainly.
-/
import Derived.Test.YtibegbmehpggbaaWireL
namespace Go.Proofs.Ytibegbmehpggbaa
set_option linter.unusedVariables false
set_option linter.unusedSimpArgs false
def isL (x : Int) : Bool := lowC x || Wire.upC x
theorem isL_iff (x : Int) : isL x = true ↔ (97 ≤ x ∧ x ≤ 122) ∨ (65 ≤ x ∧ x ≤ 90) := by simp [isL, lowC, Wire.upC]
theorem isL_alC {x : Int} (h : isL x = true) : Wire.alC x = true := by unfold Wire.alC; rw [show (lowC x || Wire.upC x) = true from h]; rfl
/-- A place in a name: behind a line's end, no colon between. -/
def InN (b : List Int) (j : Nat) : Prop := ∃ p, p < j ∧ b[p]? = some 10 ∧ ∀ q, p < q → q < j → b[q]? ≠ some 58
/-- Here the head ends. -/
def Pat (b : List Int) (m : Nat) : Prop := 2 ≤ m ∧ b[m - 2]? = some 13 ∧ b[m - 1]? = some 10 ∧ b[m]? = some 13 ∧ b[m + 1]? = some 10
def NoE (b : List Int) (j : Nat) : Prop := ∀ m, m ≤ j → ¬ Pat b m
/-- Two letters, the same but for their case, in a name of the head. -/
def Alt (b c : List Int) (j : Nat) : Prop := ∃ x y, b[j]? = some x ∧ c[j]? = some y ∧ isL x = true ∧ isL y = true ∧ Wire.low x = Wire.low y ∧ InN b j ∧ NoE b j
structure CE (b c : List Int) : Prop where
  len : c.length = b.length
  vary : ∀ j : Nat, c[j]? = b[j]? ∨ Alt b c j
theorem CE.same {b c : List Int} (h : CE b c) {j : Nat} {x : Int} (hx : b[j]? = some x) (hl : isL x = false) : c[j]? = some x := by
  rcases h.vary j with h1 | ⟨x', y, h1, h2, h3, _⟩
  · rw [h1, hx]
  · rw [hx] at h1; obtain rfl := Option.some.inj h1; rw [hl] at h3; cases h3
theorem CE.back {b c : List Int} (h : CE b c) {j : Nat} {x : Int} (hx : c[j]? = some x) (hl : isL x = false) : b[j]? = some x := by
  rcases h.vary j with h1 | ⟨x', y, h1, h2, _, h3, _⟩
  · rw [← h1, hx]
  · rw [hx] at h2; obtain rfl := Option.some.inj h2; rw [hl] at h3; cases h3
namespace Wire
/-! ### a line -/
/-- Two lines, the same but for letters ahead of the first colon. -/
structure LV (l l2 : List Int) : Prop where
  len : l2.length = l.length
  vary : ∀ j : Nat, l2[j]? = l[j]? ∨ ∃ x y, l[j]? = some x ∧ l2[j]? = some y ∧ isL x = true ∧ isL y = true ∧ low x = low y ∧ ∀ q : Nat, q < j → l[q]? ≠ some 58
theorem LV.upto : ∀ {l l2 : List Int}, LV l l2 → (upto l2).map low = (upto l).map low ∧ (upto l2).all alC = (upto l).all alC ∧ (upto l2).length = (upto l).length ∧ ∀ j, (upto l).length < l.length → (upto l).length ≤ j → l2[j]? = l[j]? := by
  intro l
  induction l with
  | nil =>
    intro l2 h
    have := List.length_eq_zero_iff.1 h.len
    subst this
    exact ⟨rfl, rfl, rfl, fun j h => by simp [Wire.upto] at h⟩
  | cons x l ih =>
    intro l2 h
    cases l2 with
    | nil => have := h.len; simp at this
    | cons y l2 =>
      by_cases hx : x = 58
      · subst hx
        have hy : y = 58 := by
          rcases h.vary 0 with h1 | ⟨x', y', h1, h2, h3, _⟩
          · simpa using h1
          · simp at h1; subst h1; simp [isL, lowC, upC] at h3
        subst hy
        have e1 : Wire.upto (58 :: l) = [] := by simp [Wire.upto]
        have e2 : Wire.upto (58 :: l2) = [] := by simp [Wire.upto]
        rw [e1, e2]
        refine ⟨rfl, rfl, rfl, fun j _ _ => ?_⟩
        cases j with
        | zero => rfl
        | succ j =>
          rcases h.vary (j + 1) with h1 | ⟨x', y', _, _, _, _, _, h6⟩
          · exact h1
          · exact (h6 0 (Nat.succ_pos _) (by simp)).elim
      · have hxy : (y = x ∨ (isL x = true ∧ isL y = true ∧ low x = low y)) := by
          rcases h.vary 0 with h1 | ⟨x', y', h1, h2, h3, h4, h5, _⟩
          · left; simpa using h1
          · simp at h1 h2; subst h1; subst h2; exact .inr ⟨h3, h4, h5⟩
        have hy : y ≠ 58 := by
          rcases hxy with rfl | ⟨_, h4, _⟩
          · exact hx
          · rintro rfl; simp [isL, lowC, upC] at h4
        have hv : LV l l2 := ⟨by have := h.len; simpa using this, fun j => by
          rcases h.vary (j + 1) with h1 | ⟨x', y', h1, h2, h3, h4, h5, h6⟩
          · left; simpa using h1
          · right; exact ⟨x', y', by simpa using h1, by simpa using h2, h3, h4, h5, fun q hq => by have := h6 (q + 1) (by omega); simpa using this⟩⟩
        obtain ⟨h1, h2, h3, h4⟩ := ih hv
        have e1 : Wire.upto (x :: l) = x :: Wire.upto l := by simp [Wire.upto, hx]
        have e2 : Wire.upto (y :: l2) = y :: Wire.upto l2 := by simp [Wire.upto, hy]
        rw [e1, e2]
        have hlow : low y = low x := by rcases hxy with rfl | ⟨_, _, h5⟩; rfl; exact h5.symm
        have hal : alC y = alC x := by rcases hxy with rfl | ⟨h5, h6, _⟩; rfl; rw [isL_alC h5, isL_alC h6]
        refine ⟨by simp [hlow, h1], by simp [hal, h2], by simp [h3], fun j hj hj2 => ?_⟩
        cases j with
        | zero => simp at hj2
        | succ j =>
          have := h4 j (by simpa using hj) (by simpa using hj2)
          simpa using this
theorem LV.split {l l2 : List Int} (h : LV l l2) : Wire.split l2 = Wire.split l := by
  obtain ⟨h1, h2, h3, h4⟩ := h.upto
  unfold Wire.split
  rw [h1, h2, h3, h.len]
  by_cases hl : (Wire.upto l).length < l.length
  · have h5 := h4 ((Wire.upto l).length + 1) hl (by omega)
    have h6 : l2.drop ((Wire.upto l).length + 2) = l.drop ((Wire.upto l).length + 2) := by
      apply List.ext_getElem?
      intro j
      rw [List.getElem?_drop, List.getElem?_drop]
      exact h4 _ hl (by omega)
    rw [h5, h6]
  · rw [if_neg (fun h => hl h.1), if_neg (fun h => hl h.1)]
theorem LV.further {l l2 : List Int} (h : LV l l2) (r : S) : Wire.further r l2 = Wire.further r l := by
  unfold Wire.further
  rw [h.split]
theorem LV.dropLast {l l2 : List Int} (h : LV l l2) : LV l.dropLast l2.dropLast := by
  refine ⟨by rw [List.length_dropLast, List.length_dropLast, h.len], fun j => ?_⟩
  rw [List.getElem?_dropLast, List.getElem?_dropLast, h.len]
  by_cases hj : j < l.length - 1
  · rw [if_pos hj, if_pos hj]
    rcases h.vary j with h1 | ⟨x', y', h1, h2, h3, h4, h5, h6⟩
    · exact .inl h1
    · refine .inr ⟨x', y', h1, h2, h3, h4, h5, fun q hq => ?_⟩
      rw [List.getElem?_dropLast, if_pos (by omega)]
      exact h6 q hq
  · rw [if_neg hj, if_neg hj]
    exact .inl rfl
theorem lineEnd_keeps (r : S) (l : List Int) (h : r.inB = false) : (lineEnd r l).2.line = r.line ∧ (lineEnd r l).2.lines = r.lines ∧ (r.lines ≠ 1 → l = [] → (lineEnd r l).2.inB = true) ∧ (¬ (r.lines ≠ 1 ∧ l = []) → (lineEnd r l).2.inB = false) := by
  unfold lineEnd
  split
  · rename_i h1
    refine ⟨?_, ?_, fun h2 => (h2 h1).elim, fun _ => ?_⟩ <;> unfold Wire.first <;> split
    all_goals first | rfl | exact h | (split <;> first | rfl | exact h)
  · split
    · rename_i h1 h2
      unfold ends
      split
      · exact ⟨rfl, rfl, fun _ _ => rfl, fun h3 => (h3 ⟨h1, h2⟩).elim⟩
      · exact ⟨rfl, rfl, fun _ _ => rfl, fun h3 => (h3 ⟨h1, h2⟩).elim⟩
    · rename_i h1 h2
      split
      · exact ⟨rfl, rfl, fun _ h3 => (h2 h3).elim, fun _ => h⟩
      · unfold Wire.further
        split
        · exact ⟨rfl, rfl, fun _ h3 => (h2 h3).elim, fun _ => h⟩
        · repeat' split
          all_goals exact ⟨rfl, rfl, fun _ h3 => (h2 h3).elim, fun _ => h⟩
theorem badC_L {x y : Int} (hx : isL x = true) (hy : isL y = true) (bh : Bool) : badC bh y = badC bh x := by
  rw [isL_iff] at hx hy
  have f : ∀ z : Int, ((97 ≤ z ∧ z ≤ 122) ∨ (65 ≤ z ∧ z ≤ 90)) → badC bh z = bh := by
    intro z hz
    have h1 : decide (z = 10) = false := decide_eq_false (by omega)
    have h2 : decide (z < 32) = false := decide_eq_false (by omega)
    have h3 : decide (126 < z) = false := decide_eq_false (by omega)
    unfold badC
    rw [h1, h2, h3]
    simp
  rw [f x hx, f y hy]
/-- The two readers in the head, side by side. -/
structure HV (b c : List Int) (k a : Nat) (s : S) (l2 : List Int) : Prop where
  bad : s.bad = false
  whole : s.whole = false
  inB : s.inB = false
  at_ : a + s.line.length = k
  len : l2.length = s.line.length
  l1 : ∀ j : Nat, j < s.line.length → s.line[j]? = b[a + j]?
  l2 : ∀ j : Nat, j < s.line.length → l2[j]? = c[a + j]?
  nl : ∀ q : Nat, a ≤ q → q < k → b[q]? ≠ some 10
  zero : s.lines = 0 → a = 0
  more : s.lines ≠ 0 → 2 ≤ a ∧ b[a - 1]? = some 10 ∧ b[a - 2]? = some 13
theorem HV.behind {b c : List Int} (h : CE b c) {k a : Nat} {s : S} {l2 : List Int} (hv : HV b c k a s l2) : behind l2 = behind s.line := by
  unfold Wire.behind
  rw [List.getLast?_eq_getElem?, List.getLast?_eq_getElem?, hv.len]
  by_cases h0 : s.line.length = 0
  · have e1 : s.line = [] := List.length_eq_zero_iff.1 h0
    have e2 : l2 = [] := List.length_eq_zero_iff.1 (hv.len.trans h0)
    rw [e1, e2]
  · rw [hv.l1 _ (by omega), hv.l2 _ (by omega)]
    generalize a + (s.line.length - 1) = j
    apply decide_eq_decide.2
    exact ⟨fun h1 => h.back h1 (by decide), fun h1 => h.same h1 (by decide)⟩
theorem HV.lv {b c : List Int} (h : CE b c) {k a : Nat} {s : S} {l2 : List Int} (hv : HV b c k a s l2) (h0 : s.lines ≠ 0) : LV s.line l2 := by
  refine ⟨hv.len, fun j => ?_⟩
  by_cases hj : j < s.line.length
  · rw [hv.l1 j hj, hv.l2 j hj]
    rcases h.vary (a + j) with h1 | ⟨x, y, h1, h2, h3, h4, h5, ⟨p, h6, h7, h8⟩, _⟩
    · exact .inl h1
    · refine .inr ⟨x, y, h1, h2, h3, h4, h5, fun q hq => ?_⟩
      rw [hv.l1 q (by omega)]
      refine h8 _ ?_ (by omega)
      refine Nat.lt_of_not_le fun hp => hv.nl p (by omega) ?_ h7
      have := hv.at_; omega
  · left
    rw [List.getElem?_eq_none (by have := hv.len; omega), List.getElem?_eq_none (by omega)]
theorem HV.eq {b c : List Int} (h : CE b c) {k a : Nat} {s : S} {l2 : List Int} (hv : HV b c k a s l2) (h0 : s.lines = 0) : l2 = s.line := by
  apply List.ext_getElem?
  intro j
  by_cases hj : j < s.line.length
  · rw [hv.l1 j hj, hv.l2 j hj]
    rcases h.vary (a + j) with h1 | ⟨x, y, h1, h2, h3, h4, h5, ⟨p, h6, h7, h8⟩, _⟩
    · exact h1
    · exact (hv.nl p (by have := hv.zero h0; omega) (by have := hv.at_; omega) h7).elim
  · rw [List.getElem?_eq_none (by have := hv.len; omega), List.getElem?_eq_none (by omega)]
theorem setLine {s : S} (h : s.line = []) : { s with line := [] } = s := by cases s; simp_all
theorem case_go {b c : List Int} (h : CE b c) : ∀ (l l2 : List Int) (k a : Nat) (s : S) (ln : List Int) (i : Int), b.drop k = l → c.drop k = l2 → HV b c k a s ln → go { s with line := ln } l2 i = go s l i := by
  intro l
  induction l with
  | nil =>
    intro l2 k a s ln i h1 h2 hv
    have : l2 = [] := by rw [← h2, List.drop_eq_nil_iff, h.len]; exact List.drop_eq_nil_iff.1 h1
    subst this
    rfl
  | cons x l ih =>
    intro l2 k a s ln i h1 h2 hv
    have hk : k < b.length := by
      refine Nat.lt_of_not_le fun hk => ?_
      rw [List.drop_eq_nil_iff.2 hk] at h1; cases h1
    have hbx : b[k]? = some x := by
      have := congrArg (·[0]?) h1
      simpa [List.getElem?_drop] using this
    have hb1 : b.drop (k + 1) = l := by rw [← List.tail_drop, h1, List.tail_cons]
    cases l2 with
    | nil => have := List.drop_eq_nil_iff.1 h2; rw [h.len] at this; omega
    | cons y l2 =>
      have hcy : c[k]? = some y := by
        have := congrArg (·[0]?) h2
        simpa [List.getElem?_drop] using this
      have hc1 : c.drop (k + 1) = l2 := by rw [← List.tail_drop, h2, List.tail_cons]
      have hxy : y = x ∨ (isL x = true ∧ isL y = true ∧ low x = low y) := by
        rcases h.vary k with h3 | ⟨x', y', h3, h4, h5, h6, h7, _⟩
        · left; rw [hcy, hbx] at h3; exact Option.some.inj h3
        · rw [hbx] at h3; rw [hcy] at h4; obtain rfl := Option.some.inj h3; obtain rfl := Option.some.inj h4; exact .inr ⟨h5, h6, h7⟩
      have hbad : badC (Wire.behind ln) y = badC (Wire.behind s.line) x := by
        rw [hv.behind h]
        rcases hxy with rfl | ⟨h3, h4, _⟩
        · rfl
        · exact badC_L h3 h4 _
      have hst : ∀ z, step s z = heads s z := fun z => by unfold step; rw [hv.inB]; simp
      have hst2 : ∀ z, step { s with line := ln } z = heads { s with line := ln } z := fun z => by unfold step; rw [show ({ s with line := ln } : S).inB = false from hv.inB]; simp
      rw [go_cons, go_cons, put_on hv.bad hv.whole, put_on (r := { s with line := ln }) hv.bad hv.whole, hst, hst2]
      by_cases hh : 1024 ≤ s.head
      · rw [heads_big hh, heads_big (r := { s with line := ln }) hh]; rfl
      · by_cases hb : badC (Wire.behind s.line) x = true
        · rw [heads_bad hh hb, heads_bad (r := { s with line := ln }) hh (hbad.trans hb)]; rfl
        · have hb2 : ¬ badC (Wire.behind ln) y = true := by rw [hbad]; exact hb
          by_cases hx : x = 10
          · have hy : y = 10 := by rcases hxy with rfl | ⟨h3, _⟩; exact hx; subst hx; simp [isL, lowC, upC] at h3
            subst hx
            subst hy
            rw [heads_end hh hb, heads_end (r := { s with line := ln }) hh hb2]
            have hla : s.line.getLast? = some 13 := by
              cases hbh : Wire.behind s.line with
              | true => simpa [Wire.behind] using hbh
              | false => rw [hbh] at hb; simp [badC] at hb
            have hn0 : 1 ≤ s.line.length := by
              cases hl : s.line with
              | nil => rw [hl] at hla; simp at hla
              | cons => simp
            have h13 : b[k - 1]? = some 13 := by
              rw [List.getLast?_eq_getElem?, hv.l1 _ (by omega)] at hla
              have := hv.at_
              rw [show k - 1 = a + (s.line.length - 1) by omega]; exact hla
            have hE : lineEnd { s with head := s.head + 1, line := [], lines := s.lines + 1 } ln.dropLast = lineEnd { s with head := s.head + 1, line := [], lines := s.lines + 1 } s.line.dropLast := by
              by_cases h0 : s.lines = 0
              · rw [hv.eq h h0]
              · have hlv := (hv.lv h h0).dropLast
                unfold lineEnd
                have e1 : (ln.dropLast = []) ↔ (s.line.dropLast = []) := by
                  rw [← List.length_eq_zero_iff, ← List.length_eq_zero_iff, hlv.len]
                by_cases he : s.line.dropLast = []
                · rw [he, e1.2 he]
                · rw [if_neg (show ¬ ({ s with head := s.head + 1, line := [], lines := s.lines + 1 } : S).lines = 1 by show ¬ s.lines + 1 = 1; omega), if_neg he, if_neg (fun h => he (e1.1 h)), hlv.further, if_neg (show ¬ ({ s with head := s.head + 1, line := [], lines := s.lines + 1 } : S).lines = 1 by show ¬ s.lines + 1 = 1; omega)]
            show (if (lineEnd { s with head := s.head + 1, line := [], lines := s.lines + 1 } ln.dropLast).1 ≠ 0 then _ else if (lineEnd { s with head := s.head + 1, line := [], lines := s.lines + 1 } ln.dropLast).2.whole = true then _ else go { (lineEnd { s with head := s.head + 1, line := [], lines := s.lines + 1 } ln.dropLast).2 with bad := decide ((lineEnd { s with head := s.head + 1, line := [], lines := s.lines + 1 } ln.dropLast).1 ≠ 0) } l2 (i + 1)) = _
            rw [hE]
            obtain ⟨q1, q2, q3, q4⟩ := lineEnd_keeps { s with head := s.head + 1, line := [], lines := s.lines + 1 } s.line.dropLast hv.inB
            generalize lineEnd { s with head := s.head + 1, line := [], lines := s.lines + 1 } s.line.dropLast = q at *
            obtain ⟨qe, qs⟩ := q
            show (if qe ≠ 0 then _ else if qs.whole = true then _ else go { qs with bad := decide (qe ≠ 0) } l2 (i + 1)) = (if qe ≠ 0 then _ else if qs.whole = true then _ else go { qs with bad := decide (qe ≠ 0) } l (i + 1))
            split
            · rfl
            · rename_i hqe
              split
              · rfl
              · rename_i hqw
                have hdec : decide (qe ≠ 0) = false := decide_eq_false hqe
                rw [hdec]
                simp only at q1 q2 q3 q4
                by_cases hem : s.lines + 1 ≠ 1 ∧ s.line.dropLast = []
                · have hlen1 : s.line.length = 1 := by have := congrArg List.length hem.2; rw [List.length_dropLast, List.length_nil] at this; omega
                  obtain ⟨m1, m2, m3⟩ := hv.more (by omega)
                  have hat := hv.at_
                  have hpat : Pat b (k - 1) := ⟨by omega, by rw [show k - 1 - 2 = a - 2 by omega]; exact m3, by rw [show k - 1 - 1 = a - 1 by omega]; exact m2, h13, by rw [show k - 1 + 1 = k by omega]; exact hbx⟩
                  have : l2 = l := by
                    rw [← hb1, ← hc1]
                    apply List.ext_getElem?
                    intro j
                    rw [List.getElem?_drop, List.getElem?_drop]
                    rcases h.vary (k + 1 + j) with h3 | ⟨_, _, _, _, _, _, _, _, h4⟩
                    · exact h3
                    · exact (h4 (k - 1) (by omega) hpat).elim
                  rw [this]
                · have hi2 := q4 hem
                  have := ih l2 (k + 1) (k + 1) { qs with bad := false } [] (i + 1) hb1 hc1 ⟨rfl, by show qs.whole = false; cases hh : qs.whole with | false => rfl | true => exact (hqw hh).elim, hi2, by show k + 1 + qs.line.length = k + 1; rw [q1]; rfl, by show _ = qs.line.length; rw [q1], fun j hj => by rw [show ({ qs with bad := false } : S).line = [] from q1] at hj; simp at hj, fun j hj => by rw [show ({ qs with bad := false } : S).line = [] from q1] at hj; simp at hj, fun q h3 h4 => by omega, fun h3 => by have h5 : qs.lines = 0 := h3; omega, fun _ => ⟨by have := hv.at_; omega, by rw [show k + 1 - 1 = k by omega]; exact hbx, by rw [show k + 1 - 2 = k - 1 by omega]; exact h13⟩⟩
                  have e3 : ({ { qs with bad := false } with line := [] } : S) = { qs with bad := false } := setLine (show ({ qs with bad := false } : S).line = [] from q1)
                  rw [e3] at this
                  exact this
          · have hy : y ≠ 10 := by rcases hxy with rfl | ⟨_, h3, _⟩; exact hx; rintro rfl; simp [isL, lowC, upC] at h3
            rw [heads_more hh hb hx, heads_more (r := { s with line := ln }) hh hb2 hy]
            show (if (0 : Int) ≠ 0 then _ else if s.whole = true then _ else go { s with head := s.head + 1, line := ln ++ [y], bad := decide ((0 : Int) ≠ 0) } l2 (i + 1)) = (if (0 : Int) ≠ 0 then _ else if s.whole = true then _ else go { s with head := s.head + 1, line := s.line ++ [x], bad := decide ((0 : Int) ≠ 0) } l (i + 1))
            have hw : ¬ s.whole = true := by rw [hv.whole]; simp
            rw [if_neg (by simp), if_neg hw, if_neg (by simp), if_neg hw, show decide ((0 : Int) ≠ 0) = false by simp]
            have hat := hv.at_
            refine ih l2 (k + 1) a { s with head := s.head + 1, line := s.line ++ [x], bad := false } (ln ++ [y]) (i + 1) hb1 hc1 ⟨rfl, hv.whole, hv.inB, by show a + (s.line ++ [x]).length = k + 1; simp; omega, by show (ln ++ [y]).length = (s.line ++ [x]).length; simp [hv.len], fun j hj => ?_, fun j hj => ?_, fun q h3 h4 => ?_, hv.zero, hv.more⟩
            · show (s.line ++ [x])[j]? = _
              have hj2 : j < s.line.length + 1 := by have : j < (s.line ++ [x]).length := hj; simpa using this
              by_cases hj3 : j < s.line.length
              · rw [List.getElem?_append_left hj3]; exact hv.l1 j hj3
              · rw [List.getElem?_append_right (by omega), show j - s.line.length = 0 by omega, show a + j = k by omega, hbx]; rfl
            · have hj2 : j < s.line.length + 1 := by have : j < (s.line ++ [x]).length := hj; simpa using this
              by_cases hj3 : j < s.line.length
              · rw [List.getElem?_append_left (by rw [hv.len]; exact hj3)]; exact hv.l2 j hj3
              · rw [List.getElem?_append_right (by rw [hv.len]; omega), hv.len, show j - s.line.length = 0 by omega, show a + j = k by omega, hcy]; rfl
            · by_cases hqk : q < k
              · exact hv.nl q h3 hqk
              · obtain rfl : q = k := by omega
                rw [hbx]; intro h5; exact hx (Option.some.inj h5)
theorem case_whole {b c : List Int} (h : CE b c) : whole c = whole b := by
  unfold whole
  have := case_go h b c 0 0 new [] 0 (by simp) (by simp) ⟨rfl, rfl, rfl, rfl, rfl, fun j hj => by simp [new] at hj, fun j hj => by simp [new] at hj, fun q _ h => by omega, fun _ => rfl, fun h => (h rfl).elim⟩
  exact this
end Wire
end Go.Proofs.Ytibegbmehpggbaa
