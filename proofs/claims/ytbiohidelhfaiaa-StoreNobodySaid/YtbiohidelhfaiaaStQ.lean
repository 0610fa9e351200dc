/-
  Changes and their texts, plainly: there and back; the document's reader.
-/
import Derived.Test.YtbiohidelhfaiaaStP
namespace Go.Proofs.Ytbiohidelhfaiaa
set_option linter.unusedVariables false
set_option linter.unusedSimpArgs false
namespace Sto
theorem rdF_var {x : Nat} (hx : x < 18446744073709551616) (r : List Int) : rdF (varF x ++ r) = (x, (varF x).length, 0) := by
  have e1 : (128 : Nat) ^ (9 + 1) = 1180591620717411303424 := by decide
  have e2 : 2 * (128 : Nat) ^ 9 = 18446744073709551616 := by decide
  have := rd_var 9 x 0 0 r (by omega) (by decide) (fun h => by cases h) (fun _ => by omega) (fun h => absurd h (by decide))
  unfold rdF varF
  rw [this]
  simp
theorem piece_counted {k : List Int} (hk : k.length < 18446744073709551616) (r : List Int) : piece (counted k ++ r) = some (k, r) := by
  have e : counted k ++ r = varF k.length ++ (k ++ r) := by unfold counted; rw [List.append_assoc]
  unfold piece
  rw [e, rdF_var hk]
  simp only
  rw [if_neg (by rintro (h | h); exact h rfl; simp only [List.length_append] at h; omega)]
  rw [List.drop_append_of_le_length (Nat.le_refl _), List.drop_length, List.nil_append, List.take_append_of_le_length (Nat.le_refl _), List.take_length, List.drop_append, List.drop_eq_nil_of_le (by omega), List.nil_append, Nat.add_sub_cancel_left, List.drop_append_of_le_length (Nat.le_refl _), List.drop_length, List.nil_append]
/-- A change that can be. -/
structure Good (c : Chg) : Prop where
  k : c.key.length < 18446744073709551616
  v : c.val.length < 18446744073709551616
  d : c.del = true → c.val = []
theorem change_enc {c : Chg} (h : Good c) (r : List Int) : change (enc1 c ++ r) = some (c, r) := by
  obtain ⟨k, d, v⟩ := c
  cases d with
  | true =>
    have hv : v = [] := h.d rfl
    subst hv
    have e : enc1 ⟨k, true, []⟩ ++ r = 1 :: (counted k ++ r) := by simp [enc1]
    rw [e]
    unfold change
    simp only
    rw [if_neg (by decide), piece_counted h.k]
    simp
  | false =>
    have e : enc1 ⟨k, false, v⟩ ++ r = 0 :: (counted k ++ (counted v ++ r)) := by simp [enc1]
    rw [e]
    unfold change
    simp only
    rw [if_neg (by decide), piece_counted h.k]
    simp only
    rw [if_neg (by decide), piece_counted h.v]
theorem changes_enc : ∀ (l : List Chg) (r : List Int), (∀ c ∈ l, Good c) → changes l.length (l.flatMap enc1 ++ r) = some (l, r) := by
  intro l
  induction l with
  | nil => intro r _; rfl
  | cons c l ih =>
    intro r h
    rw [List.length_cons, changes, List.flatMap_cons, List.append_assoc, change_enc (h c (List.mem_cons_self ..))]
    simp only
    rw [ih r (fun d hd => h d (List.mem_cons_of_mem _ hd))]
theorem chkGo_all : ∀ (l a : List Chg), chkGo a l = 0 → ∀ c ∈ l, ∃ b, chk1 b c = 0 := by
  intro l
  induction l with
  | nil => intro a _ c hc; cases hc
  | cons d l ih =>
    intro a h c hc
    rw [chkGo] at h
    split at h
    · rename_i h1; exact (h1 h).elim
    · rename_i h1
      rcases List.mem_cons.1 hc with rfl | hc
      · exact ⟨a, Classical.not_not.1 h1⟩
      · exact ih _ h c hc
theorem chk1_good {a : List Chg} {c : Chg} (h : chk1 a c = 0) : Good c ∧ keyF c.key = true ∧ c.val.length ≤ 4096 := by
  unfold chk1 at h
  split at h
  · cases h
  · rename_i h1
    split at h
    · cases h
    · rename_i h2
      split at h
      · cases h
      · rename_i h3
        have hk : keyF c.key = true := by simpa using h1
        have hk2 := hk
        unfold keyF at hk2
        simp only [Bool.and_eq_true, decide_eq_true_eq] at hk2
        refine ⟨⟨by omega, by omega, fun hd => ?_⟩, hk, by omega⟩
        rcases Nat.eq_zero_or_pos c.val.length with h4 | h4
        · exact List.eq_nil_of_length_eq_zero h4
        · exact (h3 ⟨hd, h4⟩).elim
theorem chk_good {l : List Chg} (h : chk l = 0) : (∀ c ∈ l, Good c ∧ keyF c.key = true ∧ c.val.length ≤ 4096) ∧ 1 ≤ l.length ∧ l.length ≤ 16 := by
  unfold chk at h
  split at h
  · cases h
  · rename_i h1
    refine ⟨fun c hc => ?_, by omega, by omega⟩
    obtain ⟨b, hb⟩ := chkGo_all l [] h c hc
    exact chk1_good hb
theorem dec_enc {l : List Chg} (h : chk l = 0) : dec (encL l) = (l, 0) := by
  obtain ⟨h1, h2, h3⟩ := chk_good h
  have hr := rdF_var (x := l.length) (by omega) (l.flatMap enc1)
  unfold dec encL
  rw [hr]
  simp only
  rw [if_neg (by rintro (h | h); exact h rfl; omega), List.drop_append_of_le_length (Nat.le_refl _), List.drop_length, List.nil_append]
  have := changes_enc l [] (fun c hc => (h1 c hc).1)
  rw [List.append_nil] at this
  rw [this]
  simp only
  rw [if_neg (by rintro (h4 | h4); exact h4 rfl; exact h4 h)]
/-! ### back -/
theorem rd_back {b : List Int} (hB : IsB b) (h : (rdF b).2.2 = 0) : b.take (rdF b).2.1 = varF (rdF b).1 ∧ (rdF b).1 < 18446744073709551616 ∧ (rdF b).2.1 ≤ b.length := by
  obtain ⟨x, h1, h2, h3, h4⟩ := var_rd b 0 0 (by decide) hB h
  have h5 := rdGo_le b 0 0 h
  have e : (rdF b).1 = x := by unfold rdF; rw [h1]; simp
  have e2 : 2 * (128 : Nat) ^ (9 - 0) = 18446744073709551616 := by decide
  rw [e]
  refine ⟨?_, by omega, by unfold rdF; omega⟩
  unfold rdF varF
  exact h2
theorem piece_back {b k r : List Int} (hB : IsB b) (h : piece b = some (k, r)) : b = counted k ++ r ∧ k.length < 18446744073709551616 := by
  unfold piece at h
  split at h
  · cases h
  · rename_i h1
    simp only [Option.some.injEq, Prod.mk.injEq] at h
    obtain ⟨rfl, rfl⟩ := h
    have he : (rdF b).2.2 = 0 := Classical.not_not.1 (fun h => h1 (.inl h))
    obtain ⟨h2, h3, h4⟩ := rd_back hB he
    have hx : ¬ b.length - (rdF b).2.1 < (rdF b).1 := fun h => h1 (.inr h)
    generalize (rdF b).1 = x at *
    generalize (rdF b).2.1 = n at *
    have hl : ((b.drop n).take x).length = x := by rw [List.length_take, List.length_drop]; omega
    refine ⟨?_, by omega⟩
    unfold counted
    rw [hl, ← h2, List.append_assoc, ← List.drop_drop, List.take_append_drop, List.take_append_drop]
theorem change_back {b r : List Int} {c : Chg} (hB : IsB b) (h : change b = some (c, r)) : b = enc1 c ++ r := by
  unfold change at h
  cases b with
  | nil => cases h
  | cons t s =>
    simp only at h
    split at h
    · cases h
    · rename_i ht
      have hb := hB t (List.mem_cons_self ..)
      have hs : IsB s := fun x hx => hB x (List.mem_cons_of_mem _ hx)
      cases hp : piece s with
      | none => rw [hp] at h; cases h
      | some q =>
        obtain ⟨k, r2⟩ := q
        rw [hp] at h
        simp only at h
        obtain ⟨e1, _⟩ := piece_back hs hp
        split at h
        · rename_i h1
          simp only [Option.some.injEq, Prod.mk.injEq] at h
          obtain ⟨rfl, rfl⟩ := h
          rw [e1, h1]; simp [enc1]
        · rename_i h1
          have h0 : t = 0 := by omega
          cases hp2 : piece r2 with
          | none => rw [hp2] at h; cases h
          | some q =>
            obtain ⟨v, r3⟩ := q
            rw [hp2] at h
            simp only [Option.some.injEq, Prod.mk.injEq] at h
            obtain ⟨rfl, rfl⟩ := h
            have hr2 : IsB r2 := fun x hx => hs x (by rw [e1]; exact List.mem_append_right _ hx)
            obtain ⟨e2, _⟩ := piece_back hr2 hp2
            rw [e1, e2, h0]; simp [enc1]
theorem changes_back : ∀ (n : Nat) (b r : List Int) (l : List Chg), IsB b → changes n b = some (l, r) → b = l.flatMap enc1 ++ r ∧ l.length = n := by
  intro n
  induction n with
  | zero => intro b r l _ h; simp only [changes, Option.some.injEq, Prod.mk.injEq] at h; obtain ⟨rfl, rfl⟩ := h; exact ⟨rfl, rfl⟩
  | succ n ih =>
    intro b r l hB h
    rw [changes] at h
    cases hc : change b with
    | none => rw [hc] at h; cases h
    | some q =>
      obtain ⟨c, s⟩ := q
      rw [hc] at h
      simp only at h
      have e1 := change_back hB hc
      have hs : IsB s := fun x hx => hB x (by rw [e1]; exact List.mem_append_right _ hx)
      cases hl : changes n s with
      | none => rw [hl] at h; cases h
      | some q =>
        obtain ⟨l2, r2⟩ := q
        rw [hl] at h
        simp only [Option.some.injEq, Prod.mk.injEq] at h
        obtain ⟨rfl, rfl⟩ := h
        obtain ⟨e2, e3⟩ := ih s _ l2 hs hl
        refine ⟨?_, by rw [List.length_cons, e3]⟩
        rw [e1, e2, List.flatMap_cons, List.append_assoc]
theorem dec_cases (b : List Int) (hB : IsB b) : dec b = ([], 4) ∨ ∃ l, dec b = (l, 0) ∧ b = encL l ∧ chk l = 0 := by
  unfold dec
  split
  · exact .inl rfl
  · rename_i h1
    have he : (rdF b).2.2 = 0 := Classical.not_not.1 (fun h => h1 (.inl h))
    obtain ⟨h2, h3, h4⟩ := rd_back hB he
    cases hl : changes (rdF b).1 (b.drop (rdF b).2.1) with
    | none => exact .inl rfl
    | some q =>
      obtain ⟨l, r⟩ := q
      simp only
      split
      · exact .inl rfl
      · rename_i h5
        right
        have hr : r = [] := Classical.not_not.1 (fun h => h5 (.inl h))
        have hc : chk l = 0 := Classical.not_not.1 (fun h => h5 (.inr h))
        subst hr
        obtain ⟨e1, e2⟩ := changes_back _ _ _ l (fun x hx => hB x (List.drop_subset _ _ hx)) hl
        rw [List.append_nil] at e1
        refine ⟨l, rfl, ?_, hc⟩
        unfold encL
        rw [← e1, e2, ← h2, List.take_append_drop]
/-! ### the document's reader -/
def dChange (b : List Int) : Option (Chg × List Int) :=
  match b with
  | [] => none
  | t :: r => match piece r with
    | none => none
    | some (k, r2) => if t = 1 then some (⟨k, true, []⟩, r2) else match piece r2 with
      | none => none
      | some (v, r3) => some (⟨k, false, v⟩, r3)
def dChanges : Nat → List Int → Option (List Chg × List Int)
  | 0, b => some ([], b)
  | n + 1, b => match dChange b with
    | none => none
    | some (c, r) => match dChanges n r with
      | none => none
      | some (l, r2) => some (c :: l, r2)
def dDec (b : List Int) : List Chg × Int :=
  if (rdF b).2.2 ≠ 0 ∨ 16 < (rdF b).1 then ([], 4) else match dChanges (rdF b).1 (b.drop (rdF b).2.1) with
    | none => ([], 4)
    | some (l, r) => if chk l ≠ 0 ∨ encL l ≠ b then ([], 4) else (l, 0)
theorem dChange_enc {c : Chg} (h : Good c) (r : List Int) : dChange (enc1 c ++ r) = some (c, r) := by
  obtain ⟨k, d, v⟩ := c
  cases d with
  | true =>
    have hv : v = [] := h.d rfl
    subst hv
    have e : enc1 ⟨k, true, []⟩ ++ r = 1 :: (counted k ++ r) := by simp [enc1]
    rw [e]
    unfold dChange
    simp only
    rw [piece_counted h.k]
    simp
  | false =>
    have e : enc1 ⟨k, false, v⟩ ++ r = 0 :: (counted k ++ (counted v ++ r)) := by simp [enc1]
    rw [e]
    unfold dChange
    simp only
    rw [piece_counted h.k]
    simp only
    rw [if_neg (by decide), piece_counted h.v]
theorem dChanges_enc : ∀ (l : List Chg) (r : List Int), (∀ c ∈ l, Good c) → dChanges l.length (l.flatMap enc1 ++ r) = some (l, r) := by
  intro l
  induction l with
  | nil => intro r _; rfl
  | cons c l ih =>
    intro r h
    rw [List.length_cons, dChanges, List.flatMap_cons, List.append_assoc, dChange_enc (h c (List.mem_cons_self ..))]
    simp only
    rw [ih r (fun d hd => h d (List.mem_cons_of_mem _ hd))]
theorem dDec_enc {l : List Chg} (h : chk l = 0) : dDec (encL l) = (l, 0) := by
  obtain ⟨h1, h2, h3⟩ := chk_good h
  have hr := rdF_var (x := l.length) (by omega) (l.flatMap enc1)
  unfold dDec
  have e : encL l = varF l.length ++ l.flatMap enc1 := rfl
  rw [e, hr]
  simp only
  rw [if_neg (by rintro (h | h); exact h rfl; omega), List.drop_append_of_le_length (Nat.le_refl _), List.drop_length, List.nil_append]
  have := dChanges_enc l [] (fun c hc => (h1 c hc).1)
  rw [List.append_nil] at this
  rw [this]
  simp only
  rw [if_neg (by rintro (h4 | h4); exact h4 h; exact h4 rfl)]
/-- The document's reader answers the same. -/
theorem dec_doc (b : List Int) (hB : IsB b) : dDec b = dec b := by
  rcases dec_cases b hB with h | ⟨l, h, e, hc⟩
  · rw [h]
    have h2 : dDec b = ([], 4) ∨ ∃ l, dDec b = (l, 0) ∧ chk l = 0 ∧ encL l = b := by
      unfold dDec
      split
      · exact .inl rfl
      · cases hl : dChanges (rdF b).1 (b.drop (rdF b).2.1) with
        | none => exact .inl rfl
        | some q =>
          obtain ⟨l, r⟩ := q
          simp only
          split
          · exact .inl rfl
          · rename_i h5
            exact .inr ⟨l, rfl, Classical.not_not.1 (fun h => h5 (.inl h)), Classical.not_not.1 (fun h => h5 (.inr h))⟩
    rcases h2 with h2 | ⟨l, _, h3, h4⟩
    · exact h2
    · rw [← h4, dec_enc h3] at h
      cases h
  · rw [h, e, dDec_enc hc]
end Sto
end Go.Proofs.Ytbiohidelhfaiaa
