/-
  The two readers of requests, byte by byte: they answer the same.
-/
import Derived.Test.YtibegbmehpggbaaWireSR
import Derived.Test.YtibegbmehpggbaaLWireNext
namespace Go.Proofs.Ytibegbmehpggbaa
open Go.RowKit Go.Canon Go.Mem
set_option linter.unusedVariables false
set_option linter.unusedSimpArgs false
theorem chunk_err (c : Chunk.Rd) (b : Int) : (Chunk.put c b).1.2 ≠ 0 → (Chunk.put c b).1.1 = false ∧ (Chunk.put c b).1.2 ≠ 3 := by
  have ht : (Chunk.take c b).1 ≠ 3 := by
    unfold Chunk.take Chunk.count Chunk.must
    repeat' split
    all_goals simp
  unfold Chunk.put
  split
  · intro _; exact ⟨rfl, by simp⟩
  · split
    · intro _; exact ⟨rfl, ht⟩
    · intro h; simp at h
theorem line_err (r : Wire.S) (l : List Int) : ((Wire.lineEnd r l).1 ≠ 0 → (Wire.lineEnd r l).2.whole = r.whole) ∧ (Wire.lineEnd r l).1 ≠ 3 := by
  unfold Wire.lineEnd
  split
  · unfold Wire.first
    split
    · split
      · exact ⟨fun h => by simp at h, by simp⟩
      · exact ⟨fun _ => rfl, by simp⟩
    · exact ⟨fun _ => rfl, by simp⟩
  · split
    · exact ⟨fun h => by simp at h, by simp⟩
    · split
      · exact ⟨fun _ => rfl, by simp⟩
      · unfold Wire.further
        split
        · exact ⟨fun _ => rfl, by simp⟩
        · repeat' split
          all_goals exact ⟨fun _ => rfl, by simp⟩
theorem put_err {s : Wire.S} {b : Int} (h1 : s.bad = false) (h2 : s.whole = false) : (Wire.put s b).1.2 ≠ 0 → (Wire.put s b).1.1 = false ∧ (Wire.put s b).1.2 ≠ 3 := by
  rw [Wire.put_on h1 h2]
  show (Wire.step s b).1 ≠ 0 → (Wire.step s b).2.whole = false ∧ (Wire.step s b).1 ≠ 3
  unfold Wire.step
  split
  · unfold Wire.body
    split
    · intro h; simp at h
    · rename_i c hc
      have hc := chunk_err c b
      split
      · rename_i hd
        intro h
        have := (hc h).1
        rw [hd] at this; cases this
      · intro h
        exact ⟨h2, (hc h).2⟩
  · unfold Wire.heads
    split
    · intro _; exact ⟨h2, by simp⟩
    · split
      · intro _; exact ⟨h2, by simp⟩
      · split
        · intro h; simp at h
        · intro h
          have := line_err { s with head := s.head + 1, line := [], lines := s.lines + 1 } s.line.dropLast
          exact ⟨(this.1 h).trans h2, this.2⟩
theorem line_head (r : Wire.S) (l : List Int) : (Wire.lineEnd r l).2.head = r.head := by
  unfold Wire.lineEnd
  split
  · unfold Wire.first; split
    · split <;> rfl
    · rfl
  · split
    · unfold Wire.ends; split <;> rfl
    · split
      · rfl
      · unfold Wire.further
        split
        · rfl
        · repeat' split
          all_goals rfl
theorem put_head1 {s : Wire.S} {b : Int} (h1 : s.bad = false) (h2 : s.whole = false) (h : s.inB = true → 1 ≤ s.head) : 1 ≤ (Wire.put s b).2.head := by
  rw [Wire.put_on h1 h2]
  show 1 ≤ (Wire.step s b).2.head
  unfold Wire.step
  cases hi : s.inB with
  | true =>
    rw [if_pos rfl]
    have := h hi
    unfold Wire.body
    split
    · exact this
    · split <;> exact this
  | false =>
    rw [if_neg (by simp)]
    unfold Wire.heads
    split
    · rename_i hh; show 1 ≤ s.head; omega
    · split
      · exact Nat.le_add_left _ _
      · split
        · exact Nat.le_add_left _ _
        · rw [line_head]; exact Nat.le_add_left _ _
/-- The two readers, side by side. -/
structure Rel (s : Wire.S) (d : DR) (n : Nat) : Prop where
  bad : d.bad = s.bad
  done : d.done = s.whole
  both : s.whole = true → s.bad = false
  fed : s.bad = false → s.whole = false → ∀ l2, Wire.whole (d.b ++ l2) = Wire.go s l2 (d.b.length : Int)
  x : s.whole = true → s.x = d.x
  good : WGood s n
  head : s.inB = true → 1 ≤ s.head
  byte : IsB d.b
  len : d.b.length ≤ n
  live : (s.bad = true ∨ s.whole = true) → 1 ≤ s.head ∧ d.b ≠ []
theorem Rel.new : Rel Wire.new DR.new 0 := ⟨rfl, rfl, fun h => (by cases h), fun _ _ l2 => rfl, fun h => (by cases h), WGood.new, fun h => (by cases h), IsB.nil, Nat.le_refl _, fun h => by rcases h with h | h <;> cases h⟩
theorem Rel.put {s : Wire.S} {d : DR} {n : Nat} (h : Rel s d n) {b : Int} (hb : 0 ≤ b ∧ b < 256) : (Wire.put s b).1 = (d.put b).1 ∧ Rel (Wire.put s b).2 (d.put b).2 (n + 1) ∧ 1 ≤ (Wire.put s b).2.head ∧ (d.put b).2.b ≠ [] := by
  by_cases hno : s.bad = true ∨ s.whole = true
  · have e1 : Wire.put s b = ((false, 20), s) := by unfold Wire.put; rw [if_pos hno]
    have e2 : d.put b = ((false, 20), d) := by unfold DR.put; rw [if_pos (by rw [h.bad, h.done]; exact hno)]
    rw [e1, e2]
    exact ⟨rfl, ⟨h.bad, h.done, h.both, h.fed, h.x, h.good.mono (Nat.le_succ _), h.head, h.byte, Nat.le_succ_of_le h.len, h.live⟩, (h.live hno).1, (h.live hno).2⟩
  · have h1 : s.bad = false := by cases hh : s.bad with | false => rfl | true => exact (hno (.inl hh)).elim
    have h2 : s.whole = false := by cases hh : s.whole with | false => rfl | true => exact (hno (.inr hh)).elim
    have hf := h.fed h1 h2
    have hg := h.good.put hb
    have hh1 := put_head1 (b := b) h1 h2 h.head
    have herr := put_err (b := b) h1 h2
    have hbad : (Wire.put s b).2.bad = decide ((Wire.put s b).1.2 ≠ 0) := by rw [Wire.put_on h1 h2]
    have hwh : (Wire.put s b).2.whole = (Wire.put s b).1.1 := by rw [Wire.put_on h1 h2]
    have hdoc : Wire.docWhole (d.b ++ [b]) = if (Wire.put s b).1.2 ≠ 0 then (Wire.zeroR, 0, (Wire.put s b).1.2) else if (Wire.put s b).1.1 = true then ((Wire.put s b).2.x, (d.b.length : Int) + 1, 0) else (Wire.zeroR, 0, 3) := by
      rw [← Wire.whole_doc, hf [b], go_cons]
      rfl
    have hlen : (d.b ++ [b]).length ≤ n + 1 := by rw [List.length_append, List.length_singleton]; have := h.len; omega
    have hne : d.b ++ [b] ≠ [] := by simp
    have hfed : ∀ l2, (Wire.put s b).1.2 = 0 → (Wire.put s b).1.1 = false → Wire.whole ((d.b ++ [b]) ++ l2) = Wire.go (Wire.put s b).2 l2 (((d.b ++ [b]).length : Nat) : Int) := by
      intro l2 he hd
      rw [List.append_assoc, hf ([b] ++ l2), List.singleton_append, go_cons, if_neg (by simpa using he), if_neg (by rw [hd]; simp), List.length_append, List.length_singleton]
      rfl
    obtain ⟨p, hp⟩ : ∃ p, Wire.put s b = p := ⟨_, rfl⟩
    rw [hp] at hg hh1 herr hbad hwh hdoc hfed ⊢
    obtain ⟨⟨a, e⟩, s'⟩ := p
    simp only at hg hh1 herr hbad hwh hdoc hfed
    by_cases he : e = 0
    · subst he
      replace hbad : s'.bad = false := by rw [hbad]; rfl
      cases a with
      | true =>
        have hdoc : Wire.docWhole (d.b ++ [b]) = (s'.x, (d.b.length : Int) + 1, 0) := hdoc
        have e2 : d.put b = ((true, 0), { d with b := d.b ++ [b], done := true, x := s'.x }) := by
          unfold DR.put
          rw [if_neg (by rw [h.bad, h.done]; exact hno), hdoc]
          rfl
        rw [e2]
        exact ⟨rfl, ⟨by show d.bad = s'.bad; rw [h.bad, h1, hbad], hwh.symm, fun _ => hbad, fun _ hw => absurd (hw.symm.trans hwh) (by simp), fun _ => rfl, hg, fun _ => hh1, h.byte.app (IsB.one hb), hlen, fun _ => ⟨hh1, hne⟩⟩, hh1, hne⟩
      | false =>
        have hdoc : Wire.docWhole (d.b ++ [b]) = (Wire.zeroR, 0, 3) := hdoc
        have e2 : d.put b = ((false, 0), { d with b := d.b ++ [b] }) := by
          unfold DR.put
          rw [if_neg (by rw [h.bad, h.done]; exact hno), hdoc]
          rfl
        rw [e2]
        exact ⟨rfl, ⟨by show d.bad = s'.bad; rw [h.bad, h1, hbad], by show d.done = s'.whole; rw [h.done, h2, hwh], fun _ => hbad, fun _ _ l2 => hfed l2 rfl rfl, fun hw => absurd (hw.symm.trans hwh) (by simp), hg, fun _ => hh1, h.byte.app (IsB.one hb), hlen, fun _ => ⟨hh1, hne⟩⟩, hh1, hne⟩
    · obtain ⟨ha, h3⟩ := herr he
      subst ha
      replace hbad : s'.bad = true := by rw [hbad]; exact decide_eq_true he
      have hdoc : Wire.docWhole (d.b ++ [b]) = (Wire.zeroR, 0, e) := by rw [hdoc]; exact if_pos he
      have e2 : d.put b = ((false, e), { d with b := d.b ++ [b], bad := true }) := by
        unfold DR.put
        rw [if_neg (by rw [h.bad, h.done]; exact hno), hdoc]
        show (if e = 0 then _ else if e ≠ 3 then _ else _) = _
        rw [if_neg he, if_pos h3]
      rw [e2]
      exact ⟨rfl, ⟨hbad.symm, by show d.done = s'.whole; rw [h.done, h2, hwh], fun hw => absurd (hw.symm.trans hwh) (by simp), fun hb2 => absurd (hb2.symm.trans hbad) (by simp), fun hw => absurd (hw.symm.trans hwh) (by simp), hg, fun _ => hh1, h.byte.app (IsB.one hb), hlen, fun _ => ⟨hh1, hne⟩⟩, hh1, hne⟩
theorem Rel.take {s : Wire.S} {d : DR} {n : Nat} (h : Rel s d n) (hw : s.whole = true) : Rel Wire.new { d with b := [], done := false, x := Wire.zeroR } 0 :=
  ⟨by show d.bad = false; rw [h.bad, h.both hw], rfl, fun h => (by cases h), fun _ _ l2 => rfl, fun h => (by cases h), WGood.new, fun h => (by cases h), IsB.nil, Nat.le_refl _, fun h => by rcases h with h | h <;> cases h⟩
end Go.Proofs.Ytibegbmehpggbaa
