/-
  A reader of requests, plainly: what stays true of it, byte by byte.
-/
import Derived.Test.YtibegbmehpggbaaDoorWireS
import Derived.Test.YtibegbmehpggbaaDoorChunkW
namespace Go.Proofs.YtibegbmehpggbaaDoor
open Go.RowKit Go.Canon Go.Mem
set_option linter.unusedVariables false
set_option linter.unusedSimpArgs false
/-- What stays true of a reader to which n bytes came. -/
structure WGood (s : Wire.S) (n : Nat) : Prop where
  lines : s.lines ≤ s.head
  line : s.line.length ≤ s.head
  head : s.head ≤ 1024
  byte : IsB s.line
  left : 0 ≤ s.left ∧ s.left ≤ 2048
  room : s.ch = none → (s.x.body.length : Int) + s.left ≤ 2048
  on : s.ch = none → s.inB = true → s.whole = false → 1 ≤ s.left
  ch : ∀ c, s.ch = some c → Mild c n ∧ IsB c.b
  pre : s.inB = false → s.ch = none ∧ s.x.body = []
  xm : IsB s.x.method
  xt : IsB s.x.target
  xk : IsB s.x.token
  xb : IsB s.x.body
  bl : s.x.body.length ≤ 2048 + n
theorem Mild.mono {c : Chunk.Rd} {n m : Nat} (h : Mild c n) (hn : n ≤ m) : Mild c m := ⟨h.most, h.at_, h.left, h.left3, h.top, Nat.le_trans h.len hn⟩
section
variable {s : Wire.S} {n m : Nat}
theorem WGood.mono (h : WGood s n) (hn : n ≤ m) : WGood s m := ⟨h.lines, h.line, h.head, h.byte, h.left, h.room, h.on, fun c hc => ⟨(h.ch c hc).1.mono hn, (h.ch c hc).2⟩, h.pre, h.xm, h.xt, h.xk, h.xb, by have := h.bl; omega⟩
theorem WGood.set_bad (h : WGood s n) (b : Bool) : WGood { s with bad := b } n := ⟨h.lines, h.line, h.head, h.byte, h.left, h.room, h.on, h.ch, h.pre, h.xm, h.xt, h.xk, h.xb, h.bl⟩
theorem WGood.new : WGood Wire.new 0 := ⟨Nat.le_refl _, Nat.le_refl _, by decide, IsB.nil, by decide, fun _ => by decide, fun _ h => (by cases h), fun c h => (by cases h), fun _ => ⟨rfl, rfl⟩, IsB.nil, IsB.nil, IsB.nil, IsB.nil, by simp [Wire.new, Wire.zeroR]⟩
theorem WGood.first (h : WGood s n) {l : List Int} (hl : IsB l) : WGood (Wire.first s l).2 n := by
  unfold Wire.first
  split
  · rename_i a b c he
    have hb := split_byte 32 hl
    rw [he] at hb
    split
    · exact ⟨h.lines, h.line, h.head, h.byte, h.left, h.room, h.on, h.ch, h.pre, hb a (by simp), hb b (by simp), h.xk, h.xb, h.bl⟩
    · exact h
  · exact h
theorem WGood.further (h : WGood s n) {l : List Int} (hl : IsB l) (hi : s.inB = false) : WGood (Wire.further s l).2 n := by
  unfold Wire.further
  split
  · exact h
  · rename_i k v he
    have hv : IsB v := by
      unfold Wire.split at he
      split at he
      · have := Option.some.inj he
        obtain ⟨_, rfl⟩ := Prod.mk.inj this
        exact hl.drop _
      · cases he
    have hp := Wire.readD_pos v
    have hpre := h.pre hi
    split
    · split
      · exact h
      · split
        · exact ⟨h.lines, h.line, h.head, h.byte, h.left, h.room, h.on, h.ch, h.pre, h.xm, h.xt, h.xk, h.xb, h.bl⟩
        · exact ⟨h.lines, h.line, h.head, h.byte, h.left, h.room, h.on, h.ch, h.pre, h.xm, h.xt, hv.drop 7, h.xb, h.bl⟩
    · split
      · split
        · exact h
        · split
          · exact ⟨h.lines, h.line, h.head, h.byte, h.left, h.room, h.on, h.ch, h.pre, h.xm, h.xt, h.xk, h.xb, h.bl⟩
          · split
            · exact ⟨h.lines, h.line, h.head, h.byte, h.left, h.room, h.on, h.ch, h.pre, h.xm, h.xt, h.xk, h.xb, h.bl⟩
            · rename_i hbig
              exact ⟨h.lines, h.line, h.head, h.byte, ⟨hp, by show (readD v).1 ≤ 2048; omega⟩, fun _ => by show (s.x.body.length : Int) + (readD v).1 ≤ 2048; rw [hpre.2]; simp; omega, fun _ h2 => (by rw [show s.inB = true from h2] at hi; cases hi), h.ch, h.pre, h.xm, h.xt, h.xk, h.xb, h.bl⟩
      · split
        · split
          · exact h
          · split
            · exact ⟨h.lines, h.line, h.head, h.byte, h.left, h.room, h.on, h.ch, h.pre, h.xm, h.xt, h.xk, h.xb, h.bl⟩
            · exact ⟨h.lines, h.line, h.head, h.byte, h.left, h.room, h.on, h.ch, h.pre, h.xm, h.xt, h.xk, h.xb, h.bl⟩
        · exact h
theorem Mild.new (n : Nat) : Mild ⟨2048, 0, 0, []⟩ n := ⟨by decide, by decide, .inl (by decide), fun h => (by cases h), by decide, Nat.zero_le _⟩
theorem ends_left (h : WGood s n) (hw : decide (s.left = 0) = false) : 1 ≤ s.left := by
  have := h.left.1
  have h2 := of_decide_eq_false hw
  omega
theorem body_left {i : Int} (h : 1 ≤ i) (hw : decide (i - 1 = 0) = false) : 1 ≤ i - 1 := by
  have h2 := of_decide_eq_false hw
  omega
theorem WGood.ends (h : WGood s n) : WGood (Wire.ends s) n := by
  unfold Wire.ends
  split
  · exact ⟨h.lines, h.line, h.head, h.byte, h.left, fun h => (by cases h), fun h => (by cases h), fun c hc => by obtain rfl := Option.some.inj hc; exact ⟨Mild.new n, IsB.nil⟩, fun h => (by cases h), h.xm, h.xt, h.xk, h.xb, h.bl⟩
  · exact ⟨h.lines, h.line, h.head, h.byte, h.left, h.room, fun _ _ hw => by
      have h1 : decide (s.left = 0) = false := hw
      have := h.left.1
      have h2 := of_decide_eq_false h1
      show 1 ≤ s.left
      omega, h.ch, fun h => (by cases h), h.xm, h.xt, h.xk, h.xb, h.bl⟩
theorem WGood.lineEnd (h : WGood s n) {l : List Int} (hl : IsB l) (hi : s.inB = false) : WGood (Wire.lineEnd s l).2 n := by
  unfold Wire.lineEnd
  split
  · exact h.first hl
  · split
    · exact h.ends
    · split
      · exact h
      · exact h.further hl hi
theorem WGood.heads (h : WGood s n) (hi : s.inB = false) {b : Int} (hb : 0 ≤ b ∧ b < 256) : WGood (Wire.heads s b).2 n := by
  have h1 := h.lines
  have h2 := h.line
  have h3 := h.head
  unfold Wire.heads
  split
  · exact h
  · rename_i hh
    split
    · exact ⟨Nat.le_succ_of_le h1, Nat.le_succ_of_le h2, by show s.head + 1 ≤ 1024; omega, h.byte, h.left, h.room, h.on, h.ch, h.pre, h.xm, h.xt, h.xk, h.xb, h.bl⟩
    · split
      · exact ⟨Nat.le_succ_of_le h1, by show (s.line ++ [b]).length ≤ s.head + 1; rw [List.length_append, List.length_singleton]; omega, by show s.head + 1 ≤ 1024; omega, h.byte.app (IsB.one hb), h.left, h.room, h.on, h.ch, h.pre, h.xm, h.xt, h.xk, h.xb, h.bl⟩
      · have hg : WGood { s with head := s.head + 1, line := [], lines := s.lines + 1 } n := ⟨by show s.lines + 1 ≤ s.head + 1; omega, Nat.zero_le _, by show s.head + 1 ≤ 1024; omega, IsB.nil, h.left, h.room, h.on, h.ch, h.pre, h.xm, h.xt, h.xk, h.xb, h.bl⟩
        exact hg.lineEnd (fun y hy => h.byte y (List.dropLast_subset _ hy)) hi
theorem put_b {c : Chunk.Rd} (h : IsB c.b) {b : Int} (hb : 0 ≤ b ∧ b < 256) : IsB (Chunk.put c b).2.b := by
  have ht : IsB (Chunk.take c b).2.b := by
    unfold Chunk.take Chunk.count Chunk.must
    repeat' split
    all_goals first | exact h | exact h.app (IsB.one hb)
  unfold Chunk.put
  split
  · exact h
  · split
    · exact ht
    · exact ht
theorem WGood.body (h : WGood s n) (hi : s.inB = true) (hw : s.whole = false) {b : Int} (hb : 0 ≤ b ∧ b < 256) : WGood (Wire.body s b).2 (n + 1) := by
  have hl := h.left
  have hbl := h.bl
  cases hc : s.ch with
  | none =>
    have h1 := h.on hc hi hw
    have h2 := h.room hc
    rw [Wire.body_len b hc]
    exact ⟨h.lines, h.line, h.head, h.byte, ⟨by show 0 ≤ s.left - 1; omega, by show s.left - 1 ≤ 2048; omega⟩, fun _ => by show ((s.x.body ++ [b]).length : Int) + (s.left - 1) ≤ 2048; rw [List.length_append, List.length_singleton]; omega, fun _ _ hw2 => body_left h1 hw2, fun c hc2 => (by rw [show s.ch = some c from hc2] at hc; cases hc), fun h3 => (by rw [show s.inB = false from h3] at hi; cases hi), h.xm, h.xt, h.xk, h.xb.app (IsB.one hb), by show (s.x.body ++ [b]).length ≤ _; rw [List.length_append, List.length_singleton]; omega⟩
  | some c =>
    obtain ⟨hm, hcb⟩ := h.ch c hc
    have hm2 := hm.put b
    have hb2 := put_b hcb hb
    rw [Wire.body_ch b hc]
    split
    · exact ⟨h.lines, h.line, h.head, h.byte, h.left, fun h => (by cases h), fun h => (by cases h), fun c2 hc2 => by obtain rfl := Option.some.inj hc2; exact ⟨hm2, hb2⟩, fun h3 => (by rw [show s.inB = false from h3] at hi; cases hi), h.xm, h.xt, h.xk, hb2, by show (Chunk.put c b).2.b.length ≤ _; have := hm2.len; omega⟩
    · exact ⟨h.lines, h.line, h.head, h.byte, h.left, fun h => (by cases h), fun h => (by cases h), fun c2 hc2 => by obtain rfl := Option.some.inj hc2; exact ⟨hm2, hb2⟩, fun h3 => (by rw [show s.inB = false from h3] at hi; cases hi), h.xm, h.xt, h.xk, h.xb, by show s.x.body.length ≤ _; omega⟩
theorem WGood.put (h : WGood s n) {b : Int} (hb : 0 ≤ b ∧ b < 256) : WGood (Wire.put s b).2 (n + 1) := by
  unfold Wire.put
  split
  · exact h.mono (Nat.le_succ _)
  · rename_i hno
    have hw : s.whole = false := by
      cases hh : s.whole with
      | false => rfl
      | true => exact (hno (.inr hh)).elim
    refine WGood.set_bad ?_ _
    unfold Wire.step
    cases hi : s.inB with
    | true => rw [if_pos rfl]; exact h.body hi hw hb
    | false => rw [if_neg (by simp)]; exact (h.heads hi hb).mono (Nat.le_succ _)
end
end Go.Proofs.YtibegbmehpggbaaDoor
