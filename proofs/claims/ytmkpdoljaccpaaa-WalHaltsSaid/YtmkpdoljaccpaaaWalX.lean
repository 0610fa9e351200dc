/-
  A log, plainly: the power goes off while it is written, or opened.
-/
import Derived.Test.YtmkpdoljaccpaaaWalK
namespace Go.Proofs.Ytmkpdoljaccpaaa
open Go.Disk (St)
set_option linter.unusedVariables false
set_option linter.unusedSimpArgs false
theorem step_or (s : St) : (s.step.1 = true ∧ s.step.2.off = s.off ∨ s.step.1 = false ∧ s.step.2.off = true ∧ s.armed = true) ∧ s.step.2.now = s.now ∧ s.step.2.fast = s.fast ∧ s.step.2.opn = s.opn ∧ s.step.2.armed = s.armed := by
  unfold St.step
  split
  · rename_i h
    exact ⟨.inr ⟨rfl, rfl, by cases ha : s.armed <;> simp_all⟩, rfl, rfl, rfl, rfl⟩
  · split
    · exact ⟨.inl ⟨rfl, rfl⟩, rfl, rfl, rfl, rfl⟩
    · exact ⟨.inl ⟨rfl, rfl⟩, rfl, rfl, rfl, rfl⟩
theorem write_or {s : St} (ho : s.off = false) (i : Nat) (b : List Int) (hi : i < s.now.length) (hb : b.length ≤ 64) :
    ((s.write i b).1 = 0 ∧ (s.write i b).2.off = false ∧ (s.write i b).2.now = s.now.set i (Disk.pad b) ∧ (s.write i b).2.fast = s.fast ∧ (s.write i b).2.opn = s.opn ++ [((i : Int), Disk.pad b)] ∧ (s.write i b).2.armed = s.armed) ∨
    ((s.write i b).1 = 14 ∧ (s.write i b).2.off = true ∧ (s.write i b).2.now = s.now ∧ (s.write i b).2.fast = s.fast ∧ (s.write i b).2.opn = s.opn ∧ s.armed = true) := by
  obtain ⟨h1, h2, h3, h4, h5⟩ := step_or s
  unfold St.write
  rw [if_neg (by rw [ho]; simp), if_neg (by omega)]
  rcases h1 with ⟨a, b'⟩ | ⟨a, b', ca⟩
  · rw [if_pos a]; exact .inl ⟨rfl, by show s.step.2.off = false; rw [b', ho], by simp, h3, rfl, h5⟩
  · rw [if_neg (by rw [a]; simp)]; exact .inr ⟨rfl, b', h2, h3, h4, ca⟩
theorem sync_or {s : St} (ho : s.off = false) (hn : s.now = apply s.fast s.opn) :
    (s.sync.1 = 0 ∧ s.sync.2.off = false ∧ s.sync.2.now = s.now ∧ s.sync.2.fast = s.now ∧ s.sync.2.opn = [] ∧ s.sync.2.armed = s.armed) ∨
    (s.sync.1 = 14 ∧ s.sync.2.off = true ∧ s.sync.2.now = s.now ∧ s.sync.2.fast = s.fast ∧ s.sync.2.opn = s.opn ∧ s.armed = true) := by
  obtain ⟨h1, h2, h3, h4, h5⟩ := step_or s
  unfold St.sync
  rw [if_neg (by rw [ho]; simp)]
  rcases h1 with ⟨a, b'⟩ | ⟨a, b', ca⟩
  · rw [if_pos a]; exact .inl ⟨rfl, by show s.step.2.off = false; rw [b', ho], h2, by show St.settle s.now s.fast s.opn = s.now; exact settle_now hn, rfl, h5⟩
  · rw [if_neg (by rw [a]; simp)]; exact .inr ⟨rfl, b', h2, h3, h4, ca⟩
/-- Open writes stand behind a place alone. -/
structure Behind (s : St) (F : List (List Int)) (at_ : Nat) : Prop where
  fast : s.fast = F
  now : s.now = apply F s.opn
  opn : ∀ p ∈ s.opn, at_ < p.1.toNat ∧ p.2.length = 64 ∧ IsB p.2
theorem apply_nil (F : List (List Int)) : apply F [] = F := rfl
/-- The first sectors are as they were. -/
theorem Behind.mix {s : St} {F now : List (List Int)} {a : Nat} (h : Behind s F a) (hm : Mix s now) : now.length = F.length ∧ ∀ j, j ≤ a → now[j]? = F[j]? := by
  refine ⟨by rw [hm.1, h.fast], fun j hj => ?_⟩
  rcases hm.2 j with h1 | ⟨p, hp, h1, h2⟩
  · rw [h1, h.fast]
  · have := (h.opn p hp).1; omega
theorem mix_all {s : St} {now : List (List Int)} {Pr : List Int → Prop} (hm : Mix s now) (hf : ∀ x ∈ s.fast, Pr x) (ho : ∀ p ∈ s.opn, Pr p.2) : ∀ x ∈ now, Pr x := by
  intro x hx
  obtain ⟨j, hj, rfl⟩ := List.getElem_of_mem hx
  have e : now[j]? = some now[j] := List.getElem?_eq_getElem hj
  rcases hm.2 j with h | ⟨p, hp, _, h⟩
  · rw [h] at e
    exact hf _ (List.mem_of_getElem? e)
  · rw [h] at e
    rw [← Option.some.inj e]
    exact ho p hp
/-- A form whose first sectors stay has the same texts. -/
theorem Form.stays {now now' ts : List (List Int)} (h : Form now ts) (hl : now'.length = now.length) (hs : ∀ j, j ≤ (laid 1 ts).length → now'[j]? = now[j]?) (h64 : ∀ x ∈ now', x.length = 64) (hb : ∀ x ∈ now', IsB x) : Form now' ts := by
  obtain ⟨rest, e, hr⟩ := h.form
  refine ⟨⟨now'.drop (laid 1 ts).length, ?_, fun z hz => ?_⟩, h64, hb, h.small, by rw [hl]; exact h.most⟩
  · have : now'.take (laid 1 ts).length = laid 1 ts := by
      apply List.ext_getElem?
      intro j
      rw [List.getElem?_take]
      by_cases hj : j < (laid 1 ts).length
      · rw [if_pos hj, hs j (by omega), e, List.getElem?_append_left hj]
      · rw [if_neg hj, List.getElem?_eq_none (by omega)]
    conv => lhs; rw [← List.take_append_drop (laid 1 ts).length now', this]
  · rw [List.getElem?_drop, Nat.add_zero, hs _ (Nat.le_refl _), e, List.getElem?_append_right (Nat.le_refl _), Nat.sub_self] at hz
    exact hr z hz
/-- A log on a disk whose power is on, all of it fast. -/
structure Alive (s : St) (L : LogS) : Prop where
  inv : WInv s L
  opn : s.opn = []
  fast : s.fast = s.now
  byte : ∀ t ∈ L.texts, IsB t
theorem WInv.form {s : St} {L : LogS} (h : WInv s L) (hb : ∀ t ∈ L.texts, IsB t) : Form s.now L.texts := by
  obtain ⟨k, hk⟩ := h.now
  refine ⟨⟨List.replicate k Disk.zsec, hk, fun z hz => ?_⟩, h.n64, fun x hx => ?_, h.small, h.most⟩
  · rw [List.getElem?_replicate] at hz
    split at hz
    · cases hz; exact blank_zsec
    · cases hz
  · rw [hk] at hx
    rcases List.mem_append.1 hx with hx | hx
    · exact laid_byte _ _ hb x hx
    · rw [List.eq_of_mem_replicate hx]
      intro y hy
      rw [zsec_rep] at hy
      rw [List.eq_of_mem_replicate hy]; decide
/-- Whatever a crash leaves, it has these texts. -/
def Safe10 (s : St) (ts : List (List Int)) : Prop := s.now = apply s.fast s.opn ∧ ∀ now, Mix s now → Form now ts
def Doubt10 (s : St) (ts : List (List Int)) (t : List Int) : Prop := s.now = apply s.fast s.opn ∧ ∀ now, Mix s now → Form now ts ∨ Form now (ts ++ [t])
theorem Behind.safe {s : St} {F ts : List (List Int)} (h : Behind s F (laid 1 ts).length) (hF : Form F ts) : Safe10 s ts := by
  refine ⟨by rw [h.fast]; exact h.now, fun now hm => ?_⟩
  obtain ⟨h1, h2⟩ := h.mix hm
  exact hF.stays h1 h2 (mix_all hm (by rw [h.fast]; exact hF.n64) (fun p hp => (h.opn p hp).2.1)) (mix_all hm (by rw [h.fast]; exact hF.byte) (fun p hp => (h.opn p hp).2.2))
/-- The sectors behind the first are written. -/
theorem layGo_or (f : List Int) (next : Nat) (hfb : IsB f) : ∀ (n i : Nat) (s : St) (F : List (List Int)), s.off = false → Behind s F next → 1 ≤ i → next + i + n ≤ s.now.length →
    (((layGo f next n i s).1 = 0 ∧ (layGo f next n i s).2.off = false ∧ (∀ j, (layGo f next n i s).2.now[j]? = if next + i ≤ j ∧ j < next + i + n then some (Disk.pad (secF f (j - next))) else s.now[j]?)) ∨ ((layGo f next n i s).1 = 14 ∧ (layGo f next n i s).2.off = true)) ∧ Behind (layGo f next n i s).2 F next ∧ (layGo f next n i s).2.now.length = s.now.length := by
  intro n
  induction n with
  | zero => intro i s F ho hB _ _; exact ⟨.inl ⟨rfl, ho, fun j => by rw [if_neg (by omega)]; rfl⟩, hB, rfl⟩
  | succ n ih =>
    intro i s F ho hB hi hn
    have hsl : (secF f i).length ≤ 64 := by unfold secF; rw [List.length_take]; omega
    rw [layGo]
    rcases write_or ho (next + i) (secF f i) (by omega) hsl with ⟨w1, w2, w3, w4, w5, w6⟩ | ⟨w1, w2, w3, w4, w5, w6⟩
    · rw [if_pos w1]
      have hB2 : Behind (s.write ((next + i : Nat) : Int) (secF f i)).2 F next := by
        refine ⟨by rw [w4]; exact hB.fast, ?_, fun p hp => ?_⟩
        · rw [w3, w5, apply_snoc, ← hB.now]; rfl
        · rw [w5] at hp
          rcases List.mem_append.1 hp with hp | hp
          · exact hB.opn p hp
          · rw [List.mem_singleton] at hp
            subst hp
            exact ⟨by simp only; omega, pad_64 hsl, pad_byte (fun y hy => hfb y (sec_mem hy))⟩
      obtain ⟨g1, g2, g3⟩ := ih (i + 1) _ F w2 hB2 (by omega) (by rw [w3, List.length_set]; omega)
      refine ⟨?_, g2, by rw [g3, w3, List.length_set]⟩
      rcases g1 with ⟨a, b, cc⟩ | g1
      · refine .inl ⟨a, b, fun j => ?_⟩
        rw [cc j, w3]
        by_cases h1 : next + (i + 1) ≤ j ∧ j < next + (i + 1) + n
        · rw [if_pos h1, if_pos (by omega)]
        · rw [if_neg h1]
          by_cases h2 : j = next + i
          · subst h2
            rw [if_pos (by omega), List.getElem?_set_self (by omega)]
            congr 3
            omega
          · rw [if_neg (by omega), List.getElem?_set_ne (by omega)]
      · exact .inr g1
    · rw [if_neg (by rw [w1]; decide)]
      exact ⟨.inr ⟨w1, w2⟩, ⟨by rw [w4]; exact hB.fast, by rw [w3, w5]; exact hB.now, by rw [w5]; exact hB.opn⟩, by rw [w3]⟩
end Go.Proofs.Ytmkpdoljaccpaaa
