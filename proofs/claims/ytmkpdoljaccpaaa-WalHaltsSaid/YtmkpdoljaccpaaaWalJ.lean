/-
  A log, plainly: what Append leaves.
-/
import Derived.Test.YtmkpdoljaccpaaaWalI
namespace Go.Proofs.Ytmkpdoljaccpaaa
open Go.Disk (St)
set_option linter.unusedVariables false
set_option linter.unusedSimpArgs false
/-- The power is on and stays so. -/
def Quiet (s : St) : Prop := s.off = false ∧ s.armed = false
theorem sync_on {s : St} (h : Quiet s) : s.sync.1 = 0 ∧ Quiet s.sync.2 ∧ s.sync.2.now = s.now ∧ s.sync.2.opn = [] := by
  unfold St.sync St.step
  simp [h.1, h.2, Quiet]
theorem write_on10 {s : St} (h : Quiet s) (i : Nat) (b : List Int) (hi : i < s.now.length) (hb : b.length ≤ 64) : (s.write i b).1 = 0 ∧ Quiet (s.write i b).2 ∧ (s.write i b).2.now = s.now.set i (Disk.pad b) ∧ (s.write i b).2.opn.length = s.opn.length + 1 := by
  rw [write_quiet h.1 h.2 (i : Int) b (by omega) (by omega) hb]
  exact ⟨rfl, h, by simp, by simp⟩
theorem layGo_on (f : List Int) (next : Nat) : ∀ (n i : Nat) (s : St), Quiet s → next + i + n ≤ s.now.length → (layGo f next n i s).1 = 0 ∧ Quiet (layGo f next n i s).2 ∧ (layGo f next n i s).2.now.length = s.now.length ∧ (∀ j, (layGo f next n i s).2.now[j]? = if next + i ≤ j ∧ j < next + i + n then some (Disk.pad (secF f (j - next))) else s.now[j]?) ∧ (layGo f next n i s).2.opn.length = s.opn.length + n := by
  intro n
  induction n with
  | zero => intro i s h _; exact ⟨rfl, h, rfl, fun j => by rw [if_neg (by omega)]; rfl, rfl⟩
  | succ n ih =>
    intro i s h hn
    have hsl : (secF f i).length ≤ 64 := by unfold secF; rw [List.length_take]; omega
    obtain ⟨w1, w2, w3, w4⟩ := write_on10 h (next + i) (secF f i) (by omega) hsl
    rw [layGo, if_pos w1]
    obtain ⟨g1, g2, g3, g4, g5⟩ := ih (i + 1) _ w2 (by rw [w3, List.length_set]; omega)
    refine ⟨g1, g2, by rw [g3, w3, List.length_set], fun j => ?_, by rw [g5, w4]; omega⟩
    rw [g4 j, w3]
    by_cases h1 : next + (i + 1) ≤ j ∧ j < next + (i + 1) + n
    · rw [if_pos h1, if_pos (by omega)]
    · rw [if_neg h1]
      by_cases h2 : j = next + i
      · subst h2
        rw [if_pos (by omega), List.getElem?_set_self (by omega)]
        congr 3
        omega
      · rw [if_neg (by omega), List.getElem?_set_ne (by omega)]
theorem layP_on {s : St} (h : Quiet s) (next : Nat) (f : List Int) (f1 : 1 ≤ f.length) (hn : next + spanF f.length ≤ s.now.length) : (layP s next f).1 = 0 ∧ Quiet (layP s next f).2 ∧ (layP s next f).2.now.length = s.now.length ∧ (∀ j, (layP s next f).2.now[j]? = if next ≤ j ∧ j < next + spanF f.length then some (Disk.pad (secF f (j - next))) else s.now[j]?) ∧ (layP s next f).2.opn = [] := by
  have hs1 : 1 ≤ spanF f.length := by unfold spanF; omega
  obtain ⟨g1, g2, g3, g4, g5⟩ := layGo_on f next (spanF f.length - 1) 1 s h (by omega)
  unfold layP
  rw [if_pos g1]
  generalize (layGo f next (spanF f.length - 1) 1 s).2 = s1 at *
  have hend : ∀ s2 : St, Quiet s2 → s2.now = s1.now → (layEnd s2 next f).1 = 0 ∧ Quiet (layEnd s2 next f).2 ∧ (layEnd s2 next f).2.now.length = s.now.length ∧ (∀ j, (layEnd s2 next f).2.now[j]? = if next ≤ j ∧ j < next + spanF f.length then some (Disk.pad (secF f (j - next))) else s.now[j]?) ∧ (layEnd s2 next f).2.opn = [] := by
    intro s2 q2 e2
    obtain ⟨w1, w2, w3, w4⟩ := write_on10 q2 next (f.take 64) (by rw [e2, g3]; omega) (by rw [List.length_take]; omega)
    unfold layEnd
    rw [if_pos w1]
    obtain ⟨y1, y2, y3, y4⟩ := sync_on w2
    refine ⟨y1, y2, by rw [y3, w3, List.length_set, e2, g3], fun j => ?_, y4⟩
    rw [y3, w3, e2]
    by_cases hj : j = next
    · subst hj
      rw [List.getElem?_set_self (by rw [g3]; omega), if_pos (by omega), Nat.sub_self]
      unfold secF
      simp
    · rw [List.getElem?_set_ne (by omega), g4 j]
      by_cases h1 : next + 1 ≤ j ∧ j < next + 1 + (spanF f.length - 1)
      · rw [if_pos h1, if_pos (by omega)]
      · rw [if_neg h1, if_neg (by omega)]
  unfold layMid
  split
  · obtain ⟨y1, y2, y3, y4⟩ := sync_on g2
    rw [if_pos y1]
    exact hend _ y2 y3
  · exact hend _ g2 rfl
/-- How an Append ends. -/
theorem WInv.append {s : St} {L : LogS} (h : WInv s L) (hq : s.armed = false) (t : List Int) (ho : s.opn = []) :
    ((appendP s L t).1 = 0 ∧ (t.length : Int) ≤ roomP s.now.length L.next ∧ WInv (appendP s L t).2.1 (appendP s L t).2.2 ∧ (appendP s L t).2.1.armed = false ∧ (appendP s L t).2.1.opn = [] ∧ (appendP s L t).2.1.now.length = s.now.length ∧ (appendP s L t).2.2.texts = L.texts ++ [t] ∧ roomP s.now.length (appendP s L t).2.2.next ≤ roomP s.now.length L.next) ∨
    (((appendP s L t).1 = 5 ∨ (appendP s L t).1 = 11) ∧ ¬ (t.length : Int) ≤ roomP s.now.length L.next ∧ (appendP s L t).2 = (s, L)) := by
  have hN := h.nexts
  have hm := h.most
  unfold appendP
  rw [if_neg (by rw [h.dead]; simp)]
  by_cases hb : 16384 < t.length
  · rw [if_pos hb]
    refine .inr ⟨.inl rfl, ?_, rfl⟩
    unfold roomP
    split
    · omega
    · split <;> omega
  · rw [if_neg hb]
    by_cases hf : s.now.length < L.next + spanF (t.length + 20)
    · rw [if_pos hf]
      refine .inr ⟨.inr rfl, ?_, rfl⟩
      unfold spanF at hf
      unfold roomP
      split
      · omega
      · split <;> omega
    · rw [if_neg hf]
      have hfl : (putF ((L.texts.length : Int) + 1) t).length = t.length + 20 := putF_len _ _
      obtain ⟨g1, g2, g3, g4, g5⟩ := layP_on (s := s) ⟨h.off, hq⟩ L.next (putF ((L.texts.length : Int) + 1) t) (by omega) (by rw [hfl]; omega)
      rw [if_pos g1]
      refine .inl ⟨rfl, ?_, ⟨g2.1, rfl, ?_, ?_, ?_, ?_⟩, g2.2, g5, g3, rfl, ?_⟩
      · unfold spanF at hf
        unfold roomP
        split
        · omega
        · split <;> omega
      · obtain ⟨k, hk⟩ := h.now
        have hlen : s.now.length = L.next + k := by rw [hk, List.length_append, List.length_replicate, h.next]
        refine ⟨k - spanF (t.length + 20), ?_⟩
        have e1 : putF ((1 + L.texts.length : Nat) : Int) t = putF ((L.texts.length : Int) + 1) t := by congr 1; omega
        simp only
        rw [laid_snoc, e1]
        apply List.ext_getElem?
        intro j
        rw [g4 j, hfl]
        by_cases j1 : j < L.next
        · rw [if_neg (by omega), hk, List.getElem?_append_left (by rw [← h.next]; exact j1), List.append_assoc, List.getElem?_append_left (by rw [← h.next]; exact j1)]
        · rw [List.append_assoc, List.getElem?_append_right (by rw [← h.next]; omega), ← h.next]
          by_cases j2 : j < L.next + spanF (t.length + 20)
          · rw [if_pos (by omega), List.getElem?_append_left (by rw [secs_len, hfl]; omega)]
            unfold secs
            rw [List.getElem?_map, List.getElem?_range (by rw [hfl]; omega)]
            rfl
          · rw [if_neg (by omega), List.getElem?_append_right (by rw [secs_len, hfl]; omega), secs_len, hfl, List.getElem?_replicate, hk, List.getElem?_append_right (by rw [← h.next]; omega), ← h.next, List.getElem?_replicate]
            by_cases j3 : j < s.now.length
            · rw [if_pos (by omega), if_pos (by omega)]
            · rw [if_neg (by omega), if_neg (by omega)]
      · simp only
        rw [laid_snoc, List.length_append, secs_len, putF_len, h.next]
      · intro x hx
        rcases List.mem_append.1 hx with hx | hx
        · exact h.small x hx
        · rw [List.mem_singleton] at hx; subst hx; omega
      · rw [g3]; exact hm
      · simp only
        unfold roomP
        split <;> split <;> (try split) <;> (try split) <;> omega
end Go.Proofs.Ytmkpdoljaccpaaa
