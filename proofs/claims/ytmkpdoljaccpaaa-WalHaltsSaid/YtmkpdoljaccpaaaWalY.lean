/-
  A log, plainly: how an Append and an Open end where the power may go off.
-/
import Derived.Test.YtmkpdoljaccpaaaWalX
namespace Go.Proofs.Ytmkpdoljaccpaaa
open Go.Disk (St)
set_option linter.unusedVariables false
set_option linter.unusedSimpArgs false
theorem now_laid {F now : List (List Int)} {ts : List (List Int)} {t : List Int} {k : Nat} (hF : F = laid 1 ts ++ List.replicate k Disk.zsec) (hfit : (laid 1 ts).length + spanF (t.length + 20) ≤ F.length)
    (hn : ∀ j, now[j]? = if (laid 1 ts).length ≤ j ∧ j < (laid 1 ts).length + spanF (t.length + 20) then some (Disk.pad (secF (putF ((ts.length : Int) + 1) t) (j - (laid 1 ts).length))) else F[j]?) : now = laid 1 (ts ++ [t]) ++ List.replicate (k - spanF (t.length + 20)) Disk.zsec := by
  have hfl : (putF ((ts.length : Int) + 1) t).length = t.length + 20 := putF_len _ _
  have e1 : putF ((1 + ts.length : Nat) : Int) t = putF ((ts.length : Int) + 1) t := by congr 1; omega
  have hlen : F.length = (laid 1 ts).length + k := by rw [hF, List.length_append, List.length_replicate]
  rw [laid_snoc, e1]
  apply List.ext_getElem?
  intro j
  rw [hn j]
  by_cases j1 : j < (laid 1 ts).length
  · rw [if_neg (by omega), hF, List.getElem?_append_left j1, List.append_assoc, List.getElem?_append_left j1]
  · rw [List.append_assoc, List.getElem?_append_right (by omega)]
    by_cases j2 : j < (laid 1 ts).length + spanF (t.length + 20)
    · rw [if_pos (by omega), List.getElem?_append_left (by rw [secs_len, hfl]; omega)]
      unfold secs
      rw [List.getElem?_map, List.getElem?_range (by rw [hfl]; omega)]
      rfl
    · rw [if_neg (by omega), List.getElem?_append_right (by rw [secs_len, hfl]; omega), secs_len, hfl, List.getElem?_replicate, hF, List.getElem?_append_right (by omega), List.getElem?_replicate]
      by_cases j3 : j < F.length
      · rw [if_pos (by omega), if_pos (by omega)]
      · rw [if_neg (by omega), if_neg (by omega)]
theorem Safe10.doubt {s : St} {ts : List (List Int)} {t : List Int} (h : Safe10 s ts) : Doubt10 s ts t := ⟨h.1, fun now hm => .inl (h.2 now hm)⟩
theorem behind_none {s : St} {F : List (List Int)} (a : Nat) (hf : s.fast = F) (hn : s.now = F) (ho : s.opn = []) : Behind s F a := ⟨hf, by rw [hn, ho]; rfl, fun p hp => by rw [ho] at hp; cases hp⟩
/-- A frame is laid, or the power goes off: then nothing but it is in doubt. -/
theorem lay_or {s : St} {L : LogS} (h : Alive s L) {t : List Int} (ht : IsB t) (hsm : t.length ≤ 16384) (hfit : L.next + spanF (t.length + 20) ≤ s.now.length) :
    ((layP s L.next (putF ((L.texts.length : Int) + 1) t)).1 = 0 ∧ Alive (layP s L.next (putF ((L.texts.length : Int) + 1) t)).2 ⟨L.texts ++ [t], L.next + spanF (t.length + 20), false⟩) ∨
    ((layP s L.next (putF ((L.texts.length : Int) + 1) t)).1 = 14 ∧ (layP s L.next (putF ((L.texts.length : Int) + 1) t)).2.off = true ∧ Doubt10 (layP s L.next (putF ((L.texts.length : Int) + 1) t)).2 L.texts t) := by
  have hfl : (putF ((L.texts.length : Int) + 1) t).length = t.length + 20 := putF_len _ _
  have hfb : IsB (putF ((L.texts.length : Int) + 1) t) := putF_byte ht
  have hnx := h.inv.next
  have hform := h.inv.form h.byte
  obtain ⟨k, hk⟩ := h.inv.now
  have hs1 : 1 ≤ spanF (t.length + 20) := by unfold spanF; omega
  have hB0 : Behind s s.now L.next := behind_none _ h.fast rfl h.opn
  have hdead : ∀ s' : St, Behind s' s.now L.next → Doubt10 s' L.texts t := fun s' hb => (Behind.safe (by rw [← hnx]; exact hb) hform).doubt
  -- the end of it, out of a disk that is all fast
  have hend : ∀ s2 : St, s2.off = false → s2.opn = [] → s2.fast = s2.now → s2.now.length = s.now.length → (∀ j, s2.now[j]? = if L.next + 1 ≤ j ∧ j < L.next + spanF (t.length + 20) then some (Disk.pad (secF (putF ((L.texts.length : Int) + 1) t) (j - L.next))) else s.now[j]?) →
      ((layEnd s2 L.next (putF ((L.texts.length : Int) + 1) t)).1 = 0 ∧ Alive (layEnd s2 L.next (putF ((L.texts.length : Int) + 1) t)).2 ⟨L.texts ++ [t], L.next + spanF (t.length + 20), false⟩) ∨
      ((layEnd s2 L.next (putF ((L.texts.length : Int) + 1) t)).1 = 14 ∧ (layEnd s2 L.next (putF ((L.texts.length : Int) + 1) t)).2.off = true ∧ Doubt10 (layEnd s2 L.next (putF ((L.texts.length : Int) + 1) t)).2 L.texts t) := by
    intro s2 o2 p2 f2 l2 n2
    have hall : ∀ x ∈ s2.now, x.length = 64 ∧ IsB x := by
      intro x hx
      obtain ⟨j, hj, rfl⟩ := List.getElem_of_mem hx
      have e : s2.now[j]? = some s2.now[j] := List.getElem?_eq_getElem hj
      rw [n2 j] at e
      split at e
      · rw [← Option.some.inj e]
        exact ⟨pad_64 (by unfold secF; rw [List.length_take]; omega), pad_byte (fun y hy => hfb y (sec_mem hy))⟩
      · exact ⟨h.inv.n64 _ (List.mem_of_getElem? e), hform.byte _ (List.mem_of_getElem? e)⟩
    have hf2 : Form s2.now L.texts := hform.stays l2 (fun j hj => by rw [n2 j, if_neg (by rw [hnx]; omega)]) (fun x hx => (hall x hx).1) (fun x hx => (hall x hx).2)
    have htl : ((putF ((L.texts.length : Int) + 1) t).take 64).length ≤ 64 := by rw [List.length_take]; omega
    unfold layEnd
    rcases write_or o2 L.next ((putF ((L.texts.length : Int) + 1) t).take 64) (by rw [l2]; omega) htl with ⟨w1, w2, w3, w4, w5, _⟩ | ⟨w1, w2, w3, w4, w5, _⟩
    · rw [if_pos w1]
      generalize (s2.write L.next ((putF ((L.texts.length : Int) + 1) t).take 64)).2 = s3 at *
      have hn3 : s3.now = apply s3.fast s3.opn := by rw [w3, w4, w5, p2, f2]; rfl
      have hj3 : ∀ j, s3.now[j]? = if (laid 1 L.texts).length ≤ j ∧ j < (laid 1 L.texts).length + spanF (t.length + 20) then some (Disk.pad (secF (putF ((L.texts.length : Int) + 1) t) (j - (laid 1 L.texts).length))) else s.now[j]? := by
        intro j
        rw [w3, ← hnx]
        by_cases hj : j = L.next
        · subst hj
          rw [List.getElem?_set_self (by rw [l2]; omega), if_pos (by omega), Nat.sub_self]
          unfold secF
          simp
        · rw [List.getElem?_set_ne (by omega), n2 j]
          by_cases h1 : L.next + 1 ≤ j ∧ j < L.next + spanF (t.length + 20)
          · rw [if_pos h1, if_pos (by omega)]
          · rw [if_neg h1, if_neg (by omega)]
      have hl3 : s3.now.length = s.now.length := by rw [w3, List.length_set, l2]
      have hlaid := now_laid (t := t) hk (by rw [← hnx]; exact hfit) hj3
      have hbyte : ∀ y ∈ L.texts ++ [t], IsB y := by
        intro y hy
        rcases List.mem_append.1 hy with hy | hy
        · exact h.byte y hy
        · rw [List.mem_singleton] at hy; subst hy; exact ht
      have hW : ∀ s' : St, s'.off = false → s'.now = s3.now → WInv s' ⟨L.texts ++ [t], L.next + spanF (t.length + 20), false⟩ := by
        intro s' o' n'
        refine ⟨o', rfl, ⟨_, by rw [n']; exact hlaid⟩, ?_, fun y hy => ?_, by rw [n', hl3]; exact h.inv.most⟩
        · simp only
          rw [laid_snoc, List.length_append, secs_len, putF_len, hnx]
        · rcases List.mem_append.1 hy with hy | hy
          · exact h.inv.small y hy
          · rw [List.mem_singleton] at hy; subst hy; exact hsm
      rcases sync_or w2 hn3 with ⟨y1, y2, y3, y4, y5, _⟩ | ⟨y1, y2, y3, y4, y5, _⟩
      · exact .inl ⟨y1, hW _ y2 y3, y5, by rw [y4, y3], hbyte⟩
      · refine .inr ⟨y1, y2, by rw [y3, y4, y5]; exact hn3, fun now hm => ?_⟩
        have hmf : ∀ j, now[j]? = s2.now[j]? ∨ (j = L.next ∧ now[j]? = some (Disk.pad ((putF ((L.texts.length : Int) + 1) t).take 64))) := by
          intro j
          rcases hm.2 j with h1 | ⟨p, hp, h1, h2⟩
          · left; rw [h1, y4, w4, f2]
          · rw [y5, w5, p2] at hp
            simp only [List.nil_append, List.mem_singleton] at hp
            subst hp
            right
            exact ⟨by simp only at h1; omega, h2⟩
        have hlen : now.length = s2.now.length := by rw [hm.1, y4, w4, f2]
        rcases hmf L.next with h1 | ⟨_, h1⟩
        · left
          have : now = s2.now := by
            apply List.ext_getElem?
            intro j
            rcases hmf j with h2 | ⟨h2, _⟩
            · exact h2
            · rw [h2]; exact h1
          rw [this]; exact hf2
        · right
          have : now = s3.now := by
            apply List.ext_getElem?
            intro j
            rw [w3]
            by_cases hj : j = L.next
            · rw [hj, List.getElem?_set_self (by rw [l2]; omega)]; exact h1
            · rw [List.getElem?_set_ne (by omega)]
              rcases hmf j with h2 | ⟨h2, _⟩
              · exact h2
              · exact (hj h2).elim
          rw [this]
          exact (hW { s3 with off := false } rfl rfl).form hbyte
    · rw [if_neg (by rw [w1]; decide)]
      refine .inr ⟨w1, w2, Safe10.doubt ?_⟩
      exact Behind.safe (F := s2.now) (behind_none _ (by rw [w4, f2]) w3 (by rw [w5, p2])) hf2
  obtain ⟨g1, g2, g3⟩ := layGo_or (putF ((L.texts.length : Int) + 1) t) L.next hfb (spanF (putF ((L.texts.length : Int) + 1) t).length - 1) 1 s s.now h.inv.off hB0 (Nat.le_refl _) (by rw [hfl]; omega)
  unfold layP
  rcases g1 with ⟨a, b, c⟩ | ⟨a, b⟩
  · rw [if_pos a]
    unfold layMid
    by_cases h64 : 64 < (putF ((L.texts.length : Int) + 1) t).length
    · rw [if_pos h64]
      rcases sync_or b (by rw [g2.fast]; exact g2.now) with ⟨y1, y2, y3, y4, y5, _⟩ | ⟨y1, y2, y3, y4, y5, _⟩
      · rw [if_pos y1]
        refine hend _ y2 y5 (by rw [y4, y3]) (by rw [y3, g3]) (fun j => ?_)
        rw [y3, c j, hfl]
        by_cases h1 : L.next + 1 ≤ j ∧ j < L.next + spanF (t.length + 20)
        · rw [if_pos h1, if_pos (by omega)]
        · rw [if_neg h1, if_neg (by omega)]
      · rw [if_neg (by rw [y1]; decide)]
        exact .inr ⟨y1, y2, hdead _ ⟨by rw [y4]; exact g2.fast, by rw [y3, y5]; exact g2.now, by rw [y5]; exact g2.opn⟩⟩
    · rw [if_neg h64]
      have hsp : spanF (t.length + 20) = 1 := by rw [hfl] at h64; unfold spanF; omega
      have e0 : layGo (putF ((L.texts.length : Int) + 1) t) L.next (spanF (putF ((L.texts.length : Int) + 1) t).length - 1) 1 s = (0, s) := by rw [hfl, hsp]; rfl
      rw [e0]
      exact hend s h.inv.off h.opn h.fast rfl (fun j => by rw [if_neg (by rw [hsp]; omega)])
  · rw [if_neg (by rw [a]; decide)]
    exact .inr ⟨a, b, hdead _ g2⟩
/-- How an Append ends. -/
theorem Alive.append {s : St} {L : LogS} (h : Alive s L) {t : List Int} (ht : IsB t) :
    ((appendP s L t).1 = 0 ∧ Alive (appendP s L t).2.1 (appendP s L t).2.2 ∧ (appendP s L t).2.2.texts = L.texts ++ [t]) ∨
    (((appendP s L t).1 = 5 ∨ (appendP s L t).1 = 11) ∧ (appendP s L t).2 = (s, L)) ∨
    ((appendP s L t).1 = 14 ∧ (appendP s L t).2.1.off = true ∧ (appendP s L t).2.2 = { L with dead := true } ∧ Doubt10 (appendP s L t).2.1 L.texts t) := by
  unfold appendP
  rw [if_neg (by rw [h.inv.dead]; simp)]
  by_cases hb : 16384 < t.length
  · rw [if_pos hb]; exact .inr (.inl ⟨.inl rfl, rfl⟩)
  · rw [if_neg hb]
    by_cases hf : s.now.length < L.next + spanF (t.length + 20)
    · rw [if_pos hf]; exact .inr (.inl ⟨.inr rfl, rfl⟩)
    · rw [if_neg hf]
      rcases lay_or h ht (by omega) (by omega) with ⟨a, b⟩ | ⟨a, b, c⟩
      · rw [if_pos a]; exact .inl ⟨rfl, b, rfl⟩
      · rw [if_neg (by rw [a]; decide)]; exact .inr (.inr ⟨a, b, rfl, c⟩)
end Go.Proofs.Ytmkpdoljaccpaaa
