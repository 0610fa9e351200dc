/-
  A log, plainly: what Open finds, what Append leaves.
-/
import Derived.Test.YtmkpdoljaccpaaaWalP
namespace Go.Proofs.Ytmkpdoljaccpaaa
open Go.Disk (St)
set_option linter.unusedVariables false
set_option linter.unusedSimpArgs false
theorem sec_flat {now : List (List Int)} (h : ∀ x ∈ now, x.length = 64) {j : Nat} {x : List Int} (hx : now[j]? = some x) : secF (flatS now) j = x := by
  unfold secF
  rw [flat_drop h]
  obtain ⟨hj, rfl⟩ := List.getElem?_eq_some_iff.1 hx
  rw [List.drop_eq_getElem_cons hj]
  show (now[j] ++ flatS (now.drop (j + 1))).take 64 = now[j]
  rw [List.take_append_of_le_length (by rw [h _ (List.getElem_mem _)]; exact Nat.le_refl _), List.take_of_length_le (by rw [h _ (List.getElem_mem _)]; exact Nat.le_refl _)]
theorem blank_zsec : blankF Disk.zsec = true := blank_zero (by intro x hx; unfold Disk.zsec at hx; exact List.eq_of_mem_replicate hx)
theorem scan_laid {all : List Int} {N : Nat} : ∀ (ts pre : List (List Int)) (ls : List (List Int)) (k f : Nat), all = flatS (pre ++ (laid (ls.length + 1) ts ++ List.replicate k Disk.zsec)) → N = (pre ++ (laid (ls.length + 1) ts ++ List.replicate k Disk.zsec)).length → (∀ x ∈ pre, x.length = 64) → ts.length < f → (∀ t ∈ ts, t.length ≤ 16384) → ls.length + ts.length < 1000000 → scan all N f ls pre.length = some (ls ++ ts, pre.length + (laid (ls.length + 1) ts).length) := by
  intro ts
  induction ts with
  | nil =>
    intro pre ls k f ha hN h64 hf _ _
    obtain ⟨f', rfl⟩ : ∃ f', f = f' + 1 := ⟨f - 1, by simp at hf; omega⟩
    have hall : ∀ x ∈ pre ++ (laid (ls.length + 1) [] ++ List.replicate k Disk.zsec), x.length = 64 := by
      intro x hx
      rcases List.mem_append.1 hx with hx | hx
      · exact h64 x hx
      · rcases List.mem_append.1 hx with hx | hx
        · exact laid_64 _ _ x hx
        · rw [List.eq_of_mem_replicate hx]; exact Disk.zsec_len
    rw [scan, if_neg]
    · simp [laid]
    · rintro ⟨h1, h2⟩
      have hx : (pre ++ (laid (ls.length + 1) [] ++ List.replicate k Disk.zsec))[pre.length]? = some Disk.zsec := by
        rw [List.getElem?_append_right (Nat.le_refl _), Nat.sub_self]
        simp only [laid, List.nil_append]
        rw [hN] at h1
        simp [laid] at h1
        rw [List.getElem?_replicate, if_pos h1]
      rw [ha, sec_flat hall hx, blank_zsec] at h2
      cases h2
  | cons t r ih =>
    intro pre ls k f ha hN h64 hf hts hcnt
    obtain ⟨f', rfl⟩ : ∃ f', f = f' + 1 := ⟨f - 1, by simp at hf; omega⟩
    have ht := hts t (List.mem_cons_self ..)
    simp only [List.length_cons] at hf hcnt
    have h1 : (1 : Int) ≤ ((ls.length + 1 : Nat) : Int) := by omega
    have h2 : ((ls.length + 1 : Nat) : Int) < 18446744073709551616 := by omega
    obtain ⟨z, hz⟩ := secs_flat _ (putF ((ls.length + 1 : Nat) : Int) t) (Nat.le_refl _)
    have hspan : (secs (putF ((ls.length + 1 : Nat) : Int) t)).length = spanF (t.length + 20) := by rw [secs_len, putF_len]
    have hs1 : 1 ≤ spanF (t.length + 20) := by unfold spanF; omega
    have hall : ∀ x ∈ pre ++ (laid (ls.length + 1) (t :: r) ++ List.replicate k Disk.zsec), x.length = 64 := by
      intro x hx
      rcases List.mem_append.1 hx with hx | hx
      · exact h64 x hx
      · rcases List.mem_append.1 hx with hx | hx
        · exact laid_64 _ _ x hx
        · rw [List.eq_of_mem_replicate hx]; exact Disk.zsec_len
    have hdrop : all.drop (64 * pre.length) = putF ((ls.length + 1 : Nat) : Int) t ++ (List.replicate z 0 ++ flatS (laid (ls.length + 1 + 1) r ++ List.replicate k Disk.zsec)) := by
      rw [ha, flat_drop hall, List.drop_append_of_le_length (Nat.le_refl _), List.drop_length, List.nil_append, laid, List.append_assoc, flatS_app, hz, List.append_assoc]
    have hnN : pre.length < N := by
      rw [hN, List.length_append, List.length_append, laid, List.length_append, hspan]; omega
    have hbl : blankF (secF all pre.length) = false := by
      cases hb : blankF (secF all pre.length) with
      | false => rfl
      | true =>
        exfalso
        unfold secF at hb
        rw [hdrop] at hb
        exact put_blank h1 h2 _ hb
    rw [scan, if_pos ⟨hnN, hbl⟩, hdrop, readF_put h1 h2 ht]
    simp only
    rw [if_pos ⟨by trivial, by omega⟩]
    have e : ((t.length : Int) + 20).toNat = t.length + 20 := by omega
    rw [e]
    have key := ih (pre ++ secs (putF ((ls.length + 1 : Nat) : Int) t)) (ls ++ [t]) k f'
    rw [show (ls ++ [t]).length = ls.length + 1 by simp] at key
    have hpl : (pre ++ secs (putF ((ls.length + 1 : Nat) : Int) t)).length = pre.length + spanF (t.length + 20) := by rw [List.length_append, hspan]
    rw [← hpl, key]
    · rw [List.append_assoc, laid, List.length_append, List.length_append, Nat.add_assoc]
      rfl
    · rw [ha, laid, List.append_assoc, List.append_assoc]
    · rw [hN, laid, List.append_assoc, List.append_assoc]
    · intro x hx
      rcases List.mem_append.1 hx with hx | hx
      · exact h64 x hx
      · exact secs_64 _ x hx
    · omega
    · exact fun y hy => hts y (List.mem_cons_of_mem _ hy)
    · omega
theorem laid_count : ∀ (ts : List (List Int)) (i : Nat), ts.length ≤ (laid i ts).length := by
  intro ts
  induction ts with
  | nil => intro i; exact Nat.le_refl _
  | cons t r ih =>
    intro i
    have := ih (i + 1)
    rw [laid, List.length_append, secs_len, putF_len, List.length_cons]
    have : 1 ≤ spanF (t.length + 20) := by unfold spanF; omega
    omega
/-- A log as it lies on a disk. -/
structure WInv (s : St) (L : LogS) : Prop where
  off : s.off = false
  dead : L.dead = false
  now : ∃ k, s.now = laid 1 L.texts ++ List.replicate k Disk.zsec
  next : L.next = (laid 1 L.texts).length
  small : ∀ t ∈ L.texts, t.length ≤ 16384
  most : s.now.length ≤ 4096
theorem WInv.n64 {s : St} {L : LogS} (h : WInv s L) : ∀ x ∈ s.now, x.length = 64 := by
  obtain ⟨k, hk⟩ := h.now
  intro x hx
  rw [hk] at hx
  rcases List.mem_append.1 hx with hx | hx
  · exact laid_64 _ _ x hx
  · rw [List.eq_of_mem_replicate hx]; exact Disk.zsec_len
theorem WInv.nexts {s : St} {L : LogS} (h : WInv s L) : L.next ≤ s.now.length ∧ L.texts.length ≤ L.next := by
  obtain ⟨k, hk⟩ := h.now
  rw [h.next, hk, List.length_append]
  exact ⟨by omega, laid_count _ _⟩
theorem wipe_rest {all : List Int} {frm : Nat} : ∀ (m : Nat) (s : St), (∀ j, frm ≤ j → j < frm + m → blankF (secF all j) = true) → wipeGo all frm m false s = (0, false, s) := by
  intro m
  induction m with
  | zero => intro s _; rfl
  | succ m ih => intro s h; rw [wipeGo, if_pos (h _ (by omega) (by omega)), ih _ (fun j h1 h2 => h j h1 (by omega))]
/-- Open finds it. -/
theorem WInv.opens {s : St} {L : LogS} (h : WInv s L) : openP s = (0, some ⟨L.texts, L.next, false⟩, s) := by
  obtain ⟨k, hk⟩ := h.now
  have hc := h.nexts
  have hm := h.most
  have hs : scan (flatS s.now) s.now.length (s.now.length + 1) [] 0 = some (L.texts, L.next) := by
    have := scan_laid (all := flatS s.now) (N := s.now.length) L.texts [] [] k (s.now.length + 1) (by rw [hk]; rfl) (by rw [hk]; rfl) (fun x hx => by cases hx) (by omega) h.small (by simp; omega)
    simp only [List.length_nil, List.nil_append, Nat.zero_add] at this
    rw [this, h.next]
  have hw : wipeP s (flatS s.now) L.next = (0, s) := by
    unfold wipeP
    rw [wipe_rest]
    · rfl
    · intro j h1 h2
      have hj : s.now[j]? = some Disk.zsec := by
        rw [hk, List.getElem?_append_right (by rw [← h.next]; exact h1), List.getElem?_replicate, if_pos]
        have : s.now.length = (laid 1 L.texts).length + k := by rw [hk]; simp
        rw [← h.next] at this ⊢
        omega
      rw [sec_flat h.n64 hj]
      exact blank_zsec
  unfold openP
  rw [if_neg (by rw [h.off]; simp), hs]
  simp only [hw]
  rfl
end Go.Proofs.Ytmkpdoljaccpaaa
