/-
  A log, plainly: what a crash leaves.
-/
import Derived.Test.YtmkpdoljaccpaaaLWalA
namespace Go.Proofs.Ytmkpdoljaccpaaa
open Go.Disk (St)
set_option linter.unusedVariables false
set_option linter.unusedSimpArgs false
/-- Texts' sectors, and behind them nothing, or noughts first. -/
structure Form (now : List (List Int)) (ts : List (List Int)) : Prop where
  form : ∃ rest, now = laid 1 ts ++ rest ∧ (∀ z, rest[0]? = some z → blankF z = true)
  n64 : ∀ x ∈ now, x.length = 64
  byte : ∀ x ∈ now, IsB x
  small : ∀ t ∈ ts, t.length ≤ 16384
  most : now.length ≤ 4096
theorem scan_form {all : List Int} {N : Nat} : ∀ (ts pre rest : List (List Int)) (ls : List (List Int)) (f : Nat), all = flatS (pre ++ (laid (ls.length + 1) ts ++ rest)) → N = (pre ++ (laid (ls.length + 1) ts ++ rest)).length → (∀ x ∈ pre ++ (laid (ls.length + 1) ts ++ rest), x.length = 64) → (∀ z, rest[0]? = some z → blankF z = true) → ts.length < f → (∀ t ∈ ts, t.length ≤ 16384) → ls.length + ts.length < 1000000 → scan all N f ls pre.length = some (ls ++ ts, pre.length + (laid (ls.length + 1) ts).length) := by
  intro ts
  induction ts with
  | nil =>
    intro pre rest ls f ha hN hall hr hf _ _
    obtain ⟨f', rfl⟩ : ∃ f', f = f' + 1 := ⟨f - 1, by simp at hf; omega⟩
    rw [scan, if_neg]
    · simp [laid]
    · rintro ⟨h1, h2⟩
      simp only [laid, List.nil_append] at ha hN hall
      rw [hN, List.length_append] at h1
      obtain ⟨z, hz⟩ : ∃ z, rest[0]? = some z := ⟨_, List.getElem?_eq_getElem (by omega)⟩
      have hx : (pre ++ rest)[pre.length]? = some z := by
        rw [List.getElem?_append_right (Nat.le_refl _), Nat.sub_self]; exact hz
      rw [ha, sec_flat hall hx, hr z hz] at h2
      cases h2
  | cons t r ih =>
    intro pre rest ls f ha hN hall hr hf hts hcnt
    obtain ⟨f', rfl⟩ : ∃ f', f = f' + 1 := ⟨f - 1, by simp at hf; omega⟩
    have ht := hts t (List.mem_cons_self ..)
    simp only [List.length_cons] at hf hcnt
    have h1 : (1 : Int) ≤ ((ls.length + 1 : Nat) : Int) := by omega
    have h2 : ((ls.length + 1 : Nat) : Int) < 18446744073709551616 := by omega
    obtain ⟨z, hz⟩ := secs_flat _ (putF ((ls.length + 1 : Nat) : Int) t) (Nat.le_refl _)
    have hspan : (secs (putF ((ls.length + 1 : Nat) : Int) t)).length = spanF (t.length + 20) := by rw [secs_len, putF_len]
    have hs1 : 1 ≤ spanF (t.length + 20) := by unfold spanF; omega
    have hdrop : all.drop (64 * pre.length) = putF ((ls.length + 1 : Nat) : Int) t ++ (List.replicate z 0 ++ flatS (laid (ls.length + 1 + 1) r ++ rest)) := by
      rw [ha, flat_drop hall, List.drop_append_of_le_length (Nat.le_refl _), List.drop_length, List.nil_append, laid, List.append_assoc, flatS_app, hz, List.append_assoc]
    have hnN : pre.length < N := by
      rw [hN, List.length_append, List.length_append, laid, List.length_append, hspan]; omega
    have hbl : blankF (secF all pre.length) = false := by
      cases hb : blankF (secF all pre.length) with
      | false => rfl
      | true =>
        exfalso
        unfold secF at hb
        rw [hdrop] at hb
        exact put_blank h1 h2 _ hb
    rw [scan, if_pos ⟨hnN, hbl⟩, hdrop, readF_put h1 h2 ht]
    simp only
    rw [if_pos ⟨by trivial, by omega⟩]
    have e : ((t.length : Int) + 20).toNat = t.length + 20 := by omega
    rw [e]
    have key := ih (pre ++ secs (putF ((ls.length + 1 : Nat) : Int) t)) rest (ls ++ [t]) f'
    rw [show (ls ++ [t]).length = ls.length + 1 by simp] at key
    have hpl : (pre ++ secs (putF ((ls.length + 1 : Nat) : Int) t)).length = pre.length + spanF (t.length + 20) := by rw [List.length_append, hspan]
    have hre : pre ++ secs (putF ((ls.length + 1 : Nat) : Int) t) ++ (laid (ls.length + 1 + 1) r ++ rest) = pre ++ (laid (ls.length + 1) (t :: r) ++ rest) := by rw [laid, List.append_assoc, List.append_assoc]
    rw [← hpl, key]
    · rw [List.append_assoc, laid, List.length_append, List.length_append, Nat.add_assoc]
      rfl
    · rw [hre]; exact ha
    · rw [hre]; exact hN
    · rw [hre]; exact hall
    · exact hr
    · omega
    · exact fun y hy => hts y (List.mem_cons_of_mem _ hy)
    · omega
theorem Form.scans {now ts : List (List Int)} (h : Form now ts) : scan (flatS now) now.length (now.length + 1) [] 0 = some (ts, (laid 1 ts).length) ∧ (laid 1 ts).length ≤ now.length ∧ ts.length ≤ (laid 1 ts).length := by
  obtain ⟨rest, e, hr⟩ := h.form
  have hc := laid_count ts 1
  have hl : now.length = (laid 1 ts).length + rest.length := by rw [e, List.length_append]
  have hm := h.most
  have := scan_form (all := flatS now) (N := now.length) ts [] rest [] (now.length + 1) (by rw [e]; rfl) (by rw [e]; rfl) (by intro x hx; exact h.n64 x (by rw [e]; exact hx)) hr (by omega) h.small (by simp; omega)
  simp only [List.length_nil, List.nil_append, Nat.zero_add] at this
  exact ⟨this, by omega, hc⟩
/-- Each sector as it was fast, or as one of the open writes has it. -/
def Mix (s : St) (now : List (List Int)) : Prop := now.length = s.fast.length ∧ ∀ j, now[j]? = s.fast[j]? ∨ ∃ p ∈ s.opn, p.1.toNat = j ∧ now[j]? = some p.2
theorem keep_mix (keep : List Bool) : ∀ (l : List (Int × List Int)) (k : Nat) (f : List (List Int)) (j : Nat), (St.keep keep k f l)[j]? = f[j]? ∨ ∃ p ∈ l, p.1.toNat = j ∧ (St.keep keep k f l)[j]? = some p.2 := by
  intro l
  induction l with
  | nil => intro k f j; exact .inl rfl
  | cons p r ih =>
    intro k f j
    rw [St.keep]
    rcases ih (k + 1) (if keep.getD k false = true then f.set p.1.toNat p.2 else f) j with h | ⟨q, hq, h1, h2⟩
    · rw [h]
      by_cases hk : keep.getD k false = true
      · rw [if_pos hk]
        by_cases hp : p.1.toNat = j
        · by_cases hj : j < f.length
          · right
            exact ⟨p, List.mem_cons_self .., hp, by rw [hp, List.getElem?_set_self hj]⟩
          · left
            rw [List.getElem?_eq_none (by rw [List.length_set]; omega), List.getElem?_eq_none (by omega)]
        · left; rw [List.getElem?_set_ne hp]
      · rw [if_neg hk]; exact .inl rfl
    · exact .inr ⟨q, List.mem_cons_of_mem _ hq, h1, h2⟩
theorem crash_mix {s : St} (hn : s.now = apply s.fast s.opn) (keep : List Bool) : Mix s (s.crash keep).now ∧ (s.crash keep).fast = (s.crash keep).now ∧ (s.crash keep).opn = [] ∧ (s.crash keep).off = false ∧ (s.crash keep).armed = false := by
  have hb := settle_back (keep := keep) hn rfl
  have e : (s.crash keep).now = St.keep keep 0 s.fast s.opn := hb
  refine ⟨⟨by rw [e, Disk.keep_len], fun j => by rw [e]; exact keep_mix keep s.opn 0 s.fast j⟩, ?_, rfl, rfl, rfl⟩
  rw [e]; rfl
end Go.Proofs.Ytmkpdoljaccpaaa
