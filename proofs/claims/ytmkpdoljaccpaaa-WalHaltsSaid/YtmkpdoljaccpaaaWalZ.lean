/-
  A log, plainly: Open where the power may go off.
-/
import Derived.Test.YtmkpdoljaccpaaaWalY
namespace Go.Proofs.Ytmkpdoljaccpaaa
open Go.Disk (St)
set_option linter.unusedVariables false
set_option linter.unusedSimpArgs false
theorem blank_is {x : List Int} (h : blankF x = true) (hl : x.length = 64) : x = Disk.zsec := by
  unfold blankF at h
  rw [List.all_eq_true] at h
  rw [zsec_rep, ← hl]
  exact List.eq_replicate_of_mem (fun y hy => by simpa using h y hy)
theorem pad_nil : Disk.pad [] = Disk.zsec := by unfold Disk.pad; simp
/-- Noughts are laid, from behind. -/
theorem wipeGo_or {F : List (List Int)} (h64 : ∀ x ∈ F, x.length = 64) (frm : Nat) (hfrm : ∀ z, F[frm]? = some z → blankF z = true) : ∀ (n : Nat) (sm : Bool) (s : St), s.off = false → s.fast = F → s.now = apply F s.opn → (∀ p ∈ s.opn, frm < p.1.toNat ∧ p.2.length = 64 ∧ IsB p.2) → (sm = false → s.opn = []) → frm + n ≤ F.length → s.now.length = F.length → (∀ j, j < frm + n → s.now[j]? = F[j]?) → (∀ j, frm + n ≤ j → j < F.length → s.now[j]? = some Disk.zsec) →
    Behind (wipeGo (flatS F) frm n sm s).2.2 F frm ∧ (wipeGo (flatS F) frm n sm s).2.2.armed = s.armed ∧
    (((wipeGo (flatS F) frm n sm s).1 = 0 ∧ (wipeGo (flatS F) frm n sm s).2.2.off = false ∧ ((wipeGo (flatS F) frm n sm s).2.1 = false → (wipeGo (flatS F) frm n sm s).2.2.opn = []) ∧ (wipeGo (flatS F) frm n sm s).2.2.now.length = F.length ∧ (∀ j, j < frm → (wipeGo (flatS F) frm n sm s).2.2.now[j]? = F[j]?) ∧ (∀ j, frm ≤ j → j < F.length → (wipeGo (flatS F) frm n sm s).2.2.now[j]? = some Disk.zsec)) ∨
     ((wipeGo (flatS F) frm n sm s).1 = 14 ∧ (wipeGo (flatS F) frm n sm s).2.2.off = true ∧ s.armed = true)) := by
  intro n
  induction n with
  | zero =>
    intro sm s ho hf hn hp hsm _ hl hj hz
    exact ⟨⟨hf, hn, hp⟩, rfl, .inl ⟨rfl, ho, hsm, hl, fun j h => hj j (by omega), fun j h1 h2 => hz j (by omega) h2⟩⟩
  | succ n ih =>
    intro sm s ho hf hn hp hsm hN hl hj hz
    have hlt : frm + n < F.length := by omega
    have hx : F[frm + n]? = some F[frm + n] := List.getElem?_eq_getElem hlt
    have hsec : secF (flatS F) (frm + n) = F[frm + n] := sec_flat h64 hx
    rw [wipeGo, hsec]
    by_cases hb : blankF F[frm + n] = true
    · rw [if_pos hb]
      refine ih sm s ho hf hn hp hsm (by omega) hl (fun j h => hj j (by omega)) (fun j h1 h2 => ?_)
      by_cases hjn : j = frm + n
      · subst hjn
        rw [hj _ (by omega), hx, blank_is hb (h64 _ (List.getElem_mem _))]
      · exact hz j (by omega) h2
    · rw [if_neg hb]
      have hn0 : 0 < n := by
        rcases Nat.eq_zero_or_pos n with h0 | h0
        · subst h0
          exact (hb (hfrm _ hx)).elim
        · exact h0
      rcases write_or ho (frm + n) [] (by omega) (by decide) with ⟨w1, w2, w3, w4, w5, w6⟩ | ⟨w1, w2, w3, w4, w5, w6⟩
      · rw [if_pos w1]
        have key := ih true (s.write ((frm + n : Nat) : Int) []).2 w2 (by rw [w4]; exact hf) (by rw [w3, w5, apply_snoc, ← hn]; rfl) (fun p hp' => by
          rw [w5] at hp'
          rcases List.mem_append.1 hp' with h | h
          · exact hp p h
          · rw [List.mem_singleton] at h
            subst h
            exact ⟨by simp only; omega, pad_64 (by decide), pad_byte (fun y hy => by cases hy)⟩) (fun h => by cases h) (by omega) (by rw [w3, List.length_set]; exact hl) (fun j h => by rw [w3, List.getElem?_set_ne (by omega)]; exact hj j (by omega)) (fun j h1 h2 => by
          rw [w3]
          by_cases hjn : j = frm + n
          · rw [hjn, List.getElem?_set_self (by omega), pad_nil]
          · rw [List.getElem?_set_ne (by omega)]; exact hz j (by omega) h2)
        rw [w6] at key
        exact key
      · rw [if_neg (by rw [w1]; decide)]
        have ha : (s.write ((frm + n : Nat) : Int) []).2.armed = s.armed := by
          unfold St.write
          rw [if_neg (by rw [ho]; simp), if_neg (by rw [hl]; simp; omega)]
          split
          · exact (step_or s).2.2.2.2
          · exact (step_or s).2.2.2.2
        exact ⟨⟨by rw [w4]; exact hf, by rw [w3, w5]; exact hn, by rw [w5]; exact hp⟩, ha, .inr ⟨w1, w2, w6⟩⟩
/-- How an Open ends, of a disk that is all fast. -/
theorem open_or {s : St} {ts : List (List Int)} (ho : s.off = false) (hop : s.opn = []) (hf : s.fast = s.now) (hF : Form s.now ts) (hb : ∀ t ∈ ts, IsB t) :
    ((openP s).1 = 0 ∧ ∃ L, (openP s).2.1 = some L ∧ L.texts = ts ∧ Alive (openP s).2.2 L) ∨
    ((openP s).1 = 14 ∧ (openP s).2.1 = none ∧ (openP s).2.2.off = true ∧ Safe10 (openP s).2.2 ts ∧ s.armed = true) := by
  obtain ⟨hs, hnx, hcnt⟩ := hF.scans
  obtain ⟨rest, e, hr⟩ := hF.form
  have hfrm : ∀ z, s.now[(laid 1 ts).length]? = some z → blankF z = true := by
    intro z hz
    rw [e, List.getElem?_append_right (Nat.le_refl _), Nat.sub_self] at hz
    exact hr z hz
  obtain ⟨hB, ha, hw⟩ := wipeGo_or hF.n64 (laid 1 ts).length hfrm (s.now.length - (laid 1 ts).length) false s ho hf (by rw [hop]; rfl) (fun p hp => by rw [hop] at hp; cases hp) (fun _ => hop) (by omega) rfl (fun j _ => rfl) (fun j h1 h2 => by omega)
  have hsafe := Behind.safe hB hF
  have hopen : openP s = if (wipeP s (flatS s.now) (laid 1 ts).length).1 = 0 then (0, some ⟨ts, (laid 1 ts).length, false⟩, (wipeP s (flatS s.now) (laid 1 ts).length).2) else ((wipeP s (flatS s.now) (laid 1 ts).length).1, none, (wipeP s (flatS s.now) (laid 1 ts).length).2) := by
    unfold openP
    rw [if_neg (by rw [ho]; simp), hs]
  have hwp : wipeP s (flatS s.now) (laid 1 ts).length = if (wipeGo (flatS s.now) (laid 1 ts).length (s.now.length - (laid 1 ts).length) false s).1 = 0 then (if (wipeGo (flatS s.now) (laid 1 ts).length (s.now.length - (laid 1 ts).length) false s).2.1 = true then (wipeGo (flatS s.now) (laid 1 ts).length (s.now.length - (laid 1 ts).length) false s).2.2.sync else (0, (wipeGo (flatS s.now) (laid 1 ts).length (s.now.length - (laid 1 ts).length) false s).2.2)) else ((wipeGo (flatS s.now) (laid 1 ts).length (s.now.length - (laid 1 ts).length) false s).1, (wipeGo (flatS s.now) (laid 1 ts).length (s.now.length - (laid 1 ts).length) false s).2.2) := rfl
  have halive : ∀ s' : St, s'.off = false → s'.opn = [] → s'.fast = s'.now → s'.now.length = s.now.length → (∀ j, j < (laid 1 ts).length → s'.now[j]? = s.now[j]?) → (∀ j, (laid 1 ts).length ≤ j → j < s.now.length → s'.now[j]? = some Disk.zsec) → Alive s' ⟨ts, (laid 1 ts).length, false⟩ := by
    intro s' o' p' f' l' j1 j2
    refine ⟨⟨o', rfl, ⟨s.now.length - (laid 1 ts).length, ?_⟩, rfl, hF.small, by rw [l']; exact hF.most⟩, p', f', hb⟩
    simp only
    apply List.ext_getElem?
    intro j
    by_cases hj : j < (laid 1 ts).length
    · rw [j1 j hj, e, List.getElem?_append_left hj, List.getElem?_append_left hj]
    · rw [List.getElem?_append_right (by omega), List.getElem?_replicate]
      by_cases hj2 : j < s.now.length
      · rw [j2 j (by omega) hj2, if_pos (by omega)]
      · rw [List.getElem?_eq_none (by omega), if_neg (by omega)]
  generalize wipeGo (flatS s.now) (laid 1 ts).length (s.now.length - (laid 1 ts).length) false s = r at *
  obtain ⟨e1, sm, s1⟩ := r
  simp only at hB ha hw hsafe hwp
  rcases hw with ⟨a, b, c, d, f, g⟩ | ⟨a, b, c⟩
  · rw [if_pos a] at hwp
    cases sm with
    | true =>
      rw [if_pos rfl] at hwp
      rcases sync_or b (by rw [hB.fast]; exact hB.now) with ⟨y1, y2, y3, y4, y5, _⟩ | ⟨y1, y2, y3, y4, y5, y6⟩
      · rw [hopen, hwp, if_pos y1]
        exact .inl ⟨rfl, _, rfl, rfl, halive _ y2 y5 (by rw [y4, y3]) (by rw [y3, d]) (fun j h => by rw [y3]; exact f j h) (fun j h1 h2 => by rw [y3]; exact g j h1 h2)⟩
      · rw [hopen, hwp, if_neg (by rw [y1]; decide)]
        refine .inr ⟨y1, rfl, y2, ?_, by rw [← ha]; exact y6⟩
        exact Behind.safe ⟨by rw [y4]; exact hB.fast, by rw [y3, y5]; exact hB.now, by rw [y5]; exact hB.opn⟩ hF
    | false =>
      rw [if_neg (by simp)] at hwp
      rw [hopen, hwp, if_pos rfl]
      have hop1 := c rfl
      have hn1 : s1.now = s.now := by rw [hB.now, hop1]; rfl
      exact .inl ⟨rfl, _, rfl, rfl, halive _ b hop1 (by rw [hB.fast, hn1]) d f g⟩
  · rw [if_neg (by rw [a]; decide)] at hwp
    rw [hopen, hwp, if_neg (by simp only; rw [a]; decide)]
    exact .inr ⟨a, rfl, b, hsafe, c⟩
theorem Alive.safe {s : St} {L : LogS} (h : Alive s L) : Safe10 s L.texts := Behind.safe (F := s.now) (behind_none _ h.fast rfl h.opn) (h.inv.form h.byte)
/-- What a crash leaves is ready to be opened. -/
structure Ready (s : St) (ts : List (List Int)) : Prop where
  off : s.off = false
  armed : s.armed = false
  opn : s.opn = []
  fast : s.fast = s.now
  form : Form s.now ts
theorem Safe10.crash {s : St} {ts : List (List Int)} (h : Safe10 s ts) (keep : List Bool) : Ready (s.crash keep) ts := by
  obtain ⟨h1, h2, h3, h4, h5⟩ := crash_mix h.1 keep
  exact ⟨h4, h5, h3, h2, h.2 _ h1⟩
theorem Doubt10.crash {s : St} {ts : List (List Int)} {t : List Int} (h : Doubt10 s ts t) (keep : List Bool) : Ready (s.crash keep) ts ∨ Ready (s.crash keep) (ts ++ [t]) := by
  obtain ⟨h1, h2, h3, h4, h5⟩ := crash_mix h.1 keep
  rcases h.2 _ h1 with hf | hf
  · exact .inl ⟨h4, h5, h3, h2, hf⟩
  · exact .inr ⟨h4, h5, h3, h2, hf⟩
end Go.Proofs.Ytmkpdoljaccpaaa
