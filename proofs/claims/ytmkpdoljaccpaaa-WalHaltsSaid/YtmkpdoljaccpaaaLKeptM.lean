/-
  WalKept: a life in memory; what the loop keeps.
-/
import Derived.Test.YtmkpdoljaccpaaaWalZ
namespace Go.Proofs.Ytmkpdoljaccpaaa
open Go.RowKit Go.Canon Go.Mem Go.Args
open Go.Disk (St)
set_option linter.unusedVariables false
set_option linter.unusedSimpArgs false
/-! ### few are open -/
theorem write_few10 (s : St) (i : Int) (b : List Int) : (s.write i b).2.opn.length ≤ s.opn.length + 1 := by
  unfold St.write
  have h := (step_or s).2.2.2.1
  split
  · exact Nat.le_succ _
  · split
    · exact Nat.le_succ _
    · split
      · simp [h]
      · simp only [h]; exact Nat.le_succ _
theorem sync_few10 (s : St) : s.sync.2.opn.length ≤ s.opn.length := by
  unfold St.sync
  have h := (step_or s).2.2.2.1
  split
  · exact Nat.le_refl _
  · split
    · exact Nat.zero_le _
    · rw [h]; exact Nat.le_refl _
theorem wipeGo_few (all : List Int) (frm : Nat) : ∀ (n : Nat) (sm : Bool) (s : St), (wipeGo all frm n sm s).2.2.opn.length ≤ s.opn.length + n := by
  intro n
  induction n with
  | zero => intro sm s; exact Nat.le_refl _
  | succ n ih =>
    intro sm s
    rw [wipeGo]
    have h := write_few10 s ((frm + n : Nat) : Int) []
    split
    · have := ih sm s; omega
    · split
      · have := ih true (s.write ((frm + n : Nat) : Int) []).2; omega
      · simp only; omega
theorem layGo_few (f : List Int) (next : Nat) : ∀ (n i : Nat) (s : St), (layGo f next n i s).2.opn.length ≤ s.opn.length + n := by
  intro n
  induction n with
  | zero => intro i s; exact Nat.le_refl _
  | succ n ih =>
    intro i s
    rw [layGo]
    have h := write_few10 s ((next + i : Nat) : Int) (secF f i)
    split
    · have := ih (i + 1) (s.write ((next + i : Nat) : Int) (secF f i)).2; omega
    · omega
theorem openP_few (s : St) : (openP s).2.2.opn.length ≤ s.opn.length + s.now.length := by
  unfold openP
  split
  · simp only; omega
  · split
    · simp only; omega
    · rename_i ls nx _
      have h := wipeGo_few (flatS s.now) nx (s.now.length - nx) false s
      have h2 := sync_few10 (wipeGo (flatS s.now) nx (s.now.length - nx) false s).2.2
      have h3 : (wipeP s (flatS s.now) nx).2.opn.length ≤ s.opn.length + s.now.length := by
        unfold wipeP
        split
        · split
          · omega
          · simp only; omega
        · simp only; omega
      split
      · exact h3
      · exact h3
theorem layP_few (s : St) (next : Nat) (f : List Int) : (layP s next f).2.opn.length ≤ s.opn.length + spanF f.length + 1 := by
  have h := layGo_few f next (spanF f.length - 1) 1 s
  have hE : ∀ s' : St, (layEnd s' next f).2.opn.length ≤ s'.opn.length + 1 := by
    intro s'
    unfold layEnd
    have h1 := write_few10 s' next (f.take 64)
    split
    · have := sync_few10 (s'.write next (f.take 64)).2; omega
    · exact h1
  unfold layP
  split
  · unfold layMid
    have h2 := sync_few10 (layGo f next (spanF f.length - 1) 1 s).2
    have h3 := hE (layGo f next (spanF f.length - 1) 1 s).2
    have h4 := hE (layGo f next (spanF f.length - 1) 1 s).2.sync.2
    split
    · split
      · omega
      · omega
    · omega
  · omega
theorem appendP_few (s : St) (L : LogS) (t : List Int) : (appendP s L t).2.1.opn.length ≤ s.opn.length + 300 := by
  unfold appendP
  split
  · simp only; omega
  · split
    · simp only; omega
    · rename_i hb
      have h := layP_few s L.next (putF ((L.texts.length : Int) + 1) t)
      have h2 : spanF (putF ((L.texts.length : Int) + 1) t).length ≤ 260 := by rw [putF_len]; unfold spanF; omega
      split
      · simp only; omega
      · split
        · simp only; omega
        · simp only; omega
theorem step_len (s : St) : s.step.2.now.length = s.now.length := by rw [(step_or s).2.1]
theorem write_len (s : St) (i : Int) (b : List Int) : (s.write i b).2.now.length = s.now.length := by
  unfold St.write
  have h := step_len s
  split
  · rfl
  · split
    · rfl
    · split
      · simp [h]
      · exact h
theorem sync_len (s : St) : s.sync.2.now.length = s.now.length := by
  unfold St.sync
  have h := step_len s
  split
  · rfl
  · split
    · exact h
    · exact h
theorem layGo_len (f : List Int) (next : Nat) : ∀ (n i : Nat) (s : St), (layGo f next n i s).2.now.length = s.now.length := by
  intro n
  induction n with
  | zero => intro i s; rfl
  | succ n ih =>
    intro i s
    rw [layGo]
    have h := write_len s ((next + i : Nat) : Int) (secF f i)
    split
    · rw [ih, h]
    · exact h
theorem layP_len (s : St) (next : Nat) (f : List Int) : (layP s next f).2.now.length = s.now.length := by
  have h := layGo_len f next (spanF f.length - 1) 1 s
  have hE : ∀ s' : St, (layEnd s' next f).2.now.length = s'.now.length := by
    intro s'
    unfold layEnd
    split
    · rw [sync_len, write_len]
    · exact write_len _ _ _
  unfold layP
  split
  · unfold layMid
    split
    · split
      · rw [hE, sync_len, h]
      · rw [sync_len, h]
    · rw [hE, h]
  · exact h
theorem appendP_len (s : St) (L : LogS) (t : List Int) : (appendP s L t).2.1.now.length = s.now.length := by
  unfold appendP
  split
  · rfl
  · split
    · rfl
    · have h := layP_len s L.next (putF ((L.texts.length : Int) + 1) t)
      split
      · rfl
      · split
        · exact h
        · exact h
/-! ### what the loop keeps -/
structure LifeS where
  sure : List (List Int)
  maybe : List Int
  doubt : Bool
/-- Which texts an opening may find. -/
structure Finds (lf : LifeS) (ts : List (List Int)) : Prop where
  is : ts = lf.sure ∨ lf.doubt = true ∧ ts = lf.sure ++ [lf.maybe]
  byte : ∀ t ∈ ts, IsB t
structure Kept (s : St) (L : LogS) (lf : LifeS) : Prop where
  sure : ∀ t ∈ lf.sure, IsB t
  maybe : IsB lf.maybe
  few : s.opn.length ≤ 300
  next : L.next ≤ s.now.length
  texts : L.texts.length ≤ 4096
  most : lf.sure.length ≤ 4096
  most2 : s.now.length ≤ 4096
  small : lf.maybe.length ≤ 20000 ∧ ∀ t ∈ lf.sure, t.length ≤ 16384
  is : (Alive s L ∧ L.texts = lf.sure ∧ lf.doubt = false) ∨ (s.off = true ∧ L.dead = true ∧ lf.doubt = true ∧ Doubt10 s lf.sure lf.maybe)
theorem Kept.append {s : St} {L : LogS} {lf : LifeS} (h : Kept s L lf) {t : List Int} (ht : IsB t) (htl : t.length ≤ 20000) :
    ((appendP s L t).1 = 0 ∧ Kept (appendP s L t).2.1 (appendP s L t).2.2 ⟨lf.sure ++ [t], lf.maybe, lf.doubt⟩) ∨
    (((appendP s L t).1 = 5 ∨ (appendP s L t).1 = 11) ∧ Kept (appendP s L t).2.1 (appendP s L t).2.2 lf) ∨
    ((appendP s L t).1 = 14 ∧ lf.doubt = false ∧ Kept (appendP s L t).2.1 (appendP s L t).2.2 ⟨lf.sure, t, true⟩) ∨
    ((appendP s L t).1 = 14 ∧ lf.doubt = true ∧ Kept (appendP s L t).2.1 (appendP s L t).2.2 lf) := by
  have hl := appendP_len s L t
  have hf := appendP_few s L t
  rcases h.is with ⟨hA, hT, hd⟩ | ⟨ho, hdd, hd, hD⟩
  · rcases hA.append ht with ⟨a, b, c⟩ | ⟨a, b⟩ | ⟨a, b, c, d⟩
    · left
      have hn := b.inv.nexts
      have hm := b.inv.most
      refine ⟨a, ⟨fun y hy => ?_, h.maybe, by rw [b.opn]; decide, hn.1, by omega, ?_, hm, ⟨h.small.1, fun y hy => ?_⟩, .inl ⟨b, by rw [c, hT], hd⟩⟩⟩
      · simp only at hy
        rw [← hT, ← c] at hy
        exact b.byte y hy
      · simp only
        rw [← hT, ← c]; omega
      · simp only at hy
        rw [← hT, ← c] at hy
        exact b.inv.small y hy
    · right; left
      rw [b]
      exact ⟨a, h⟩
    · right; right; left
      rw [c]
      exact ⟨a, hd, ⟨h.sure, ht, by rw [hA.opn] at hf; simpa using hf, by simp only; rw [hl]; exact h.next, h.texts, h.most, by rw [hl]; exact h.most2, ⟨htl, h.small.2⟩, .inr ⟨b, rfl, rfl, by rw [hT] at d; exact d⟩⟩⟩
  · right; right; right
    have e : appendP s L t = (14, s, L) := by unfold appendP; rw [if_pos hdd]
    rw [e]
    exact ⟨rfl, hd, h⟩
theorem Kept.crash {s : St} {L : LogS} {lf : LifeS} (h : Kept s L lf) (keep : List Bool) : ∃ ts, Ready (s.crash keep) ts ∧ Finds lf ts := by
  rcases h.is with ⟨hA, hT, hd⟩ | ⟨ho, hdd, hd, hD⟩
  · exact ⟨lf.sure, by rw [← hT]; exact hA.safe.crash keep, .inl rfl, h.sure⟩
  · rcases hD.crash keep with hR | hR
    · exact ⟨_, hR, .inl rfl, h.sure⟩
    · refine ⟨_, hR, .inr ⟨hd, rfl⟩, fun y hy => ?_⟩
      rcases List.mem_append.1 hy with hy | hy
      · exact h.sure y hy
      · rw [List.mem_singleton] at hy; subst hy; exact h.maybe
theorem arm_same {s : St} {n : Int} (hn : 0 ≤ n) : (s.arm n).2.now = s.now ∧ (s.arm n).2.fast = s.fast ∧ (s.arm n).2.opn = s.opn ∧ (s.arm n).2.off = s.off := by
  unfold St.arm
  split
  · exact ⟨rfl, rfl, rfl, rfl⟩
  · rw [if_neg (by omega)]; exact ⟨rfl, rfl, rfl, rfl⟩
theorem Kept.arm {s : St} {L : LogS} {lf : LifeS} (h : Kept s L lf) {n : Int} (hn : 0 ≤ n) : Kept (s.arm n).2 L lf := by
  obtain ⟨a, b, c, d⟩ := arm_same (s := s) hn
  refine ⟨h.sure, h.maybe, by rw [c]; exact h.few, by rw [a]; exact h.next, h.texts, h.most, by rw [a]; exact h.most2, h.small, ?_⟩
  rcases h.is with ⟨hA, hT, hd⟩ | ⟨ho, hdd, hd, hD⟩
  · exact .inl ⟨⟨⟨by rw [d]; exact hA.inv.off, hA.inv.dead, by rw [a]; exact hA.inv.now, hA.inv.next, hA.inv.small, by rw [a]; exact hA.inv.most⟩, by rw [c]; exact hA.opn, by rw [a, b]; exact hA.fast, hA.byte⟩, hT, hd⟩
  · refine .inr ⟨by rw [d]; exact ho, hdd, hd, by rw [a, b, c]; exact hD.1, fun now hm => hD.2 now ?_⟩
    unfold Mix at hm ⊢
    rw [b, c] at hm
    exact hm
theorem Ready.flat {s : St} {ts : List (List Int)} (h : Ready s ts) : IsB (flatS s.now) := flat_byte h.form.byte
/-- Behind a crash: armed, opened, crashed once more. -/
theorem Ready.again {s : St} {ts : List (List Int)} (h : Ready s ts) (hb : ∀ t ∈ ts, IsB t) {n : Int} (hn : 0 ≤ n) (keep : List Bool) :
    ((openP (s.arm n).2).1 = 0 ∧ (∃ L, (openP (s.arm n).2).2.1 = some L) ∨ (openP (s.arm n).2).1 = 14 ∧ (openP (s.arm n).2).2.1 = none) ∧ (openP (s.arm n).2).2.2.opn.length ≤ 4096 ∧ IsB (flatS (s.arm n).2.now) ∧ (s.arm n).2.opn = [] ∧ Ready ((openP (s.arm n).2).2.2.crash keep) ts := by
  obtain ⟨a, b, c, d⟩ := arm_same (s := s) hn
  have hfew := openP_few (s.arm n).2
  have hmost := h.form.most
  have hfl := h.flat
  rw [← a] at hfl hmost
  have hop : (s.arm n).2.opn = [] := by rw [c]; exact h.opn
  have h1 := open_or (s := (s.arm n).2) (by rw [d]; exact h.off) hop (by rw [a, b]; exact h.fast) (by rw [a]; exact h.form) hb
  rw [hop] at hfew
  simp only [List.length_nil, Nat.zero_add] at hfew
  refine ⟨?_, by omega, hfl, hop, ?_⟩
  · rcases h1 with ⟨x, L, y, _⟩ | ⟨x, y, _⟩
    · exact .inl ⟨x, L, y⟩
    · exact .inr ⟨x, y⟩
  · rcases h1 with ⟨x, L, y, z, u⟩ | ⟨x, y, _, z, _⟩
    · rw [← z]; exact u.safe.crash keep
    · exact z.crash keep
/-- What opens finds. -/
theorem Ready.opens {s : St} {ts : List (List Int)} {lf : LifeS} (h : Ready s ts) (hF : Finds lf ts) (hm : IsB lf.maybe) (hml : lf.maybe.length ≤ 20000) :
    ∃ L s', openP s = (0, some L, s') ∧ L.texts = ts ∧ Kept s' L ⟨ts, lf.maybe, false⟩ := by
  rcases open_or h.off h.opn h.fast h.form hF.byte with ⟨x, L, y, z, u⟩ | ⟨x, _, _, _, y⟩
  · refine ⟨L, (openP s).2.2, ?_, z, ⟨hF.byte, hm, by rw [u.opn]; decide, u.inv.nexts.1, ?_, ?_, u.inv.most, ⟨hml, ?_⟩, .inl ⟨u, z, rfl⟩⟩⟩
    · rw [← x, ← y]
    · have := u.inv.nexts; have := u.inv.most; omega
    · have := u.inv.nexts; have := u.inv.most; simp only; rw [← z]; omega
    · simp only; rw [← z]; exact u.inv.small
  · rw [h.armed] at y; cases y
theorem Ready.start {n : Nat} (hn : n ≤ 4096) : Ready (fresh n) [] := by
  refine ⟨rfl, rfl, rfl, rfl, ⟨⟨(fresh n).now, rfl, fun z hz => ?_⟩, fun x hx => ?_, fun x hx => ?_, fun t ht => (by cases ht), by simp [fresh]; exact hn⟩⟩
  · simp only [fresh] at hz
    rw [List.getElem?_replicate] at hz
    split at hz
    · cases hz; exact blank_zsec
    · cases hz
  · simp only [fresh] at hx
    rw [List.eq_of_mem_replicate hx, zsec_rep]; simp
  · simp only [fresh] at hx
    rw [List.eq_of_mem_replicate hx]
    intro y hy
    rw [zsec_rep] at hy
    rw [List.eq_of_mem_replicate hy]; decide
/-! ### in memory -/
/-- What was told, in blocks of its own. -/
def LifeMem (w : World) (y g : Nat) (lv : Value) (Z : Nat → Prop) (lf : LifeS) : Prop := ∃ (R T : Nat → Prop) (v mv : Value) (vs : List Value), w.heap[y]? = some (.cells [Value.pointer (some ⟨g, 0, none⟩), lv, v, mv, .bool lf.doubt].toArray 82 (0, 0)) ∧ Z y ∧ (∀ k, R k → Z k) ∧ (∀ k, T k → Z k) ∧ ¬ R y ∧ ¬ T y ∧ (∀ k, R k → ¬ T k) ∧ OwnRow w R 38 1 v lf.sure.length vs ∧ TextsRd w T vs lf.sure ∧ Rd w T mv lf.maybe.length (Disk.bytes8 lf.maybe)
theorem LifeMem.kept {w w' : World} {y g : Nat} {lv : Value} {Z S : Nat → Prop} {lf : LifeS} (h : LifeMem w y g lv Z lf) (hk : Keeps S w w') (hn : ∀ k, Z k → ¬ S k) : LifeMem w' y g lv Z lf := by
  obtain ⟨R, T, v, mv, vs, h1, h2, h3, h4, h5, h6, h7, h8, h9, h10⟩ := h
  exact ⟨R, T, v, mv, vs, hk.heap h1 (hn y h2), h2, h3, h4, h5, h6, h7, h8.kept hk (fun k hk => hn k (h3 k hk)), h9.kept hk (fun k hk => hn k (h4 k hk)), h10.kept hk (fun k hk => hn k (h4 k hk))⟩
theorem LifeMem.wide {w : World} {y g : Nat} {lv : Value} {Z Z' : Nat → Prop} {lf : LifeS} (h : LifeMem w y g lv Z lf) (hn : ∀ k, Z k → Z' k) : LifeMem w y g lv Z' lf := by
  obtain ⟨R, T, v, mv, vs, h1, h2, h3, h4, h5, h6, h7, h8, h9, h10⟩ := h
  exact ⟨R, T, v, mv, vs, h1, hn y h2, fun k hk => hn k (h3 k hk), fun k hk => hn k (h4 k hk), h5, h6, h7, h8, h9, h10⟩
/-- A disk, a log and what was told, apart; the blocks F are none of theirs. -/
def WK (W w : World) (g y : Nat) (lo : Option (Nat × LogS)) (s : St) (lf : LifeS) (F : Nat → Prop) : Prop := Keeps (fun _ => False) W w ∧ ∃ (P Q Z : Nat → Prop) (lv : Value), DIs w P g s ∧ LifeMem w y g lv Z lf ∧ (∀ x L, lo = some (x, L) → lv = .pointer (some ⟨x, 0, none⟩) ∧ LogMem w x Q g L) ∧ (∀ k, P k → W.heap.size ≤ k ∧ k < w.heap.size ∧ ¬ Q k ∧ ¬ Z k) ∧ (∀ k, Q k → W.heap.size ≤ k ∧ k < w.heap.size ∧ ¬ Z k) ∧ (∀ k, Z k → W.heap.size ≤ k ∧ k < w.heap.size) ∧ (∀ k, F k → k < w.heap.size ∧ ¬ P k ∧ ¬ Q k ∧ ¬ Z k)
section
variable {W w0 w w' : World} {g y : Nat} {lo : Option (Nat × LogS)} {s : St} {lf : LifeS} {F : Nat → Prop}
theorem WK.kept (h : WK W w g y lo s lf F) (hk : Keeps (fun _ => False) w w') : WK W w' g y lo s lf F := by
  obtain ⟨h0, P, Q, Z, lv, hd, hl, hm, hP, hQ, hZ, hF⟩ := h
  have := hk.size
  exact ⟨h0.trans hk (fun _ _ h => h), P, Q, Z, lv, hd.kept hk (fun _ _ h => h), hl.kept hk (fun _ _ h => h), fun x L e => ⟨(hm x L e).1, (hm x L e).2.kept hk (fun _ _ h => h)⟩, fun k h => ⟨(hP k h).1, by have := (hP k h).2.1; omega, (hP k h).2.2⟩, fun k h => ⟨(hQ k h).1, by have := (hQ k h).2.1; omega, (hQ k h).2.2⟩, fun k h => ⟨(hZ k h).1, by have := (hZ k h).2; omega⟩, fun k h => ⟨by have := (hF k h).1; omega, (hF k h).2⟩⟩
theorem WK.free {F' : Nat → Prop} (h : WK W w0 g y lo s lf (fun _ => False)) (hk : Keeps (fun _ => False) w0 w) (hF : ∀ k, F' k → w0.heap.size ≤ k ∧ k < w.heap.size) : WK W w g y lo s lf F' := by
  have z := hk.size
  obtain ⟨h0, P, Q, Z, lv, hd, hl, hm, hP, hQ, hZ, _⟩ := h
  exact ⟨h0.trans hk (fun _ _ h => h), P, Q, Z, lv, hd.kept hk (fun _ _ h => h), hl.kept hk (fun _ _ h => h), fun x L e => ⟨(hm x L e).1, (hm x L e).2.kept hk (fun _ _ h => h)⟩, fun k h => ⟨(hP k h).1, by have := (hP k h).2.1; omega, (hP k h).2.2⟩, fun k h => ⟨(hQ k h).1, by have := (hQ k h).2.1; omega, (hQ k h).2.2⟩, fun k h => ⟨(hZ k h).1, by have := (hZ k h).2; omega⟩, fun k h => ⟨(hF k h).2, fun h' => by have := (hF k h).1; have := (hP k h').2.1; omega, fun h' => by have := (hF k h).1; have := (hQ k h').2.1; omega, fun h' => by have := (hF k h).1; have := (hZ k h').2; omega⟩⟩
theorem WK.thin (h : WK W w g y lo s lf F) : WK W w g y lo s lf (fun _ => False) := by
  obtain ⟨h0, P, Q, Z, lv, hd, hl, hm, hP, hQ, hZ, hF⟩ := h
  exact ⟨h0, P, Q, Z, lv, hd, hl, hm, hP, hQ, hZ, fun _ h => h.elim⟩
theorem WK.forget (h : WK W w g y lo s lf F) : WK W w g y none s lf F := by
  obtain ⟨h0, P, Q, Z, lv, hd, hl, hm, hP, hQ, hZ, hF⟩ := h
  exact ⟨h0, P, Q, Z, lv, hd, hl, fun x L e => (by cases e), hP, hQ, hZ, hF⟩
/-- The disk is another now. -/
def WKPost (W w : World) (g y : Nat) (lo : Option (Nat × LogS)) (e : Int) (s : St) (lf : LifeS) (F : Nat → Prop) : Value → World → Prop := fun v w' => v = .int .i64 e ∧ WK W w' g y lo s lf F ∧ Keeps (fun k => ¬ F k) w w'
theorem WK.disk {v v' : Value} {s' : St} (h0 : Keeps (fun _ => False) W w) {P Q Z : Nat → Prop} {lv : Value} (hl : LifeMem w y g lv Z lf) (hm : ∀ x L, lo = some (x, L) → lv = .pointer (some ⟨x, 0, none⟩) ∧ LogMem w x Q g L) (hP : ∀ k, P k → W.heap.size ≤ k ∧ k < w.heap.size ∧ ¬ Q k ∧ ¬ Z k) (hQ : ∀ k, Q k → W.heap.size ≤ k ∧ k < w.heap.size ∧ ¬ Z k) (hZ : ∀ k, Z k → W.heap.size ≤ k ∧ k < w.heap.size) (hF : ∀ k, F k → k < w.heap.size ∧ ¬ P k ∧ ¬ Q k ∧ ¬ Z k) (hp : DPost w P g v s' v' w') : v' = v ∧ WK W w' g y lo s' lf F ∧ Keeps (fun k => ¬ F k) w w' := by
  obtain ⟨e, hd, hk⟩ := hp
  have hs := hk.size
  have hs0 := h0.size
  refine ⟨e, ⟨h0.trans hk (fun k hk h => by have := (hP k h).1; omega), _, Q, Z, lv, hd.bound, hl.kept hk (fun k h h' => (hP k h').2.2.2 h), fun x L e => ⟨(hm x L e).1, (hm x L e).2.kept hk (fun k h h' => (hP k h').2.2.1 h)⟩, fun k h => ⟨?_, h.2, ?_, ?_⟩, fun k h => ⟨(hQ k h).1, by have := (hQ k h).2.1; omega, (hQ k h).2.2⟩, fun k h => ⟨(hZ k h).1, by have := (hZ k h).2; omega⟩, fun k h => ⟨by have := (hF k h).1; omega, fun h' => ?_, (hF k h).2.2⟩⟩, hk.mono (fun k _ h h' => (hF k h').2.1 h)⟩
  · rcases h.1 with h1 | h1
    · exact (hP k h1).1
    · omega
  · intro h2
    rcases h.1 with h1 | h1
    · exact (hP k h1).2.2.1 h2
    · have := (hQ k h2).2.1; omega
  · intro h2
    rcases h.1 with h1 | h1
    · exact (hP k h1).2.2.2 h2
    · have := (hZ k h2).2; omega
  · rcases h'.1 with h1 | h1
    · exact (hF k h).2.1 h1
    · have := (hF k h).1; omega
theorem wk_crash {ok : Nat → Prop} (h : WK W w g y lo s lf F) (few : s.opn.length ≤ 1000000) (v : Value) (keep : List Bool) (hr : Rd w ok v keep.length (bools keep)) (hok : ∀ k, ok k → k < W.heap.size) (hkl : keep.length ≤ 9223372036854775807) :
    Calls Try.prog 17 #[.pointer (some ⟨g, 0, none⟩), v] w (Rets (WKPost W w g y lo 0 (s.crash keep) lf F)) := by
  obtain ⟨h0, P, Q, Z, lv, hd, hl, hm, hP, hQ, hZ, hF⟩ := h
  exact Rets.use (dCrash_c hd few v keep hr (fun k h h' => by have := hok k h; have := (hP k h').1; omega) hkl) (fun v' w' hp => WK.disk h0 hl hm hP hQ hZ hF hp)
theorem wk_arm (h : WK W w g y lo s lf F) (n : Int) (hn : n ≤ 9223372036854775807) :
    Calls Try.prog 27 #[.pointer (some ⟨g, 0, none⟩), .int .i64 n] w (Rets (WKPost W w g y lo (s.arm n).1 (s.arm n).2 lf F)) := by
  obtain ⟨h0, P, Q, Z, lv, hd, hl, hm, hP, hQ, hZ, hF⟩ := h
  exact Rets.use (dArm_c hd n hn) (fun v' w' hp => WK.disk h0 hl hm hP hQ hZ hF hp)
/-- The disk's and the log's blocks are new ones, or had been. -/
theorem WK.open {s' : St} (h0 : Keeps (fun _ => False) W w) {P Z Q2 : Nat → Prop} {lv : Value} (hl : LifeMem w y g lv Z lf) (hP : ∀ k, P k → W.heap.size ≤ k ∧ k < w.heap.size ∧ ¬ Z k) (hZ : ∀ k, Z k → W.heap.size ≤ k ∧ k < w.heap.size) (hk : Keeps P w w') (hQ2 : ∀ k, Q2 k → w.heap.size ≤ k ∧ k < w'.heap.size) (hd : DIs w' (fun k => (P k ∨ w.heap.size ≤ k) ∧ ¬ Q2 k) g s') :
    Keeps (fun _ => False) W w' ∧ DIs w' (fun k => ((P k ∨ w.heap.size ≤ k) ∧ ¬ Q2 k) ∧ k < w'.heap.size) g s' ∧ LifeMem w' y g lv Z lf ∧ (∀ k, (((P k ∨ w.heap.size ≤ k) ∧ ¬ Q2 k) ∧ k < w'.heap.size) → W.heap.size ≤ k ∧ k < w'.heap.size ∧ ¬ Q2 k ∧ ¬ Z k) ∧ (∀ k, Q2 k → W.heap.size ≤ k ∧ k < w'.heap.size ∧ ¬ Z k) ∧ (∀ k, Z k → W.heap.size ≤ k ∧ k < w'.heap.size) := by
  have hs := hk.size
  have hs0 := h0.size
  refine ⟨h0.trans hk (fun k hk h => by have := (hP k h).1; omega), hd.bound, hl.kept hk (fun k h h' => (hP k h').2.2 h), fun k h => ⟨?_, h.2, h.1.2, ?_⟩, fun k h => ⟨by have := (hQ2 k h).1; omega, (hQ2 k h).2, fun h' => by have := (hQ2 k h).1; have := (hZ k h').2; omega⟩, fun k h => ⟨(hZ k h).1, by have := (hZ k h).2; omega⟩⟩
  · rcases h.1.1 with h1 | h1
    · exact (hP k h1).1
    · omega
  · intro h2
    rcases h.1.1 with h1 | h1
    · exact (hP k h1).2.2 h2
    · have := (hZ k h2).2; omega
def WKOpen (W w : World) (g y : Nat) (r : Int × Option LogS × St) (lf : LifeS) (F : Nat → Prop) : Value → World → Prop := fun v w' => ((r.2.1 = none ∧ v = .tuple #[.pointer none, .int .i64 r.1]) ∨ ∃ (L : LogS) (x : Nat), r.2.1 = some L ∧ v = .tuple #[.pointer (some ⟨x, 0, none⟩), .int .i64 r.1]) ∧ WK W w' g y none r.2.2 lf F ∧ Keeps (fun k => ¬ F k) w w'
theorem wk_open (h : WK W w g y lo s lf F) (few : s.opn.length ≤ 900000) (hB : IsB (flatS s.now)) : Calls Try.prog 34 #[.pointer (some ⟨g, 0, none⟩)] w (Rets (WKOpen W w g y (openP s) lf F)) := by
  obtain ⟨h0, P, Q, Z, lv, hd, hl, hm, hP, hQ, hZ, hF⟩ := h
  refine Rets.use (wopen_c hd few hB) (fun v w' hp => ?_)
  obtain ⟨hk, Q2, hQ2, hd2, hv⟩ := hp
  have hs := hk.size
  obtain ⟨a, b, c, d, e, f⟩ := WK.open h0 hl (fun k h => ⟨(hP k h).1, (hP k h).2.1, (hP k h).2.2.2⟩) hZ hk hQ2 hd2
  refine ⟨?_, ⟨a, _, Q2, Z, lv, b, c, fun x L e => (by cases e), d, e, f, fun k h => ⟨by have := (hF k h).1; omega, fun h' => ?_, fun h' => by have := (hQ2 k h').1; have := (hF k h).1; omega, (hF k h).2.2.2⟩⟩, hk.mono (fun k _ h h' => (hF k h').2.1 h)⟩
  · rcases hv with hv | ⟨L, x, h1, h2, _⟩
    · exact .inl hv
    · exact .inr ⟨L, x, h1, h2⟩
  · rcases h'.1.1 with h1 | h1
    · exact (hF k h).2.1 h1
    · have := (hF k h).1; omega
def WKAppend (W w : World) (g y x : Nat) (r : Int × St × LogS) (lf : LifeS) (F : Nat → Prop) : Value → World → Prop := fun v w' => v = .int .i64 r.1 ∧ WK W w' g y (some (x, r.2.2)) r.2.1 lf F ∧ Keeps (fun k => ¬ F k) w w'
theorem wk_append {ok : Nat → Prop} {x : Nat} {L : LogS} (h : WK W w0 g y (some (x, L)) s lf F) (hK : Kept s L lf) (hk : Keeps (fun _ => False) w0 w) (vb : Value) (b : List Int) (hb : Rd w ok vb b.length (Disk.bytes8 b)) (hok : ∀ k, ok k → w0.heap.size ≤ k) (hbl : b.length ≤ 1000000) :
    Calls Try.prog 37 #[.pointer (some ⟨x, 0, none⟩), vb] w (Rets (WKAppend W w g y x (appendP s L b) lf F)) := by
  obtain ⟨h0, P, Q, Z, lv, hd, hl, hm, hP, hQ, hZ, hF⟩ := h
  obtain ⟨elv, hM⟩ := hm x L rfl
  subst elv
  have hs := hk.size
  have hs0 := h0.size
  have hf := hK.few
  refine Rets.use (append_c (hd.kept hk (fun _ _ h => h)) (hM.kept hk (fun _ _ h => h)) (fun k h => (hP k h).2.2.1) (fun k h => by have := (hQ k h).2.1; omega) (by omega) hK.next hK.texts vb b hb (fun k h => ⟨fun h' => by have := hok k h; have := (hP k h').2.1; omega, fun h' => by have := hok k h; have := (hQ k h').2.1; omega⟩) hbl) ?_
  rintro v w' ⟨rfl, hk', Q', hQ', hd', hm'⟩
  have hs' := hk'.size
  refine ⟨rfl, ⟨(h0.trans hk (fun _ _ h => h)).trans hk' (fun k hk h => by rcases h with h | h; have := (hP k h).1; omega; have := (hQ k h).1; omega), _, Q', Z, _, hd'.bound, (hl.kept hk (fun _ _ h => h)).kept hk' (fun k h h' => by rcases h' with h' | h'; exact (hP k h').2.2.2 h; exact (hQ k h').2.2 h), fun x2 L2 e => by cases e; exact ⟨rfl, hm'⟩, fun k h => ⟨?_, h.2, h.1.2, ?_⟩, fun k h => ⟨?_, (hQ' k h).2, ?_⟩, fun k h => ⟨(hZ k h).1, by have := (hZ k h).2; omega⟩, fun k h => ⟨by have := (hF k h).1; omega, fun h' => ?_, fun h' => ?_, (hF k h).2.2.2⟩⟩, hk'.mono (fun k _ h h' => by rcases h with h | h; exact (hF k h').2.1 h; exact (hF k h').2.2.1 h)⟩
  · rcases h.1.1 with h1 | h1
    · exact (hP k h1).1
    · omega
  · intro h2
    rcases h.1.1 with h1 | h1
    · exact (hP k h1).2.2.2 h2
    · have := (hZ k h2).2; omega
  · rcases (hQ' k h).1 with h1 | h1
    · exact (hQ k h1).1
    · omega
  · intro h2
    rcases (hQ' k h).1 with h1 | h1
    · exact (hQ k h1).2.2 h2
    · have := (hZ k h2).2; omega
  · rcases h'.1.1 with h1 | h1
    · exact (hF k h).2.1 h1
    · have := (hF k h).1; omega
  · rcases (hQ' k h').1 with h1 | h1
    · exact (hF k h).2.2.1 h1
    · have := (hF k h).1; omega
end
end Go.Proofs.Ytmkpdoljaccpaaa
