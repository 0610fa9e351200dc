/-
  DiskPlays: the two disks side by side, plainly and in memory.
-/
import Derived.Test.YtmkpdoljaccpaaaRefC
namespace Go.Proofs.Ytmkpdoljaccpaaa
open Go.RowKit Go.Canon Go.Mem Go.Args
open Go.Disk (St)
set_option linter.unusedVariables false
set_option linter.unusedSimpArgs false
/-- What a call does to both. -/
def does9 (s : St) (r : RefD) (d : Do9) : St × RefD :=
  if d.kind = 0 then ((s.write d.at_ (d.b.take 100)).2, (r.write d.at_ (d.b.take 100)).2)
  else if d.kind = 1 then (s.sync.2, r.sync.2)
  else if d.kind = 2 then ((s.arm d.at_).2, (r.arm d.at_).2)
  else if d.kind = 3 then (s.crash (d.keep.take 200), r.crash (d.keep.take 200)) else (s, r)
structure Good (s : St) (r : RefD) (n : Nat) : Prop where
  sim : ∃ S, Sim s r S
  few : s.opn.length ≤ n
  len : r.l.length ≤ n
  b64 : ∀ p ∈ r.l, p.b.length = 64
  left : -1 ≤ r.left ∧ r.left ≤ 9223372036854775807
theorem bytesOf_64 {l : List Wr} (h : ∀ p ∈ l, p.b.length = 64) (a : Int) : (bytesOf l a).length = 64 := by
  induction l with
  | nil => exact Disk.zsec_len
  | cons w r ih =>
    rw [bytesOf]
    split
    · exact ih (fun p hp => h p (List.mem_cons_of_mem _ hp))
    · split
      · exact h w (List.mem_cons_self ..)
      · exact Disk.zsec_len
theorem settled_len (l : List Wr) : (settled l).length ≤ l.length := by
  induction l with
  | nil => exact Nat.le_refl _
  | cons w r ih => rw [settled]; split <;> simp <;> omega
theorem settled_64 {l : List Wr} (h : ∀ p ∈ l, p.b.length = 64) : ∀ p ∈ settled l, p.b.length = 64 := by
  induction l with
  | nil => exact h
  | cons w r ih =>
    have h' := ih (fun p hp => h p (List.mem_cons_of_mem _ hp))
    intro p hp
    rw [settled] at hp
    split at hp
    · exact h' p hp
    · rcases List.mem_cons.1 hp with rfl | hp
      · exact h w (List.mem_cons_self ..)
      · exact h' p hp
theorem left9_len (keep : List Bool) (l : List Wr) : ∀ k, (left9 keep k l).length ≤ l.length := by
  induction l with
  | nil => intro k; exact Nat.le_refl _
  | cons w r ih =>
    intro k
    have h1 := ih k
    have h2 := ih (k + 1)
    rw [left9]
    split
    · simp; omega
    · split
      · simp; omega
      · simp; omega
theorem left9_64 (keep : List Bool) {l : List Wr} (h : ∀ p ∈ l, p.b.length = 64) : ∀ k, ∀ p ∈ left9 keep k l, p.b.length = 64 := by
  induction l with
  | nil => intro k; exact h
  | cons w r ih =>
    have h' := ih (fun p hp => h p (List.mem_cons_of_mem _ hp))
    intro k p hp
    rw [left9] at hp
    split at hp
    · rcases List.mem_cons.1 hp with rfl | hp
      · exact h _ (List.mem_cons_self ..)
      · exact h' _ p hp
    · split at hp
      · rcases List.mem_cons.1 hp with rfl | hp
        · exact h _ (List.mem_cons_self ..)
        · exact h' _ p hp
      · exact h' _ p hp
theorem goes_left {r : RefD} (h : -1 ≤ r.left ∧ r.left ≤ 9223372036854775807) : -1 ≤ r.goes.2.left ∧ r.goes.2.left ≤ 9223372036854775807 := by
  unfold RefD.goes
  split
  · exact h
  · split
    · simp only; omega
    · exact h
theorem goes_same (r : RefD) : r.goes.2.l = r.l ∧ r.goes.2.n = r.n := by unfold RefD.goes; split <;> (try split) <;> exact ⟨rfl, rfl⟩
section
variable {s : St} {r : RefD} {n : Nat}
theorem Good.write (h : Good s r n) (a : Int) (b : List Int) : (s.write a b).1 = (r.write a b).1 ∧ Good (s.write a b).2 (r.write a b).2 (n + 1) := by
  obtain ⟨S, hS⟩ := h.sim
  obtain ⟨h1, h2⟩ := hS.write a b
  have hf := write_few s a b
  have hfew := h.few
  have hlen := h.len
  have hgl := goes_left h.left
  obtain ⟨hs1, hs2⟩ := goes_same r
  refine ⟨h1, ⟨_, h2⟩, by omega, ?_, ?_, ?_⟩
  · unfold RefD.write
    split
    · (try simp only); omega
    · split
      · (try simp only); omega
      · split
        · simp; omega
        · rw [hs1]; omega
  · unfold RefD.write
    split
    · exact h.b64
    · split
      · exact h.b64
      · split
        · intro p hp
          rcases List.mem_append.1 hp with hp | hp
          · exact h.b64 p hp
          · rw [List.mem_singleton] at hp; subst hp; exact pad_64 (by omega)
        · rw [hs1]; exact h.b64
  · unfold RefD.write
    split
    · exact h.left
    · split
      · exact h.left
      · split
        · exact hgl
        · exact hgl
theorem Good.sync (h : Good s r n) : s.sync.1 = r.sync.1 ∧ Good s.sync.2 r.sync.2 (n + 1) := by
  obtain ⟨S, hS⟩ := h.sim
  obtain ⟨h1, S', h2⟩ := hS.sync
  have hf := sync_few s
  have hfew := h.few
  have hlen := h.len
  have hgl := goes_left h.left
  obtain ⟨hs1, hs2⟩ := goes_same r
  have hsl := settled_len r.l
  refine ⟨h1, ⟨_, h2⟩, by omega, ?_, ?_, ?_⟩
  · unfold RefD.sync
    split
    · (try simp only); omega
    · split
      · simp only; omega
      · rw [hs1]; omega
  · unfold RefD.sync
    split
    · exact h.b64
    · split
      · exact settled_64 h.b64
      · rw [hs1]; exact h.b64
  · unfold RefD.sync
    split
    · exact h.left
    · split
      · exact hgl
      · exact hgl
theorem Good.arm (h : Good s r n) (a : Int) (ha : a ≤ 9223372036854775807) : (s.arm a).1 = (r.arm a).1 ∧ Good (s.arm a).2 (r.arm a).2 (n + 1) := by
  obtain ⟨S, hS⟩ := h.sim
  obtain ⟨h1, h2⟩ := hS.arm a
  have hfew := h.few
  have hlen := h.len
  have hl := h.left
  refine ⟨h1, ⟨_, h2⟩, ?_, ?_, ?_, ?_⟩
  · unfold St.arm
    split
    · (try simp only); omega
    · split
      · (try simp only); omega
      · simp only; omega
  · unfold RefD.arm
    split
    · (try simp only); omega
    · split
      · (try simp only); omega
      · simp only; omega
  · unfold RefD.arm
    split
    · exact h.b64
    · split
      · exact h.b64
      · exact h.b64
  · unfold RefD.arm
    split
    · exact hl
    · split
      · exact hl
      · simp only; omega
theorem Good.crash (h : Good s r n) (keep : List Bool) : Good (s.crash keep) (r.crash keep) (n + 1) := by
  obtain ⟨S, hS⟩ := h.sim
  obtain ⟨S', h2⟩ := hS.crash keep
  have hfew := h.few
  have hlen := h.len
  have h3 := settled_len (left9 keep 0 r.l)
  have h4 := left9_len keep r.l 0
  refine ⟨⟨_, h2⟩, ?_, ?_, ?_, ?_⟩
  · simp [St.crash]
  · unfold RefD.crash; simp only; omega
  · exact settled_64 (left9_64 keep h.b64 0)
  · unfold RefD.crash; simp only; omega
theorem Good.next (h : Good s r n) (d : Do9) (ha : d.at_ ≤ 9223372036854775807) : Good (does9 s r d).1 (does9 s r d).2 (n + 1) := by
  unfold does9
  split
  · exact (h.write _ _).2
  · split
    · exact h.sync.2
    · split
      · exact (h.arm _ ha).2
      · split
        · exact h.crash _
        · exact ⟨h.sim, by have := h.few; simp only; omega, by have := h.len; simp only; omega, h.b64, h.left⟩
theorem Good.read (h : Good s r n) (a : Int) : s.read a = r.read a := by obtain ⟨S, hS⟩ := h.sim; exact hS.read a
theorem Good.opens (h : Good s r n) : r.opens = s.opn.length := by obtain ⟨S, hS⟩ := h.sim; exact hS.opens
theorem Good.off (h : Good s r n) : s.off = !r.power := by obtain ⟨S, hS⟩ := h.sim; exact hS.off
theorem Good.num (h : Good s r n) : r.n = s.now.length := by obtain ⟨S, hS⟩ := h.sim; exact hS.n
end
/-- The two disks in memory, apart; and blocks that are free of both. -/
def Duo (W w : World) (g x : Nat) (s : St) (r : RefD) (F : Nat → Prop) : Prop := Keeps (fun _ => False) W w ∧ ∃ P R T : Nat → Prop, DIs w P g s ∧ RefMem w x R T r ∧ (∀ k, P k → W.heap.size ≤ k ∧ k < w.heap.size ∧ k ≠ x ∧ ¬ R k ∧ ¬ T k) ∧ (W.heap.size ≤ x ∧ x < w.heap.size) ∧ (∀ k, R k → W.heap.size ≤ k ∧ k < w.heap.size) ∧ (∀ k, T k → W.heap.size ≤ k ∧ k < w.heap.size) ∧
  (∀ k, F k → W.heap.size ≤ k ∧ k < w.heap.size ∧ ¬ P k ∧ k ≠ x ∧ ¬ R k ∧ ¬ T k)
section
variable {W w w' : World} {g x : Nat} {s s' : St} {r r' : RefD} {P R T F : Nat → Prop}
theorem Duo.dput (h0 : Keeps (fun _ => False) W w) (hR : RefMem w x R T r) (sP : ∀ k, P k → W.heap.size ≤ k ∧ k < w.heap.size ∧ k ≠ x ∧ ¬ R k ∧ ¬ T k) (sx : W.heap.size ≤ x ∧ x < w.heap.size) (sR : ∀ k, R k → W.heap.size ≤ k ∧ k < w.heap.size) (sT : ∀ k, T k → W.heap.size ≤ k ∧ k < w.heap.size)
    (sF : ∀ k, F k → W.heap.size ≤ k ∧ k < w.heap.size ∧ ¬ P k ∧ k ≠ x ∧ ¬ R k ∧ ¬ T k) (hD : DIs w' (fun k => P k ∨ w.heap.size ≤ k) g s') (hk : Keeps P w w') : Duo W w' g x s' r F := by
  have hs := hk.size
  have hs0 := h0.size
  refine ⟨h0.trans hk (fun k hk h => by have := (sP k h).1; omega), fun k => (P k ∨ w.heap.size ≤ k) ∧ k < w'.heap.size, R, T, hD.bound, hR.kept hk (fun h => (sP x h).2.2.1 rfl) (fun k hk h => (sP k h).2.2.2.1 hk) (fun k hk h => (sP k h).2.2.2.2 hk), fun k hk => ?_, ⟨sx.1, by omega⟩, fun k hk => ⟨(sR k hk).1, by have := (sR k hk).2; omega⟩, fun k hk => ⟨(sT k hk).1, by have := (sT k hk).2; omega⟩, fun k hk => ?_⟩
  · rcases hk.1 with h | h
    · obtain ⟨h1, h2, h3, h4, h5⟩ := sP k h
      exact ⟨h1, hk.2, h3, h4, h5⟩
    · exact ⟨by omega, hk.2, by omega, fun h' => by have := (sR k h').2; omega, fun h' => by have := (sT k h').2; omega⟩
  · obtain ⟨h1, h2, h3, h4, h5, h6⟩ := sF k hk
    exact ⟨h1, by omega, fun h => by rcases h.1 with h | h; exact h3 h; omega, h4, h5, h6⟩
theorem Duo.rput {R' T' : Nat → Prop} (h0 : Keeps (fun _ => False) W w) (hD : DIs w P g s) (sP : ∀ k, P k → W.heap.size ≤ k ∧ k < w.heap.size ∧ k ≠ x ∧ ¬ R k ∧ ¬ T k) (sx : W.heap.size ≤ x ∧ x < w.heap.size) (sR : ∀ k, R k → W.heap.size ≤ k ∧ k < w.heap.size) (sT : ∀ k, T k → W.heap.size ≤ k ∧ k < w.heap.size)
    (sF : ∀ k, F k → W.heap.size ≤ k ∧ k < w.heap.size ∧ ¬ P k ∧ k ≠ x ∧ ¬ R k ∧ ¬ T k) (hR : RefMem w' x R' T' r') (hk : Keeps (fun k => k = x ∨ R k) w w') (nR : ∀ k, R' k → (R k ∨ w.heap.size ≤ k) ∧ k < w'.heap.size) (nT : ∀ k, T' k → (T k ∨ w.heap.size ≤ k) ∧ k < w'.heap.size) : Duo W w' g x s r' F := by
  have hs := hk.size
  have hs0 := h0.size
  refine ⟨h0.trans hk (fun k hk h => by rcases h with h | h; omega; have := (sR k h).1; omega), P, R', T', hD.kept hk (fun k hk h => by rcases h with h | h; exact (sP k hk).2.2.1 h; exact (sP k hk).2.2.2.1 h), hR, fun k hk => ?_, ⟨sx.1, by omega⟩, fun k hk => ⟨?_, (nR k hk).2⟩, fun k hk => ⟨?_, (nT k hk).2⟩, fun k hk => ?_⟩
  · obtain ⟨h1, h2, h3, h4, h5⟩ := sP k hk
    exact ⟨h1, by omega, h3, fun h => by rcases (nR k h).1 with h | h; exact h4 h; omega, fun h => by rcases (nT k h).1 with h | h; exact h5 h; omega⟩
  · rcases (nR k hk).1 with h | h
    · exact (sR k h).1
    · omega
  · rcases (nT k hk).1 with h | h
    · exact (sT k h).1
    · omega
  · obtain ⟨h1, h2, h3, h4, h5, h6⟩ := sF k hk
    exact ⟨h1, by omega, h3, h4, fun h => by rcases (nR k h).1 with h | h; exact h5 h; omega, fun h => by rcases (nT k h).1 with h | h; exact h6 h; omega⟩
theorem Duo.kept {S : Nat → Prop} (h : Duo W w g x s r F) (hk : Keeps S w w') (hS : ∀ k, S k → F k ∨ w.heap.size ≤ k) : Duo W w' g x s r F := by
  obtain ⟨h0, P, R, T, hD, hR, sP, sx, sR, sT, sF⟩ := h
  have hs := hk.size
  have hs0 := h0.size
  refine ⟨h0.trans hk (fun k hk h => by rcases hS k h with h | h; have := (sF k h).1; omega; omega), P, R, T, hD.kept hk (fun k hk h => ?_), hR.kept hk (fun h => ?_) (fun k hk h => ?_) (fun k hk h => ?_), fun k hk => ?_, ⟨sx.1, by omega⟩, fun k hk => ⟨(sR k hk).1, by have := (sR k hk).2; omega⟩, fun k hk => ⟨(sT k hk).1, by have := (sT k hk).2; omega⟩, fun k hk => ?_⟩
  · rcases hS k h with h | h
    · exact (sF k h).2.2.1 hk
    · have := (sP k hk).2.1; omega
  · rcases hS x h with h | h
    · exact (sF x h).2.2.2.1 rfl
    · omega
  · rcases hS k h with h | h
    · exact (sF k h).2.2.2.2.1 hk
    · have := (sR k hk).2; omega
  · rcases hS k h with h | h
    · exact (sF k h).2.2.2.2.2 hk
    · have := (sT k hk).2; omega
  · obtain ⟨h1, h2, h3, h4, h5⟩ := sP k hk
    exact ⟨h1, by omega, h3, h4, h5⟩
  · obtain ⟨h1, h2, h3⟩ := sF k hk
    exact ⟨h1, by omega, h3⟩
/-- Blocks laid behind are free. -/
theorem Duo.more {F' : Nat → Prop} (h : Duo W w g x s r F) (hk : Keeps (fun _ => False) w w') (hF : ∀ k, F' k → w.heap.size ≤ k ∧ k < w'.heap.size) : Duo W w' g x s r F' := by
  obtain ⟨h0, P, R, T, hD, hR, sP, sx, sR, sT, sF⟩ := h.kept hk (fun _ h => h.elim)
  obtain ⟨_, P0, R0, T0, hD0, hR0, sP0, sx0, sR0, sT0, sF0⟩ := h
  have hs := hk.size
  refine ⟨h0, P0, R0, T0, hD0.kept hk (fun _ _ h => h), hR0.kept hk (fun h => h) (fun _ _ h => h) (fun _ _ h => h), fun k hk => ?_, ⟨sx0.1, by omega⟩, fun k hk => ⟨(sR0 k hk).1, by have := (sR0 k hk).2; omega⟩, fun k hk => ⟨(sT0 k hk).1, by have := (sT0 k hk).2; omega⟩, fun k hk => ?_⟩
  · obtain ⟨h1, h2, h3, h4, h5⟩ := sP0 k hk
    exact ⟨h1, by omega, h3, h4, h5⟩
  · obtain ⟨h1, h2⟩ := hF k hk
    exact ⟨by omega, h2, fun h => by have := (sP0 k h).2.1; omega, by omega, fun h => by have := (sR0 k h).2; omega, fun h => by have := (sT0 k h).2; omega⟩
/-- A call of the disk. -/
theorem Duo.post (h0 : Keeps (fun _ => False) W w) (hR : RefMem w x R T r) (sP : ∀ k, P k → W.heap.size ≤ k ∧ k < w.heap.size ∧ k ≠ x ∧ ¬ R k ∧ ¬ T k) (sx : W.heap.size ≤ x ∧ x < w.heap.size) (sR : ∀ k, R k → W.heap.size ≤ k ∧ k < w.heap.size) (sT : ∀ k, T k → W.heap.size ≤ k ∧ k < w.heap.size)
    (sF : ∀ k, F k → W.heap.size ≤ k ∧ k < w.heap.size ∧ ¬ P k ∧ k ≠ x ∧ ¬ R k ∧ ¬ T k) {v v' : Value} (h : DPost w P g v s' v' w') : v' = v ∧ Duo W w' g x s' r F ∧ ∃ S : Nat → Prop, Keeps S w w' ∧ ∀ k, F k → ¬ S k :=
  ⟨h.1, Duo.dput h0 hR sP sx sR sT sF h.2.1 h.2.2, P, h.2.2, fun k hk => (sF k hk).2.2.1⟩
/-- A call of the document's disk. -/
theorem Duo.rpost (h0 : Keeps (fun _ => False) W w) (hD : DIs w P g s) (sP : ∀ k, P k → W.heap.size ≤ k ∧ k < w.heap.size ∧ k ≠ x ∧ ¬ R k ∧ ¬ T k) (sx : W.heap.size ≤ x ∧ x < w.heap.size) (sR : ∀ k, R k → W.heap.size ≤ k ∧ k < w.heap.size) (sT : ∀ k, T k → W.heap.size ≤ k ∧ k < w.heap.size)
    (sF : ∀ k, F k → W.heap.size ≤ k ∧ k < w.heap.size ∧ ¬ P k ∧ k ≠ x ∧ ¬ R k ∧ ¬ T k) {v v' : Value} (h : RPost w x R T v r' v' w') : v' = v ∧ Duo W w' g x s r' F ∧ ∃ S : Nat → Prop, Keeps S w w' ∧ ∀ k, F k → ¬ S k := by
  obtain ⟨e, hk, R', T', hR, nR, nT⟩ := h
  exact ⟨e, Duo.rput h0 hD sP sx sR sT sF hR hk nR nT, _, hk, fun k hq h => by rcases h with h | h; exact (sF _ hq).2.2.2.1 h; exact (sF _ hq).2.2.2.2.1 h⟩
theorem RefPost.rpost {v v' : Value} (h : RefPost w x R T v r' v' w') (hR : ∀ k, R k → k < w.heap.size) (hT : ∀ k, T k → k < w.heap.size) : RPost w x R T v r' v' w' := by
  obtain ⟨e, hR', hk⟩ := h
  have := hk.size
  exact ⟨e, hk.mono (fun _ _ h => .inl h), R, T, hR', fun k h => ⟨.inl h, by have := hR k h; omega⟩, fun k h => ⟨.inl h, by have := hT k h; omega⟩⟩
theorem CPost.rpost {v' : Value} (h : CPost w x T r' v' w') (hT : ∀ k, T k → k < w.heap.size) : RPost w x R T v' r' v' w' := by
  obtain ⟨hk, R', hR', nR⟩ := h
  have := hk.size
  exact ⟨rfl, hk.mono (fun _ _ h => .inl h), R', T, hR', fun k h => ⟨.inr (nR k h).1, (nR k h).2⟩, fun k h => ⟨.inl h, by have := hT k h; omega⟩⟩
theorem Duo.thin {F' : Nat → Prop} (h : Duo W w g x s r F) (hF : ∀ k, F' k → F k) : Duo W w g x s r F' := by
  obtain ⟨h0, P, R, T, hD, hR, sP, sx, sR, sT, sF⟩ := h
  exact ⟨h0, P, R, T, hD, hR, sP, sx, sR, sT, fun k hk => sF k (hF k hk)⟩
end
theorem same_self9 {ok ok2 : Nat → Prop} {w : World} {v v2 : Value} {xs : List Int} (hr : Rd w ok v xs.length (Disk.bytes8 xs)) (hr2 : Rd w ok2 v2 xs.length (Disk.bytes8 xs)) (hl : xs.length ≤ 9223372036854775807) : Calls Try.prog 26 #[v, v2] w (Rets (Still (.bool true) w)) := by
  have h := same_c v v2 xs xs hr hr2 hl
  rw [show decide (xs = xs) = true by simp] at h
  exact h
end Go.Proofs.Ytmkpdoljaccpaaa
