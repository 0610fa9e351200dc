/-
  WalForged: what the loop keeps; a disk and a log apart from other blocks.
-/
import Derived.Test.YtmkpdoljaccpaaaLKeptO
import Derived.Test.YtmkpdoljaccpaaaForgeR
namespace Go.Proofs.Ytmkpdoljaccpaaa
open Go.RowKit Go.Canon Go.Mem Go.Args
open Go.Disk (St)
set_option linter.unusedVariables false
set_option linter.unusedSimpArgs false
theorem step_armed (s : St) : s.step.2.armed = s.armed := (step_or s).2.2.2.2
theorem write_armed (s : St) (i : Int) (b : List Int) : (s.write i b).2.armed = s.armed := by
  unfold St.write
  have h := step_armed s
  split
  · rfl
  · split
    · rfl
    · split
      · exact h
      · exact h
theorem sync_armed (s : St) : s.sync.2.armed = s.armed := by
  unfold St.sync
  have h := step_armed s
  split
  · rfl
  · split
    · exact h
    · exact h
theorem wipeGo_armed (all : List Int) (frm : Nat) : ∀ (n : Nat) (sm : Bool) (s : St), (wipeGo all frm n sm s).2.2.armed = s.armed := by
  intro n
  induction n with
  | zero => intro sm s; rfl
  | succ n ih =>
    intro sm s
    rw [wipeGo]
    have h := write_armed s ((frm + n : Nat) : Int) []
    split
    · exact ih sm s
    · split
      · rw [ih, h]
      · exact h
theorem openP_armed (s : St) : (openP s).2.2.armed = s.armed := by
  unfold openP
  split
  · rfl
  · split
    · rfl
    · rename_i ls nx _
      have h := wipeGo_armed (flatS s.now) nx (s.now.length - nx) false s
      have h3 : (wipeP s (flatS s.now) nx).2.armed = s.armed := by
        unfold wipeP
        split
        · split
          · rw [sync_armed, h]
          · exact h
        · exact h
      split
      · exact h3
      · exact h3
/-- Not armed: OK, or refused. -/
theorem Alive.quiet {s : St} {L : LogS} (h : Alive s L) (ha : s.armed = false) {t : List Int} (ht : IsB t) :
    ((appendP s L t).1 = 0 ∧ Alive (appendP s L t).2.1 (appendP s L t).2.2 ∧ (appendP s L t).2.1.armed = false ∧ (appendP s L t).2.2.texts = L.texts ++ [t]) ∨
    (((appendP s L t).1 = 5 ∨ (appendP s L t).1 = 11) ∧ (appendP s L t).2 = (s, L)) := by
  rcases h.inv.append ha t h.opn with ⟨h1, h2, h3, h4, h5, h6, h7, h8⟩ | ⟨h1, h2, h3⟩
  · rcases h.append ht with ⟨a, b, c⟩ | ⟨a, b⟩ | ⟨a, _⟩
    · exact .inl ⟨a, b, h4, c⟩
    · rw [h1] at a; rcases a with a | a <;> cases a
    · rw [h1] at a; cases a
  · exact .inr ⟨h1, h3⟩
/-- Behind the last call: all that a crash may leave. -/
structure Forge (s : St) (ts : List (List Int)) : Prop where
  few : s.opn.length ≤ 300
  crash : ∀ keep, ∃ us, Ready (s.crash keep) us ∧ (∀ t ∈ us, IsB t) ∧ us = ts.take us.length ∧ us.length ≤ ts.length ∧ ts.length ≤ us.length + 1
theorem Alive.forge {s : St} {L : LogS} (h : Alive s L) {ts : List (List Int)} (hts : ts = L.texts ∨ ∃ t, ts = L.texts ++ [t]) : Forge s ts := by
  refine ⟨by rw [h.opn]; decide, fun keep => ⟨L.texts, h.safe.crash keep, h.byte, ?_⟩⟩
  rcases hts with rfl | ⟨t, rfl⟩
  · exact ⟨by rw [List.take_length], Nat.le_refl _, Nat.le_succ _⟩
  · refine ⟨by rw [List.take_append_of_le_length (Nat.le_refl _), List.take_length], ?_, ?_⟩ <;> simp
theorem Doubt10.forge {s : St} {us : List (List Int)} {t : List Int} (h : Doubt10 s us t) (hf : s.opn.length ≤ 300) (hu : ∀ t ∈ us, IsB t) (ht : IsB t) : Forge s (us ++ [t]) := by
  refine ⟨hf, fun keep => ?_⟩
  rcases h.crash keep with hR | hR
  · refine ⟨us, hR, hu, by rw [List.take_append_of_le_length (Nat.le_refl _), List.take_length], ?_, ?_⟩ <;> simp
  · refine ⟨us ++ [t], hR, fun y hy => ?_, by rw [List.take_length], Nat.le_refl _, Nat.le_succ _⟩
    rcases List.mem_append.1 hy with hy | hy
    · exact hu y hy
    · rw [List.mem_singleton] at hy; subst hy; exact ht
theorem Alive.arm {s : St} {L : LogS} (h : Alive s L) {n : Int} (hn : 0 ≤ n) : Alive (s.arm n).2 L := by
  obtain ⟨a, b, c, d⟩ := arm_same (s := s) hn
  exact ⟨⟨by rw [d]; exact h.inv.off, h.inv.dead, by rw [a]; exact h.inv.now, h.inv.next, h.inv.small, by rw [a]; exact h.inv.most⟩, by rw [c]; exact h.opn, by rw [a, b]; exact h.fast, h.byte⟩
/-- The last call. -/
theorem Alive.last {s : St} {L : LogS} (h : Alive s L) {t : List Int} (ht : IsB t) (n : Int) (hn : 0 ≤ n) : (appendP (s.arm n).2 L t).1 = 0 ∧ Forge (appendP (s.arm n).2 L t).2.1 (L.texts ++ [t]) ∨ ((appendP (s.arm n).2 L t).1 = 5 ∨ (appendP (s.arm n).2 L t).1 = 11 ∨ (appendP (s.arm n).2 L t).1 = 14) ∧ Forge (appendP (s.arm n).2 L t).2.1 (L.texts ++ [t]) := by
  obtain ⟨a, b, c, d⟩ := arm_same (s := s) hn
  have hA : Alive (s.arm n).2 L := ⟨⟨by rw [d]; exact h.inv.off, h.inv.dead, by rw [a]; exact h.inv.now, h.inv.next, h.inv.small, by rw [a]; exact h.inv.most⟩, by rw [c]; exact h.opn, by rw [a, b]; exact h.fast, h.byte⟩
  have hf := appendP_few (s.arm n).2 L t
  rw [hA.opn] at hf
  rcases hA.append ht with ⟨x, y, z⟩ | ⟨x, y⟩ | ⟨x, y, z, u⟩
  · exact .inl ⟨x, y.forge (.inl z.symm)⟩
  · refine .inr ⟨by rcases x with x | x; exact .inl x; exact .inr (.inl x), ?_⟩
    rw [y]
    exact hA.forge (.inr ⟨t, rfl⟩)
  · exact .inr ⟨.inr (.inr x), u.forge (by simpa using hf) h.byte ht⟩
/-- It is opened, and one more goes in or not: the power stays. -/
theorem Ready.forged {s : St} {us : List (List Int)} (h : Ready s us) (hb : ∀ t ∈ us, IsB t) {t : List Int} (ht : IsB t) :
    ∃ L s', openP s = (0, some L, s') ∧ L.texts = us ∧ Alive s' L ∧ ((appendP s' L t).1 != 14) = true := by
  rcases open_or h.off h.opn h.fast h.form hb with ⟨x, L, y, z, u⟩ | ⟨x, _, _, _, y⟩
  · refine ⟨L, (openP s).2.2, by rw [← x, ← y], z, u, ?_⟩
    rcases u.quiet (by rw [openP_armed, h.armed]) ht with ⟨a, _⟩ | ⟨a, _⟩
    · rw [a]; rfl
    · rcases a with a | a <;> rw [a] <;> rfl
  · rw [h.armed] at y; cases y
/-! ### in memory -/
/-- A disk and a log, apart; the blocks F are none of theirs. -/
def WF (W w : World) (g : Nat) (lo : Option (Nat × LogS)) (s : St) (F : Nat → Prop) : Prop := Keeps (fun _ => False) W w ∧ ∃ (P Q : Nat → Prop), DIs w P g s ∧ (∀ x L, lo = some (x, L) → LogMem w x Q g L) ∧ (∀ k, P k → W.heap.size ≤ k ∧ k < w.heap.size ∧ ¬ Q k) ∧ (∀ k, Q k → W.heap.size ≤ k ∧ k < w.heap.size) ∧ (∀ k, F k → W.heap.size ≤ k ∧ k < w.heap.size ∧ ¬ P k ∧ ¬ Q k)
section
variable {W w0 w w' : World} {g : Nat} {lo : Option (Nat × LogS)} {s : St} {F F' : Nat → Prop}
/-- Blocks of F are written, new ones are made; F may grow by new ones. -/
theorem WF.grow (h : WF W w g lo s F) (hk : Keeps F w w') (hF : ∀ k, F' k → (F k ∨ w.heap.size ≤ k) ∧ k < w'.heap.size) : WF W w' g lo s F' := by
  have z := hk.size
  obtain ⟨h0, P, Q, hd, hm, hP, hQ, hF0⟩ := h
  have z0 := h0.size
  refine ⟨h0.trans hk (fun k hk h => by have := (hF0 k h).1; omega), P, Q, hd.kept hk (fun k h h' => (hF0 k h').2.2.1 h), fun x L e => (hm x L e).kept hk (fun k h h' => (hF0 k h').2.2.2 h), fun k h => ⟨(hP k h).1, by have := (hP k h).2.1; omega, (hP k h).2.2⟩, fun k h => ⟨(hQ k h).1, by have := (hQ k h).2; omega⟩, fun k h => ⟨?_, (hF k h).2, fun h' => ?_, fun h' => ?_⟩⟩
  · rcases (hF k h).1 with h1 | h1
    · exact (hF0 k h1).1
    · omega
  · rcases (hF k h).1 with h1 | h1
    · exact (hF0 k h1).2.2.1 h'
    · have := (hP k h').2.1; omega
  · rcases (hF k h).1 with h1 | h1
    · exact (hF0 k h1).2.2.2 h'
    · have := (hQ k h').2; omega
theorem WF.kept (h : WF W w g lo s F) (hk : Keeps (fun _ => False) w w') : WF W w' g lo s F := h.grow (hk.mono (fun _ _ h => h.elim)) (fun k h' => ⟨.inl h', by obtain ⟨_, P, Q, _, _, _, _, hF⟩ := h; have := (hF k h').2.1; have := hk.size; omega⟩)
def WFPost (W w : World) (g : Nat) (lo : Option (Nat × LogS)) (e : Int) (s : St) (F : Nat → Prop) : Value → World → Prop := fun v w' => v = .int .i64 e ∧ WF W w' g lo s F ∧ Keeps (fun k => ¬ F k) w w'
theorem WF.disk {v v' : Value} {s' : St} (h0 : Keeps (fun _ => False) W w) {P Q : Nat → Prop} (hm : ∀ x L, lo = some (x, L) → LogMem w x Q g L) (hP : ∀ k, P k → W.heap.size ≤ k ∧ k < w.heap.size ∧ ¬ Q k) (hQ : ∀ k, Q k → W.heap.size ≤ k ∧ k < w.heap.size) (hF : ∀ k, F k → W.heap.size ≤ k ∧ k < w.heap.size ∧ ¬ P k ∧ ¬ Q k) (hp : DPost w P g v s' v' w') : v' = v ∧ WF W w' g lo s' F ∧ Keeps (fun k => ¬ F k) w w' := by
  obtain ⟨e, hd, hk⟩ := hp
  have hs := hk.size
  have hs0 := h0.size
  refine ⟨e, ⟨h0.trans hk (fun k hk h => by have := (hP k h).1; omega), _, Q, hd.bound, fun x L e => (hm x L e).kept hk (fun k h h' => (hP k h').2.2 h), fun k h => ⟨?_, h.2, ?_⟩, fun k h => ⟨(hQ k h).1, by have := (hQ k h).2; omega⟩, fun k h => ⟨(hF k h).1, by have := (hF k h).2.1; omega, fun h' => ?_, (hF k h).2.2.2⟩⟩, hk.mono (fun k _ h h' => (hF k h').2.2.1 h)⟩
  · rcases h.1 with h1 | h1
    · exact (hP k h1).1
    · omega
  · intro h2
    rcases h.1 with h1 | h1
    · exact (hP k h1).2.2 h2
    · have := (hQ k h2).2; omega
  · rcases h'.1 with h1 | h1
    · exact (hF k h).2.2.1 h1
    · have := (hF k h).2.1; omega
theorem wf_crash {ok : Nat → Prop} (h : WF W w g lo s F) (few : s.opn.length ≤ 1000000) (v : Value) (keep : List Bool) (hr : Rd w ok v keep.length (bools keep)) (hok : ∀ k, ok k → k < W.heap.size) (hkl : keep.length ≤ 9223372036854775807) :
    Calls Try.prog 17 #[.pointer (some ⟨g, 0, none⟩), v] w (Rets (WFPost W w g lo 0 (s.crash keep) F)) := by
  obtain ⟨h0, P, Q, hd, hm, hP, hQ, hF⟩ := h
  exact Rets.use (dCrash_c hd few v keep hr (fun k h h' => by have := hok k h; have := (hP k h').1; omega) hkl) (fun v' w' hp => WF.disk h0 hm hP hQ hF hp)
theorem wf_arm (h : WF W w g lo s F) (n : Int) (hn : n ≤ 9223372036854775807) :
    Calls Try.prog 27 #[.pointer (some ⟨g, 0, none⟩), .int .i64 n] w (Rets (WFPost W w g lo (s.arm n).1 (s.arm n).2 F)) := by
  obtain ⟨h0, P, Q, hd, hm, hP, hQ, hF⟩ := h
  exact Rets.use (dArm_c hd n hn) (fun v' w' hp => WF.disk h0 hm hP hQ hF hp)
def WFOpen (W w : World) (g : Nat) (L : LogS) (s : St) (F : Nat → Prop) : Value → World → Prop := fun v w' => ∃ x, v = .tuple #[.pointer (some ⟨x, 0, none⟩), .int .i64 0] ∧ WF W w' g (some (x, L)) s F ∧ Keeps (fun k => ¬ F k) w w'
theorem wf_open {L : LogS} {s' : St} (h : WF W w g lo s F) (few : s.opn.length ≤ 900000) (hB : IsB (flatS s.now)) (ho : openP s = (0, some L, s')) : Calls Try.prog 34 #[.pointer (some ⟨g, 0, none⟩)] w (Rets (WFOpen W w g L s' F)) := by
  obtain ⟨h0, P, Q, hd, hm, hP, hQ, hF⟩ := h
  refine Rets.use (wopen_c hd few hB) (fun v w' hp => ?_)
  obtain ⟨hk, Q2, hQ2, hd2, hv⟩ := hp
  rw [ho] at hd2 hv
  obtain ⟨L2, x, e2, rfl, hm2⟩ := hv.resolve_left (fun h => by cases h.1)
  have e2' := Option.some.inj e2
  subst e2'
  have hs := hk.size
  have hs0 := h0.size
  refine ⟨x, rfl, ⟨h0.trans hk (fun k hk h => by have := (hP k h).1; omega), _, Q2, hd2.bound, fun x2 L2 e => by cases e; exact hm2, fun k h => ⟨?_, h.2, h.1.2⟩, fun k h => ⟨by have := (hQ2 k h).1; omega, (hQ2 k h).2⟩, fun k h => ⟨(hF k h).1, by have := (hF k h).2.1; omega, fun h' => ?_, fun h' => by have := (hQ2 k h').1; have := (hF k h).2.1; omega⟩⟩, hk.mono (fun k _ h h' => (hF k h').2.2.1 h)⟩
  · rcases h.1.1 with h1 | h1
    · exact (hP k h1).1
    · omega
  · rcases h'.1.1 with h1 | h1
    · exact (hF k h).2.2.1 h1
    · have := (hF k h).2.1; omega
def WFAppend (W w : World) (g x : Nat) (r : Int × St × LogS) (F : Nat → Prop) : Value → World → Prop := fun v w' => v = .int .i64 r.1 ∧ WF W w' g (some (x, r.2.2)) r.2.1 F ∧ Keeps (fun k => ¬ F k) w w'
theorem wf_append {ok : Nat → Prop} {x : Nat} {L : LogS} (h : WF W w g (some (x, L)) s F) (hA : Alive s L) (vb : Value) (b : List Int) (hb : Rd w ok vb b.length (Disk.bytes8 b)) (hok : ∀ k, ok k → F k) (hbl : b.length ≤ 1000000) :
    Calls Try.prog 37 #[.pointer (some ⟨x, 0, none⟩), vb] w (Rets (WFAppend W w g x (appendP s L b) F)) := by
  obtain ⟨h0, P, Q, hd, hm, hP, hQ, hF⟩ := h
  have hM := hm x L rfl
  have hs0 := h0.size
  have hn := hA.inv.nexts
  have hmo := hA.inv.most
  refine Rets.use (append_c hd hM (fun k h => (hP k h).2.2) (fun k h => (hQ k h).2) (by rw [hA.opn]; decide) hn.1 (by omega) vb b hb (fun k h => ⟨(hF k (hok k h)).2.2.1, (hF k (hok k h)).2.2.2⟩) hbl) ?_
  rintro v w' ⟨rfl, hk', Q', hQ', hd', hm'⟩
  have hs' := hk'.size
  refine ⟨rfl, ⟨h0.trans hk' (fun k hk h => by rcases h with h | h; have := (hP k h).1; omega; have := (hQ k h).1; omega), _, Q', hd'.bound, fun x2 L2 e => by cases e; exact hm', fun k h => ⟨?_, h.2, h.1.2⟩, fun k h => ⟨?_, (hQ' k h).2⟩, fun k h => ⟨(hF k h).1, by have := (hF k h).2.1; omega, fun h' => ?_, fun h' => ?_⟩⟩, hk'.mono (fun k _ h h' => by rcases h with h | h; exact (hF k h').2.2.1 h; exact (hF k h').2.2.2 h)⟩
  · rcases h.1.1 with h1 | h1
    · exact (hP k h1).1
    · omega
  · rcases (hQ' k h).1 with h1 | h1
    · exact (hQ k h1).1
    · omega
  · rcases h'.1.1 with h1 | h1
    · exact (hF k h).2.2.1 h1
    · have := (hF k h).2.1; omega
  · rcases (hQ' k h').1 with h1 | h1
    · exact (hF k h).2.2.2 h1
    · have := (hF k h).2.1; omega
end
/-- Texts in blocks of F. -/
def Want (w : World) (F : Nat → Prop) (v : Value) (ts : List (List Int)) : Prop := ∃ (R T : Nat → Prop) (vs : List Value), OwnRow w R 38 1 v ts.length vs ∧ TextsRd w T vs ts ∧ (∀ k, R k → F k) ∧ (∀ k, T k → F k) ∧ (∀ k, R k → ¬ T k)
theorem Want.kept {w w' : World} {F S : Nat → Prop} {v : Value} {ts : List (List Int)} (h : Want w F v ts) (hk : Keeps S w w') (hn : ∀ k, F k → ¬ S k) : Want w' F v ts := by
  obtain ⟨R, T, vs, h1, h2, h3, h4, h5⟩ := h
  exact ⟨R, T, vs, h1.kept hk (fun k h => hn k (h3 k h)), h2.kept hk (fun k h => hn k (h4 k h)), h3, h4, h5⟩
theorem Want.wide {w : World} {F F' : Nat → Prop} {v : Value} {ts : List (List Int)} (h : Want w F v ts) (hF : ∀ k, F k → F' k) : Want w F' v ts := by
  obtain ⟨R, T, vs, h1, h2, h3, h4, h5⟩ := h
  exact ⟨R, T, vs, h1, h2, fun k h => hF k (h3 k h), fun k h => hF k (h4 k h), h5⟩
theorem Want.front {w : World} {F : Nat → Prop} {A : Option Addr} {c : Nat} {ts us : List (List Int)} (h : Want w F (.slice A ts.length c) ts) (hu : us = ts.take us.length) (hl : us.length ≤ ts.length) : RowsRd w F (.slice A us.length c) us := by
  obtain ⟨R, T, vs, h1, h2, h3, h4, h5⟩ := h
  have hvl := h2.1
  refine ⟨vs.take us.length, (Rd.front1 h1.rd hvl us.length hl).mono h3, by rw [List.length_take]; omega, fun i l hi => ?_⟩
  have hi2 := (List.getElem?_eq_some_iff.1 hi).1
  rw [hu, List.getElem?_take, if_pos hi2] at hi
  obtain ⟨u, g1, g2⟩ := h2.2 i l hi
  exact ⟨u, by rw [List.getElem?_take, if_pos hi2]; exact g1, g2.mono h4⟩
end Go.Proofs.Ytmkpdoljaccpaaa
