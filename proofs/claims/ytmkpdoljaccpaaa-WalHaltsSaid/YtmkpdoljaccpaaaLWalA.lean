/-
  WalAgain: the walk.
-/
import Derived.Test.YtmkpdoljaccpaaaWalR
namespace Go.Proofs.Ytmkpdoljaccpaaa
open Go.RowKit Go.Canon Go.Mem Go.Args
open Go.Disk (St)
set_option linter.unusedVariables false
set_option linter.unusedSimpArgs false
section
variable {W w : World} {g x : Nat} {s : St} {L : LogS}
theorem wl_room (h : WL W w g x s L) (hI : WInv s L) : Calls Try.prog 42 #[.pointer (some ⟨x, 0, none⟩)] w (Rets (Still (.int .i64 (roomP s.now.length L.next)) w)) := by
  obtain ⟨_, P, Q, hd, hm, _⟩ := h
  exact room_c hd hm hI.nexts.1
theorem wl_next (h : WL W w g x s L) : Calls Try.prog 36 #[.pointer (some ⟨x, 0, none⟩)] w (Rets (Only (.int .i64 L.next) w)) := by
  obtain ⟨_, P, Q, hd, hm, _⟩ := h
  exact next_c hm
theorem wl_texts (h : WL W w g x s L) (hI : WInv s L) : Calls Try.prog 41 #[.pointer (some ⟨x, 0, none⟩)] w (Rets (AllPost w L.texts)) := by
  obtain ⟨_, P, Q, hd, hm, _⟩ := h
  have := hI.nexts
  have := hI.most
  exact texts_c hm (by omega) (fun t ht => by have := hI.small t ht; omega)
end
/-- What the loop keeps. -/
structure Again (s : St) (L : LogS) (N : Nat) : Prop where
  inv : WInv s L
  armed : s.armed = false
  opn : s.opn = []
  len : s.now.length = N
  byte : ∀ t ∈ L.texts, IsB t
theorem again_start (N : Nat) (h2 : N ≤ 4096) : Again (fresh N) ⟨[], 0, false⟩ N :=
  ⟨⟨rfl, rfl, ⟨N, by simp [laid, fresh]⟩, rfl, fun t ht => (by cases ht), by simp [fresh]; exact h2⟩, rfl, rfl, by simp [fresh], fun t ht => (by cases ht)⟩
theorem flat_byte {now : List (List Int)} (h : ∀ x ∈ now, IsB x) : IsB (flatS now) := by
  intro y hy
  obtain ⟨z, hz, hy⟩ := List.mem_flatten.1 hy
  exact h z hz y hy
theorem putF_byte {seq : Int} {b : List Int} (h : IsB b) : IsB (putF seq b) := by
  intro y hy
  unfold putF headF at hy
  simp only [List.mem_append] at hy
  rcases hy with (((hy | hy) | hy) | hy) | hy
  · exact wput_byte _ _ y hy
  · exact wput_byte _ _ y hy
  · exact lowB_byte _ y hy
  · exact h y hy
  · exact lowB_byte _ y hy
theorem pad_byte {b : List Int} (h : IsB b) : IsB (Disk.pad b) := by
  intro y hy
  unfold Disk.pad at hy
  rcases List.mem_append.1 hy with hy | hy
  · exact h y hy
  · rw [zsec_rep] at hy
    rw [List.eq_of_mem_replicate (List.mem_of_mem_drop hy)]; decide
theorem secs_byte {f : List Int} (h : IsB f) : ∀ x ∈ secs f, IsB x := by
  intro x hx
  obtain ⟨i, _, rfl⟩ := List.mem_map.1 hx
  exact pad_byte (fun y hy => h y (sec_mem hy))
theorem laid_byte : ∀ (ts : List (List Int)) (i : Nat), (∀ t ∈ ts, IsB t) → ∀ x ∈ laid i ts, IsB x := by
  intro ts
  induction ts with
  | nil => intro i _ x hx; cases hx
  | cons t r ih =>
    intro i h x hx
    rcases List.mem_append.1 hx with hx | hx
    · exact secs_byte (putF_byte (h t (List.mem_cons_self ..))) x hx
    · exact ih _ (fun y hy => h y (List.mem_cons_of_mem _ hy)) x hx
theorem Again.flat {s : St} {L : LogS} {N : Nat} (h : Again s L N) : IsB (flatS s.now) := by
  obtain ⟨k, hk⟩ := h.inv.now
  refine flat_byte (fun x hx => ?_)
  rw [hk] at hx
  rcases List.mem_append.1 hx with hx | hx
  · exact laid_byte _ _ h.byte x hx
  · rw [List.eq_of_mem_replicate hx]
    intro y hy
    rw [zsec_rep] at hy
    rw [List.eq_of_mem_replicate hy]; decide
/-- One more text, or why not. -/
theorem Again.append {s : St} {L : LogS} {N : Nat} (h : Again s L N) {t : List Int} (ht : IsB t) :
    ((appendP s L t).1 = 0 ∧ (t.length : Int) ≤ roomP N L.next ∧ Again (appendP s L t).2.1 (appendP s L t).2.2 N ∧ ¬ roomP N L.next < roomP N (appendP s L t).2.2.next) ∨
    (((appendP s L t).1 = 5 ∨ (appendP s L t).1 = 11) ∧ ¬ (t.length : Int) ≤ roomP N L.next ∧ (appendP s L t).2 = (s, L)) := by
  rcases h.inv.append h.armed t h.opn with ⟨h1, h2, h3, h4, h5, h6, h7, h8⟩ | ⟨h1, h2, h3⟩
  · rw [h.len] at h2 h6 h8
    exact .inl ⟨h1, h2, ⟨h3, h4, h5, h6, fun y hy => by rw [h7] at hy; rcases List.mem_append.1 hy with hy | hy; exact h.byte y hy; rw [List.mem_singleton] at hy; subst hy; exact ht⟩, by omega⟩
  · rw [h.len] at h2
    exact .inr ⟨h1, h2, h3⟩
/-- The first log of a disk. -/
theorem WL.start {W w1 w2 : World} {g : Nat} {n : Nat} {v : Value} (hk1 : Keeps (fun _ => False) W w1) (hd1 : DIs w1 (fun k => W.heap.size ≤ k ∧ k < w1.heap.size) g (fresh n)) (hp : OpenPost w1 (fun k => W.heap.size ≤ k ∧ k < w1.heap.size) g (openP (fresh n)) v w2) : ∃ x, v = .tuple #[.pointer (some ⟨x, 0, none⟩), .int .i64 0] ∧ WL W w2 g x (fresh n) ⟨[], 0, false⟩ := by
  obtain ⟨hk2, Q, hQ, hd2, hv⟩ := hp
  rw [openP_fresh] at hd2 hv
  obtain ⟨L2, x, e2, rfl, hm2⟩ := hv.resolve_left (fun h => by cases h.1)
  cases e2
  have s1 := hk1.size
  have s2 := hk2.size
  refine ⟨x, rfl, hk1.trans hk2 (fun k hk h => by omega), _, Q, hd2.bound, hm2, fun k h => ⟨?_, h.2, h.1.2⟩, fun k h => ⟨by have := (hQ k h).1; omega, (hQ k h).2⟩⟩
  rcases h.1.1 with h1 | h1 <;> omega
end Go.Proofs.Ytmkpdoljaccpaaa
