/-
  DiskTears: the walk.
-/
import Derived.Test.YtmkpdoljaccpaaaDiskT
import Derived.Test.YtmkpdoljaccpaaaMem2
namespace Go.Proofs.Ytmkpdoljaccpaaa
open Go.RowKit Go.Canon Go.Mem Go.Args
open Go.Disk (St)
set_option linter.unusedVariables false
set_option linter.unusedSimpArgs false
/-- The rows of what was sent. -/
def Sent (W w : World) (col : Nat → Nat) (vs : List Value) (L : List (List (List Int))) : Prop := ∀ (i : Nat) (A : List (List Int)), L[i]? = some A → ∃ v us, vs[i]? = some v ∧ OwnRow w (At W w col (4 + i)) 38 1 v A.length us ∧ ∀ (j : Nat) (l : List Int), A[j]? = some l → ∃ u, us[j]? = some u ∧ Rd w (At W w col 2) u l.length (Disk.bytes8 l)
structure TearAt (W : World) (col : Nat → Nat) (g SB : Nat) (vw : Value) (s : St) (was : List (List Int)) (L : List (List (List Int))) (w : World) : Prop where
  keep : Keeps (fun _ => False) W w
  disk : DIs w (At W w col 0) g s
  was : RowsRd w (At W w col 1) vw was
  sb : At W w col 3 SB
  sent : ∃ vs : List Value, vs.length = 8 ∧ w.heap[SB]? = some (.cells vs.toArray 37 (0, 0)) ∧ Sent W w col vs L
theorem RowsRd.mono {w : World} {ok ok' : Nat → Prop} {v : Value} {ls : List (List Int)} (h : RowsRd w ok v ls) (hs : ∀ k, ok k → ok' k) : RowsRd w ok' v ls := by
  obtain ⟨vs, h1, h2, h3⟩ := h
  refine ⟨vs, h1.mono hs, h2, fun i l hi => ?_⟩
  obtain ⟨u, h4, h5⟩ := h3 i l hi
  exact ⟨u, h4, h5.mono hs⟩
theorem Sent.kept {W w w' : World} {col : Nat → Nat} {vs : List Value} {L : List (List (List Int))} {S : Nat → Prop} {d : Nat} (h : Sent W w col vs L) (hk : Keeps S w w') (hn : ∀ c k, (c = 2 ∨ 4 ≤ c) → At W w col c k → ¬ S k) : Sent W w' (recol col w.heap.size d) vs L := by
  intro i A hA
  obtain ⟨v, us, h1, h2, h3⟩ := h i A hA
  refine ⟨v, us, h1, (h2.kept hk (fun k h => hn _ k (.inr (by omega)) h)).mono (fun k _ h => h.old hk.size), fun j l hl => ?_⟩
  obtain ⟨u, h4, h5⟩ := h3 j l hl
  exact ⟨u, h4, (h5.kept hk (fun k h => hn _ k (.inl rfl) h)).mono (fun k h => h.old hk.size)⟩
section
variable {W w w' : World} {col : Nat → Nat} {g SB : Nat} {vw : Value} {s s' : St} {was : List (List Int)} {L : List (List (List Int))}
/-- Nothing of it turns. -/
theorem TearAt.kept (h : TearAt W col g SB vw s was L w) (hk : Keeps (fun _ => False) w w') (d : Nat) : TearAt W (recol col w.heap.size d) g SB vw s was L w' := by
  obtain ⟨vs, h1, h2, h3⟩ := h.sent
  exact ⟨h.keep.trans hk (fun _ _ h => h), (h.disk.kept hk (fun _ _ h => h)).wide (fun k h => h.old hk.size), (h.was.kept hk (fun _ _ h => h)).mono (fun k h => h.old hk.size), h.sb.old hk.size, vs, h1, hk.heap h2 (fun h => h), h3.kept hk (fun _ _ _ _ h => h)⟩
theorem TearAt.post {v v' : Value} (h : TearAt W col g SB vw s was L w) (hp : DPost w (At W w col 0) g v s' v' w') : v' = v ∧ TearAt W (recol col w.heap.size 0) g SB vw s' was L w' := by
  obtain ⟨vs, h1, h2, h3⟩ := h.sent
  have hs := hp.2.2.size
  have hd := hp.2.1.bound
  refine ⟨hp.1, h.keep.trans hp.2.2 (fun k hk h => by have := h.2.1; omega), hd.wide (fun k hk => ?_), (h.was.kept hp.2.2 (fun k h => h.ne (by decide))).mono (fun k h => h.old hs), h.sb.old hs, vs, h1, hp.2.2.heap h2 (h.sb.ne (by decide)), h3.kept hp.2.2 (fun c k hc h => h.ne (by omega))⟩
  rcases hk.1 with h1 | h1
  · exact h1.old hs
  · exact At.new h.keep.size h1 hk.2
/-- One more is sent to a sector. -/
theorem TearAt.push {w5 w6 w7 : World} (h : TearAt W col g SB vw s was L w) {vs us : List Value} {v v' u : Value} {i : Nat} {A : List (List Int)} {l : List Int} (hvs : vs.length = 8) (hb : w.heap[SB]? = some (.cells vs.toArray 37 (0, 0))) (hS : Sent W w col vs L) (hA : L[i]? = some A) (hL : L.length = 8)
    (hv : vs[i]? = some v) (hO : OwnRow w (At W w col (4 + i)) 38 1 v A.length us) (hU : ∀ (j : Nat) (l : List Int), A[j]? = some l → ∃ u, us[j]? = some u ∧ Rd w (At W w col 2) u l.length (Disk.bytes8 l)) (hu : Rd w (At W w col 2) u l.length (Disk.bytes8 l))
    (k5 : Keeps (fun _ => False) w w5) (hO6 : OwnRow w6 (fun k => v.ownBlock = some k ∨ w5.heap.size ≤ k) 38 1 v' (A.length + 1) (us ++ [u])) (k6 : Keeps (fun k => v.ownBlock = some k) w5 w6) (hb7 : w7.heap[SB]? = some (.cells (vs.set i v').toArray 37 (0, 0))) (k7 : Keeps (· = SB) w6 w7) :
    TearAt W (recol col w.heap.size (4 + i)) g SB vw s was (L.set i (A ++ [l])) w7 := by
  have s5 := k5.size
  have s6 := k6.size
  have s7 := k7.size
  have i8 : i < 8 := by have := (List.getElem?_eq_some_iff.1 hA).1; omega
  -- all that was there and is of another colour stays
  have hvo : ∀ k, v.ownBlock = some k → At W w col (4 + i) k := fun k hk => hO.2 k hk
  have k57 : Keeps (fun k => v.ownBlock = some k ∨ k = SB) w w7 := ((k5.mono (fun _ _ h => h.elim)).trans (k6.mono (fun _ _ h => .inl h)) (fun _ _ h => h)).trans (k7.mono (fun _ _ h => .inr h)) (fun _ _ h => h)
  have ss : w.heap.size ≤ w7.heap.size := by omega
  have ne : ∀ c k, c ≠ 4 + i → c ≠ 3 → At W w col c k → ¬ (v.ownBlock = some k ∨ k = SB) := by
    intro c k h1 h2 hc he
    rcases he with he | rfl
    · exact (hc.ne h1) (hvo k he)
    · exact (hc.ne h2) h.sb
  refine ⟨h.keep.trans k57 (fun k hk he => ?_), (h.disk.kept k57 (fun k hk => ne 0 k (by omega) (by decide) hk)).wide (fun k h => h.old ss), (h.was.kept k57 (fun k hk => ne 1 k (by omega) (by decide) hk)).mono (fun k h => h.old ss), h.sb.old ss, vs.set i v', by rw [List.length_set]; exact hvs, hb7, ?_⟩
  · rcases he with he | rfl
    · have := (hvo k he).2.1; omega
    · have := h.sb.2.1; omega
  · intro j B hB
    by_cases hij : i = j
    · subst hij
      rw [List.getElem?_set_self (by omega)] at hB
      obtain rfl := Option.some.inj hB
      refine ⟨v', us ++ [u], by rw [List.getElem?_set_self (by omega)], ?_, fun j l' hl' => ?_⟩
      · rw [List.length_append]
        refine (hO6.kept k7 (fun k hk e => ?_)).mono (fun k hk hh => ?_)
        · subst e
          rcases hk with hk | hk
          · exact (h.sb.ne (d := 4 + i) (by omega)) (hvo _ hk)
          · have := h.sb.2.2; omega
        · rcases hh with hh | hh
          · exact (hvo k hh).old ss
          · exact At.new h.keep.size (by omega) hk
      · have hl := hO.len
        by_cases hj : j < A.length
        · rw [List.getElem?_append_left hj] at hl'
          obtain ⟨y, h4, h5⟩ := hU j l' hl'
          exact ⟨y, by rw [List.getElem?_append_left (by omega)]; exact h4, (h5.kept k57 (fun k hk => ne 2 k (by omega) (by decide) hk)).mono (fun k h => h.old ss)⟩
        · rw [List.getElem?_append_right (by omega)] at hl'
          obtain rfl : j = A.length := by have := (List.getElem?_eq_some_iff.1 hl').1; simp at this; omega
          obtain rfl : l = l' := by simpa using hl'
          exact ⟨u, by rw [List.getElem?_append_right (by omega), hl]; simp, (hu.kept k57 (fun k hk => ne 2 k (by omega) (by decide) hk)).mono (fun k h => h.old ss)⟩
    · rw [List.getElem?_set_ne hij] at hB
      obtain ⟨y, ys, h1, h2, h3⟩ := hS j B hB
      refine ⟨y, ys, by rw [List.getElem?_set_ne hij]; exact h1, (h2.kept k57 (fun k hk => ne (4 + j) k (by omega) (by omega) hk)).mono (fun k _ h => h.old ss), fun q l' hl' => ?_⟩
      obtain ⟨z, h4, h5⟩ := h3 q l' hl'
      exact ⟨z, h4, (h5.kept k57 (fun k hk => ne 2 k (by omega) (by decide) hk)).mono (fun k h => h.old ss)⟩
end
end Go.Proofs.Ytmkpdoljaccpaaa
