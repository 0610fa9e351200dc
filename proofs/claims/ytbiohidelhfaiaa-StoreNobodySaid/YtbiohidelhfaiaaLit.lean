/-
  Rows of one's own: literals of one element, rows out of blocks.
-/
import Derived.Test.YtbiohidelhfaiaaSmall
namespace Go.Proofs.Ytbiohidelhfaiaa
open Go.RowKit Go.Canon Go.Mem
set_option linter.unusedVariables false
set_option linter.unusedSimpArgs false
theorem Rd.one {w : World} {ok : Nat → Prop} {v : Value} {n : Nat} {cs : List Value} (h : Rd w ok v n cs) : v.oneCell' = true := by
  obtain ⟨A, c, rfl, _⟩ := h.slice; rfl
theorem own_self {w : World} {ok : Nat → Prop} {e : TypeId} {sz n : Nat} {v : Value} {cs : List Value} (h : OwnRow w ok e sz v n cs) : OwnRow w (fun k => v.ownBlock = some k) e sz v n cs := ⟨h.1, fun _ h => h⟩
theorem one_size {u : Value} (h : u.oneCell' = true) : u.cells.size = 1 := by
  cases u <;> simp_all [Value.oneCell', Value.cells]
theorem lit_rd {w : World} {u : Value} {g B : Nat} {t : TypeId} (h : u.oneCell' = true) (hb : w.heap[g]? = some (.cells ([u].flatMap fun v => v.cells.toList).toArray t (0, 0))) (hB : B ≤ g) : Rd w (fun k => B ≤ k) (.slice (some ⟨g, 0, none⟩) 1 1) 1 [u] := by
  have e : u.cells.toList = [u] := by cases u <;> simp_all [Value.oneCell', Value.cells]
  rw [List.flatMap_cons, List.flatMap_nil, e] at hb
  exact ⟨_, _, rfl, by decide, fun h => (by cases h), .inr ⟨g, 0, rfl, hB, fun j u hu => by rw [cell_of_row w _ _ _ _ _ hb, Nat.zero_add]; simpa using hu⟩⟩
theorem own_blk {w : World} {e : TypeId} {ok : Nat → Prop} {n g : Nat} {cs : List Value} (hb : w.heap[g]? = some (.cells cs.toArray e (0, 0))) (hl : cs.length = n) (hn : 0 < n) (hm : n ≤ maxLen) (hg : ok g) : OwnRow w ok e 1 (.slice (some ⟨g, 0, none⟩) n n) n cs := by
  refine ⟨⟨by omega, .inr ⟨g, n, cs.toArray, rfl, Nat.zero_le _, hb, Nat.le_refl _, hm, by simp [hl], by rw [Nat.mul_one, ← hl, List.take_length]⟩⟩, fun k hk => ?_⟩
  simp [Value.ownBlock] at hk
  subst hk; exact hg
theorem row_app {w w2 w3 : World} {n m : Nat} {v : Value} {xs ys : List Int} (z : w.heap.size ≤ w2.heap.size) (h : OwnRow w3 (fun k => w.heap.size ≤ k ∨ w2.heap.size ≤ k) 5 1 v (n + m) (Disk.bytes8 xs ++ Disk.bytes8 ys)) : OwnRow w3 (fun k => w.heap.size ≤ k) 5 1 v (n + m) (Disk.bytes8 (xs ++ ys)) := by
  rw [Disk.bytes8_append]
  exact h.mono (fun k _ h => by rcases h with h | h; exact h; omega)
theorem Rd.tail {w : World} {ok : Nat → Prop} {A : Option Addr} {n c : Nat} {cs : List Value} (h : Rd w ok (.slice A n c) n cs) (k : Nat) (hk : k ≤ n) (hl : cs.length = n) : Rd w ok (sliced A k n c 1) (n - k) (cs.drop k) := by
  obtain ⟨A', c', e, h2, h3, h4⟩ := h
  cases e
  unfold sliced
  refine ⟨_, _, rfl, by omega, fun e => ?_, ?_⟩
  · split at e
    · have := h3 e; omega
    · cases A with
      | none => have := h3 rfl; omega
      | some a => cases e
  · rcases h4 with h4 | ⟨b, o, e1, e2, e3⟩
    · exact .inl (by rw [h4, List.drop_nil])
    · by_cases hck : c = k
      · left
        exact List.drop_of_length_le (by omega)
      · right
        refine ⟨b, o + k, ?_, e2, fun j u hu => ?_⟩
        · rw [if_neg hck, e1]; simp [Addr.add]
        · rw [Nat.add_assoc]; exact e3 (k + j) u (by rwa [List.getElem?_drop] at hu)
theorem tail8 {w : World} {ok : Nat → Prop} {A : Option Addr} {c : Nat} {l : List Int} (h : Rd w ok (.slice A l.length c) l.length (Disk.bytes8 l)) (k : Nat) (hk : k ≤ l.length) : Rd w ok (sliced A k l.length c 1) (l.drop k).length (Disk.bytes8 (l.drop k)) := by
  have := Rd.tail h k hk (Disk.bytes8_len l)
  rw [List.length_drop]
  unfold Disk.bytes8 at *
  rw [List.map_drop]
  exact this
/-- The law says yes; nothing that was there has turned. -/
abbrev Yes (w : World) : Value → World → Prop := fun v w' => v = .bool true ∧ Keeps (fun _ => False) w w'
end Go.Proofs.Ytbiohidelhfaiaa
