/-
  Bytes that grow: what the call itself appends to.
-/
import Derived.Test.YtbiohidelhfaiaaSet
import Derived.Test.YtbiohidelhfaiaaMem3
import Derived.Test.YtbiohidelhfaiaaLit
namespace Go.Proofs.Ytbiohidelhfaiaa
open Go.RowKit Go.Canon Go.Mem
set_option linter.unusedVariables false
set_option linter.unusedSimpArgs false
/-- Bytes of the call's own; all that was there is as it was. -/
def Out (W w : World) (v : Value) (l : List Int) : Prop := OwnRow w (fun j => W.heap.size ≤ j) 5 1 v l.length (Disk.bytes8 l) ∧ Keeps (fun _ => False) W w
section
variable {P : Program} {ops : Array Oper} {op : Oper} {rest : List Oper} {a : Act} {W w : World} {Q : Exit → Act → World → Prop}
theorem Out.kept {w' : World} {v : Value} {l : List Int} (h : Out W w v l) (hk : Keeps (fun _ => False) w w') : Out W w' v l := ⟨h.1.kept hk (fun _ _ h => h), h.2.trans hk (fun _ _ h => h)⟩
theorem Out.nil (w : World) : Out w w (.slice none 0 0) [] := ⟨OwnRow.nil _ _ _ _, Keeps.refl _ _⟩
theorem out_str (hgd : Region.wanted op (yielded ops a.tmps) = true) (s x : Operand) (ho : op.op = .call { callee := .builtin .append, args := #[s, x], argTypes := #[23, 9] })
    (v : Value) (l : List Int) (hs : a.eval s = v) (h : Out W w v l) (b : List Int) (hx : a.eval x = .string (str b)) (hB : IsB b) (hn : l.length + b.length ≤ 1000000000)
    (k : ∀ v' w', Out W w' v' (l ++ b) → Keeps (fun j => W.heap.size ≤ j) w w' → wpList Try.prog ops Q rest (a.put op.dst v') w') : wpList Try.prog ops Q (op :: rest) a w := by
  refine step_append_str hgd s x _ _ ho 5 Try.underlying23 Try.underlying9 row_byte v l.length _ hs h.1 (str b) hx (by rw [str_size]; simp only [maxLen]; omega) (by rw [str_size]; omega) (fun v' w' h1 h2 => k v' w' ⟨?_, h.2.trans h2 (fun j hj e => by have := h.1.2 j e; omega)⟩ (h2.mono (fun j _ e => h.1.2 j e)))
  rw [str_size, strCells_str hB] at h1
  rw [List.length_append, Disk.bytes8_append]
  exact h1.mono (fun j _ e => e.elim (fun h => h) (fun e => Nat.le_trans h.2.size e))
theorem out_rd {ok : Nat → Prop} (hgd : Region.wanted op (yielded ops a.tmps) = true) (s x : Operand) (ho : op.op = .call { callee := .builtin .append, args := #[s, x], argTypes := #[23, 23] })
    (v : Value) (l : List Int) (hs : a.eval s = v) (h : Out W w v l) (xv : Value) (n : Nat) (b : List Int) (hx : a.eval x = xv) (hr : Rd w ok xv n (Disk.bytes8 b)) (hl : b.length = n) (hn : l.length + b.length ≤ 1000000000)
    (k : ∀ v' w', Out W w' v' (l ++ b) → Keeps (fun j => W.heap.size ≤ j) w w' → wpList Try.prog ops Q rest (a.put op.dst v') w') : wpList Try.prog ops Q (op :: rest) a w := by
  subst hl
  refine step_append_rd hgd s x _ ho 5 _ 1 1 Try.underlying23 row_byte rfl (by decide) v l.length _ hs h.1 xv b.length (Disk.bytes8 b) hx hr (by rw [Disk.bytes8_len, Nat.mul_one]) (Disk.bytes8_one b) (by simp only [maxLen]; omega) (by omega) (fun v' w' h1 h2 => k v' w' ⟨?_, h.2.trans h2 (fun j hj e => by have := h.1.2 j e; omega)⟩ (h2.mono (fun j _ e => h.1.2 j e)))
  rw [List.length_append, Disk.bytes8_append]
  exact h1.mono (fun j _ e => e.elim (fun h => h) (fun e => Nat.le_trans h.2.size e))
theorem app_str {ok : Nat → Prop} (hgd : Region.wanted op (yielded ops a.tmps) = true) (s x : Operand) (ho : op.op = .call { callee := .builtin .append, args := #[s, x], argTypes := #[23, 9] })
    (v : Value) (l : List Int) (hs : a.eval s = v) (h : OwnRow w ok 5 1 v l.length (Disk.bytes8 l)) (b : List Int) (hx : a.eval x = .string (str b)) (hB : IsB b) (hn : l.length + b.length ≤ 1000000000)
    (k : ∀ v' w', OwnRow w' (fun j => ok j ∨ w.heap.size ≤ j) 5 1 v' (l ++ b).length (Disk.bytes8 (l ++ b)) → Keeps ok w w' → wpList Try.prog ops Q rest (a.put op.dst v') w') : wpList Try.prog ops Q (op :: rest) a w := by
  refine step_append_str hgd s x _ _ ho 5 Try.underlying23 Try.underlying9 row_byte v l.length _ hs h (str b) hx (by rw [str_size]; simp only [maxLen]; omega) (by rw [str_size]; omega) (fun v' w' h1 h2 => k v' w' ?_ (h2.mono (fun j _ e => h.2 j e)))
  rw [str_size, strCells_str hB] at h1
  rw [List.length_append, Disk.bytes8_append]
  exact h1
theorem app_rd {ok ok2 : Nat → Prop} (hgd : Region.wanted op (yielded ops a.tmps) = true) (s x : Operand) (ho : op.op = .call { callee := .builtin .append, args := #[s, x], argTypes := #[23, 23] })
    (v : Value) (l : List Int) (hs : a.eval s = v) (h : OwnRow w ok 5 1 v l.length (Disk.bytes8 l)) (xv : Value) (n : Nat) (b : List Int) (hx : a.eval x = xv) (hr : Rd w ok2 xv n (Disk.bytes8 b)) (hl : b.length = n) (hn : l.length + b.length ≤ 1000000000)
    (k : ∀ v' w', OwnRow w' (fun j => ok j ∨ w.heap.size ≤ j) 5 1 v' (l ++ b).length (Disk.bytes8 (l ++ b)) → Keeps ok w w' → wpList Try.prog ops Q rest (a.put op.dst v') w') : wpList Try.prog ops Q (op :: rest) a w := by
  subst hl
  refine step_append_rd hgd s x _ ho 5 _ 1 1 Try.underlying23 row_byte rfl (by decide) v l.length _ hs h xv b.length (Disk.bytes8 b) hx hr (by rw [Disk.bytes8_len, Nat.mul_one]) (Disk.bytes8_one b) (by simp only [maxLen]; omega) (by omega) (fun v' w' h1 h2 => k v' w' ?_ (h2.mono (fun j _ e => h.2 j e)))
  rw [List.length_append, Disk.bytes8_append]
  exact h1
end
/-- One byte, in a block of its own. -/
theorem lit_one {w : World} {x : Int} {g B : Nat} {t : TypeId} (hb : w.heap[g]? = some (.cells ([Value.int .u8 x].flatMap fun v => v.cells.toList).toArray t (0, 0))) (hB : B ≤ g) : Rd w (fun k => B ≤ k) (.slice (some ⟨g, 0, none⟩) 1 1) 1 (Disk.bytes8 [x]) := lit_rd rfl hb hB
end Go.Proofs.Ytbiohidelhfaiaa
