/-
  Several texts in one:
  Memory by blocks: what a call may have turned (Keeps), rows of one's own (OwnRow), slices that are read (Rd); the operations on whole arrays and structs as steps that leave a world of which only the blocks are known.
  The disk as plain data, and what a heap must hold for it.
  Lists of bytes.
  Layer 4, plainly: pieces of a text, names, numbers in digits.
  Changes and their texts, plainly.
  Changes and their texts, plainly: there and back; the document's reader.
-/
import Derived.Below
import Derived.Laws.AppendOwn
import Derived.Laws.Rows
import Derived.Laws.CopyRow
import Derived.Deep.MidRow
import Derived.Deep.WholeRow
import Derived.Deep.Draws
import Derived.Great.BuildSlice
import Derived.Laws.AppendOwnNone
import Derived.Laws.MakeOwn
import Derived.OwnWalk
section
namespace Go.Mem
open Go.RowKit
set_option linter.unusedSimpArgs false
set_option linter.unusedVariables false

/-! ### what stays -/
structure Keeps (S : Nat → Prop) (w w' : World) : Prop where
  os : w'.os = w.os
  tape : w'.tape = w.tape
  output : w'.output = w.output
  size : w.heap.size ≤ w'.heap.size
  block : ∀ k, k < w.heap.size → ¬ S k → w'.heap[k]? = w.heap[k]?
section
variable {S S' : Nat → Prop} {a w w' w'' : World}
theorem Keeps.refl (S : Nat → Prop) (w : World) : Keeps S w w := ⟨rfl, rfl, rfl, Nat.le_refl _, fun _ _ _ => rfl⟩
theorem Keeps.mono (h : Keeps S w w') (hs : ∀ k, k < w.heap.size → S k → S' k) : Keeps S' w w' := ⟨h.os, h.tape, h.output, h.size, fun k hk hn => h.block k hk (fun hh => hn (hs k hk hh))⟩
theorem Keeps.trans (h : Keeps S w w') (h' : Keeps S' w' w'') (hs : ∀ k, k < w.heap.size → S' k → S k) : Keeps S w w'' :=
  ⟨h'.os.trans h.os, h'.tape.trans h.tape, h'.output.trans h.output, Nat.le_trans h.size h'.size, fun k hk hn => (h'.block k (Nat.lt_of_lt_of_le hk h.size) (fun hh => hn (hs k hk hh))).trans (h.block k hk hn)⟩
theorem Keeps.alloc (h : Keeps S a w) (o : Obj) : Keeps S a (w.alloc o) := h.trans (S' := S) ⟨rfl, rfl, rfl, by simp, fun k hk _ => heap_alloc_old w o k hk⟩ (fun _ _ h => h)
theorem Keeps.drew (h : Keeps S a w) : Keeps S a w.drew := ⟨h.os, h.tape, h.output, h.size, h.block⟩
theorem Keeps.drewN (h : Keeps S a w) (n : Nat) : Keeps S a (w.drewN n) := ⟨h.os, h.tape, h.output, h.size, h.block⟩
theorem Keeps.setCell (h : Keeps S a w) {p : Addr} (hp : p.block < a.heap.size → S p.block) (u : Value) : Keeps S a (w.setCell p u) :=
  h.trans (S' := (· = p.block)) ⟨rfl, rfl, rfl, by simp [World.setCell], fun k _ hn => Below.heap_setCell _ _ _ _ hn⟩ (fun k hk e => by subst e; exact hp hk)
theorem Keeps.set1 (w : World) (b i : Nat) (v : Value) : Keeps (· = b) w (w.setCell ⟨b, i, none⟩ v) := ⟨rfl, rfl, rfl, by simp [World.setCell], fun k _ hn => Below.heap_setCell _ _ _ _ hn⟩
theorem Keeps.grown {row : Option Nat} (h : Keeps S a w) (hg : w.grownBy w' row) (hr : ∀ k, row = some k → k < a.heap.size → S k) : Keeps S a w' :=
  h.trans (S' := fun k => row = some k) ⟨hg.os, hg.tape, hg.output, hg.size, fun k hk hn => hg.block k hk (fun e => hn e.symm)⟩ (fun k hk e => hr k e hk)
theorem Keeps.below (h : Keeps (fun _ => False) w w') : Below w.heap.size w w' := ⟨h.os, h.tape, h.output, h.size, fun k hk => h.block k hk (fun h => h)⟩
theorem Keeps.of_below {B : Nat} (h : Below B w w') : Keeps (fun k => B ≤ k) w w' := ⟨h.os, h.tape, h.output, h.size, fun k _ hn => h.block k (by omega)⟩
theorem Keeps.heap {k : Nat} {o : Obj} (h : Keeps S w w') (hb : w.heap[k]? = some o) (hn : ¬ S k) : w'.heap[k]? = some o := by
  rw [h.block k (Array.getElem?_eq_some_iff.1 hb).1 hn]; exact hb
theorem Keeps.cell {p : Addr} {v : Value} (h : Keeps S w w') (hc : w.cell? p = some v) (hn : ¬ S p.block) : w'.cell? p = some v := by
  rw [World.cell?_of_block (h.block p.block (World.block_lt_of_cell? w p hc) hn)]; exact hc
end
theorem lt_of {w : World} {b : Nat} {o : Obj} (h : w.heap[b]? = some o) : b < w.heap.size := (Array.getElem?_eq_some_iff.1 h).1
theorem ne_new {w : World} {b : Nat} {o : Obj} (h : w.heap[b]? = some o) : b ≠ w.heap.size := Nat.ne_of_lt (lt_of h)

/-! ### a row of one's own -/
def OwnRow (w : World) (ok : Nat → Prop) (e : TypeId) (sz : Nat) (v : Value) (n : Nat) (cs : List Value) : Prop := w.ownsRow 0 e sz v n cs ∧ ∀ k, v.ownBlock = some k → ok k
section
variable {w w' : World} {ok : Nat → Prop} {e : TypeId} {sz : Nat} {v : Value} {n : Nat} {cs : List Value}
theorem OwnRow.nil (w : World) (ok : Nat → Prop) (e : TypeId) (sz : Nat) : OwnRow w ok e sz (.slice none 0 0) 0 [] := ⟨World.ownsRow_nil w 0 e sz, fun k hk => by simp [Value.ownBlock] at hk⟩
theorem OwnRow.mono {ok' : Nat → Prop} (h : OwnRow w ok e sz v n cs) (ho : ∀ k, k < w.heap.size → ok k → ok' k) : OwnRow w ok' e sz v n cs := ⟨h.1, fun k hk => ho k (h.1.lt k hk).2 (h.2 k hk)⟩
theorem OwnRow.lt (h : OwnRow w ok e sz v n cs) : ∀ k, v.ownBlock = some k → k < w.heap.size := fun k hk => (h.1.lt k hk).2
theorem OwnRow.kept {S : Nat → Prop} (h : OwnRow w ok e sz v n cs) (hk : Keeps S w w') (hn : ∀ k, ok k → ¬ S k) : OwnRow w' ok e sz v n cs := by
  refine ⟨⟨h.1.1, ?_⟩, h.2⟩
  rcases h.1.2 with h1 | ⟨g, cap, cur, rfl, hb, hg, rest⟩
  · exact .inl h1
  · exact .inr ⟨g, cap, cur, rfl, hb, hk.heap hg (hn g (h.2 g rfl)), rest⟩
/-- Its form where it is not empty. -/
theorem OwnRow.form (h : OwnRow w ok e sz v n cs) (hn : 0 < n) : ∃ g cap cur, v = .slice (some ⟨g, 0, none⟩) n cap ∧ ok g ∧ w.heap[g]? = some (.cells cur e (0, 0)) ∧ n ≤ cap ∧ cap ≤ maxLen ∧ cur.size = cap * sz ∧ cur.toList.take (n * sz) = cs := by
  rcases h.1.2 with ⟨_, h1⟩ | ⟨g, cap, cur, rfl, hb, hg, rest⟩
  · omega
  · exact ⟨g, cap, cur, rfl, h.2 g rfl, hg, rest⟩
theorem OwnRow.slice (h : OwnRow w ok e sz v n cs) : ∃ A c, v = .slice A n c ∧ n ≤ c ∧ c ≤ maxLen ∧ (A = none → n = 0 ∧ c = 0) := by
  rcases h.1.2 with ⟨h1, h2⟩ | ⟨g, cap, cur, rfl, hb, hg, h1, h2, _⟩
  · subst h2; exact ⟨none, 0, h1, Nat.le_refl _, by simp [maxLen], fun _ => ⟨rfl, rfl⟩⟩
  · exact ⟨some ⟨g, 0, none⟩, cap, rfl, h1, h2, fun h => by cases h⟩
theorem OwnRow.len (h : OwnRow w ok e sz v n cs) : cs.length = n * sz := h.1.1
theorem OwnRow.cells (h : OwnRow w ok e sz v n cs) {g m c : Nat} (hv : v = .slice (some ⟨g, 0, none⟩) m c) : ∀ j u, cs[j]? = some u → w.cell? ⟨g, j, none⟩ = some u := fun j u hu => by
  have := h.1.cells (g := g) (by rw [hv]; rfl) j u hu
  rwa [Addr.add_mid, Nat.zero_add] at this
end

/-! ### a slice that is read -/
/-- v is a slice of n elements, whose cells are cs, in a block that is ok. -/
def Rd (w : World) (ok : Nat → Prop) (v : Value) (n : Nat) (cs : List Value) : Prop :=
  ∃ A c, v = .slice A n c ∧ n ≤ c ∧ (A = none → n = 0 ∧ c = 0) ∧ (cs = [] ∨ ∃ b o, A = some ⟨b, o, none⟩ ∧ ok b ∧ ∀ j u, cs[j]? = some u → w.cell? ⟨b, o + j, none⟩ = some u)
section
variable {w w' : World} {ok : Nat → Prop} {e : TypeId} {sz : Nat} {v : Value} {n : Nat} {cs : List Value}
theorem Rd.mono {ok' : Nat → Prop} (h : Rd w ok v n cs) (ho : ∀ k, ok k → ok' k) : Rd w ok' v n cs := by
  obtain ⟨A, c, h1, h2, h3, h4⟩ := h
  refine ⟨A, c, h1, h2, h3, h4.imp id ?_⟩
  rintro ⟨b, o, e1, e2, e3⟩
  exact ⟨b, o, e1, ho b e2, e3⟩
theorem Rd.kept {S : Nat → Prop} (h : Rd w ok v n cs) (hk : Keeps S w w') (hn : ∀ k, ok k → ¬ S k) : Rd w' ok v n cs := by
  obtain ⟨A, c, h1, h2, h3, h4⟩ := h
  refine ⟨A, c, h1, h2, h3, h4.imp id ?_⟩
  rintro ⟨b, o, e1, e2, e3⟩
  exact ⟨b, o, e1, e2, fun j u hu => hk.cell (e3 j u hu) (hn b e2)⟩
theorem Rd.nil (w : World) (ok : Nat → Prop) : Rd w ok (.slice none 0 0) 0 [] := ⟨none, 0, rfl, Nat.le_refl _, fun _ => ⟨rfl, rfl⟩, .inl rfl⟩
theorem OwnRow.rd (h : OwnRow w ok e sz v n cs) : Rd w ok v n cs := by
  rcases h.1.2 with ⟨h1, h2⟩ | ⟨g, cap, cur, rfl, hb, hg, h1, h2, h3, h4⟩
  · subst h2
    have : cs = [] := List.eq_nil_of_length_eq_zero (by have := h.1.1; omega)
    subst this
    rw [h1]; exact Rd.nil w ok
  · exact ⟨_, _, rfl, h1, fun h => (by cases h), .inr ⟨g, 0, rfl, h.2 g rfl, fun j u hu => by rw [Nat.zero_add]; exact h.cells rfl j u hu⟩⟩
/-- The slice that is read, written out; the cell of each place. -/
theorem Rd.slice (h : Rd w ok v n cs) : ∃ A c, v = .slice A n c ∧ n ≤ c ∧ (A = none → n = 0 ∧ c = 0) := by
  obtain ⟨A, c, h1, h2, h3, _⟩ := h
  exact ⟨A, c, h1, h2, h3⟩
theorem Rd.at (h : Rd w ok v n cs) (hc : cs ≠ []) : ∃ b o c, v = .slice (some ⟨b, o, none⟩) n c ∧ n ≤ c ∧ ok b ∧ ∀ j u, cs[j]? = some u → w.cell? ⟨b, o + j, none⟩ = some u := by
  obtain ⟨A, c, h1, h2, h3, h4⟩ := h
  rcases h4 with h4 | ⟨b, o, rfl, e2, e3⟩
  · exact (hc h4).elim
  · exact ⟨b, o, c, h1, h2, e2, e3⟩
/-- All that is read of it lies below. -/
theorem Rd.lt (h : Rd w ok v n cs) : Rd w (fun k => ok k ∧ k < w.heap.size) v n cs := by
  obtain ⟨A, c, h1, h2, h3, h4⟩ := h
  refine ⟨A, c, h1, h2, h3, ?_⟩
  by_cases hc : cs = []
  · exact .inl hc
  · rcases h4 with h4 | ⟨b, o, e1, e2, e3⟩
    · exact (hc h4).elim
    · refine .inr ⟨b, o, e1, ⟨e2, ?_⟩, e3⟩
      cases cs with
      | nil => exact (hc rfl).elim
      | cons x r => exact World.block_lt_of_cell? w ⟨b, o + 0, none⟩ (e3 0 x rfl)
end

/-! ### steps -/
section
variable {P : Program} {ops : Array Oper} {rest : List Oper} {op : Oper} {a : Act} {w : World} {Q : Exit → Act → World → Prop}
/-- A step at an operation that is walked. -/
theorem plain_ (hw : Region.wanted op (yielded ops a.tmps) = true) (h : ∀ K : Act → World → Prop, (∀ a w, wpList P ops Q rest a w → K a w) → op.wp P a w K Q) : wpList P ops Q (op :: rest) a w :=
  wpList_step fun K hK => by rw [if_pos hw]; exact h K hK
/-- Only at the operation that fills slot n. -/
theorem at_ (n : Nat) (_ : op.dst = some n) (k : wpList P ops Q (op :: rest) a w) : wpList P ops Q (op :: rest) a w := k
/-- Only at the store of this operand through that one. -/
theorem at_store (t : TypeId) (x y : Operand) (_ : op.op = .store t x y) (k : wpList P ops Q (op :: rest) a w) : wpList P ops Q (op :: rest) a w := k
theorem heap_setCells (b : Nat) : ∀ (vs : List Value) (o : Nat) (w : World) (k : Nat), k ≠ b → (w.setCells b o vs).heap[k]? = w.heap[k]?
  | [], _, _, _, _ => rfl
  | v :: r, o, w, k, h => by
    rw [World.setCells, heap_setCells b r (o + 1) _ k h]
    exact Below.heap_setCell _ _ _ _ h
theorem size_setCells (b : Nat) : ∀ (vs : List Value) (o : Nat) (w : World), (w.setCells b o vs).heap.size = w.heap.size
  | [], _, _ => rfl
  | v :: r, o, w => by rw [World.setCells, size_setCells b r (o + 1)]; simp [World.setCell]
theorem rest_setCells (b : Nat) : ∀ (vs : List Value) (o : Nat) (w : World), (w.setCells b o vs).os = w.os ∧ (w.setCells b o vs).tape = w.tape ∧ (w.setCells b o vs).output = w.output
  | [], _, _ => ⟨rfl, rfl, rfl⟩
  | v :: r, o, w => by rw [World.setCells]; exact rest_setCells b r (o + 1) _
theorem Keeps.setCells (w : World) (b o : Nat) (vs : List Value) : Keeps (· = b) w (w.setCells b o vs) :=
  ⟨(rest_setCells b vs o w).1, (rest_setCells b vs o w).2.1, (rest_setCells b vs o w).2.2, by rw [size_setCells]; exact Nat.le_refl _, fun k _ hn => heap_setCells b vs o w k hn⟩
/-- The cells cs with vs put in from place o on. -/
def put (cs : List Value) (o : Nat) (vs : List Value) : List Value := cs.take o ++ vs ++ cs.drop (o + vs.length)
theorem put_whole {cs vs : List Value} (h : vs.length = cs.length) : put cs 0 vs = vs := by
  unfold put
  rw [List.take_zero, List.nil_append, Nat.zero_add, h, List.drop_length, List.append_nil]
theorem put_len {cs vs : List Value} {o : Nat} (h : o + vs.length ≤ cs.length) : (put cs o vs).length = cs.length := by
  unfold put
  rw [List.length_append, List.length_append, List.length_take, List.length_drop]; omega
theorem set_put (cs : List Value) (o : Nat) (v : Value) (r : List Value) (h : o + (r.length + 1) ≤ cs.length) : put (cs.set o v) (o + 1) r = put cs o (v :: r) := by
  have := list_seg_step cs o v r h
  unfold put
  rw [this, List.length_cons]
theorem block_setCells (b : Nat) (t : TypeId) : ∀ (vs : List Value) (o : Nat) (w : World) (cs : List Value), w.heap[b]? = some (.cells cs.toArray t (0, 0)) → o + vs.length ≤ cs.length → (w.setCells b o vs).heap[b]? = some (.cells (put cs o vs).toArray t (0, 0))
  | [], o, w, cs, h, _ => by rw [World.setCells]; unfold put; simpa using h
  | v :: r, o, w, cs, h, hl => by
    rw [World.setCells]
    have h1 : (w.setCell ⟨b, o, none⟩ v).heap[b]? = some (.cells (cs.set o v).toArray t (0, 0)) := by
      rw [heap_setCell_same w b o _ t v h]
      simp
    rw [block_setCells b t r (o + 1) _ (cs.set o v) h1 (by simp at hl ⊢; omega), set_put cs o v r (by simpa using hl)]
theorem there_of_block {b o n : Nat} {cs : List Value} {t : TypeId} (h : w.heap[b]? = some (.cells cs.toArray t (0, 0))) (hl : o + n ≤ cs.length) : w.there b o n := fun j hj => by
  refine ⟨?_, frozen_of_row w b (o + j) _ t h⟩
  rw [cell_of_row w b (o + j) _ t (0, 0) h]
  have : o + j < cs.length := by omega
  simp [this]
/-- A whole array or struct is stored into a block. -/
theorem step_store (hgd : Region.wanted op (yielded ops a.tmps) = true) (ty : TypeId) (x y : Operand) (ho : op.op = .store ty x y) (b o : Nat) (vs cs : List Value) (t : TypeId)
    (hx : a.eval x = .pointer (some ⟨b, o, none⟩)) (hy : a.eval y = .agg vs.toArray) (hb : w.heap[b]? = some (.cells cs.toArray t (0, 0))) (hl : o + vs.length ≤ cs.length)
    (hi : (P.info? ty).map (·.size) = some vs.length) (h1 : vs.toArray.all (·.oneCell') = true)
    (h : ∀ w', w'.heap[b]? = some (.cells (put cs o vs).toArray t (0, 0)) → Keeps (· = b) w w' → w'.heap.size = w.heap.size → wpList P ops Q rest (a.put op.dst undef) w') : wpList P ops Q (op :: rest) a w := by
  refine plain_ hgd fun K hK => wp_store_mid ty x y ho b o vs.toArray hx hy (by simpa using there_of_block hb hl) (by simpa using hi) h1 (hK _ _ ?_)
  exact h _ (block_setCells b t _ o w cs hb (by simpa using hl)) (Keeps.setCells w b o _) (size_setCells b _ o w)
/-- One cell is stored into a block. -/
theorem step_store1 (hgd : Region.wanted op (yielded ops a.tmps) = true) (ty : TypeId) (x y : Operand) (ho : op.op = .store ty x y) (b o : Nat) (v : Value) (cs : List Value) (t : TypeId)
    (hx : a.eval x = .pointer (some ⟨b, o, none⟩)) (hy : a.eval y = v) (hv : v.oneCell' = true) (hb : w.heap[b]? = some (.cells cs.toArray t (0, 0))) (hl : o < cs.length) (hi : (P.info? ty).map (·.size) = some 1)
    (h : ∀ w', w'.heap[b]? = some (.cells (cs.set o v).toArray t (0, 0)) → Keeps (· = b) w w' → w'.heap.size = w.heap.size → wpList P ops Q rest (a.put op.dst undef) w') : wpList P ops Q (op :: rest) a w := by
  refine plain_ hgd fun K hK => ?_
  have hcell : w.cell? ⟨b, o, none⟩ = some cs[o] := by rw [cell_of_row w b o _ t (0, 0) hb]; simp [hl]
  have hfro : w.frozen? ⟨b, o, none⟩ = false := frozen_of_row w b o _ t hb
  have hcs : v.cells = #[v] := by cases v <;> first | rfl | (simp [Value.oneCell'] at hv)
  unfold Oper.wp execOp
  have hr : (Instr.storeAt ty (.pointer (some ⟨b, o, none⟩)) v).run P w = .ok () (w.setCell ⟨b, o, none⟩ v) := by
    cases hq : P.info? ty with
    | none => simp [hq] at hi
    | some i =>
      have hs : i.size = 1 := by simpa [hq] using hi
      simp only [Instr.storeAt, Instr.sureAddr, Sem.run_bind, Sem.run_pure, Result.andThen_ok, Go.storeVar, hcs, Go.sizeOf, Go.typeInfo]
      simp only [Go.program, Sem.run, Result.andThen, hq]
      have hst : (Go.store ((⟨b, o, none⟩ : Addr).add 0) v).run P w = .ok () (w.setCell ⟨b, o, none⟩ v) := by
        rw [show (⟨b, o, none⟩ : Addr).add 0 = ⟨b, o, none⟩ from rfl, run_store P w _ v _ hv, hcell]
        simp [hfro]
      simp [hs, Go.storeCells, hst]
  simp only [ho, hx, hy, Sem.run_bind, hr, Result.andThen_ok, Sem.run_pure]
  refine hK _ _ (h _ ?_ ?_ ?_)
  · rw [heap_setCell_same w b o _ t v hb]; simp
  · exact (Keeps.refl (fun x => x = b) w).setCell (p := ⟨b, o, none⟩) (fun _ => rfl) v
  · simp [World.setCell]
/-- A whole array or struct is loaded out of a block. -/
theorem step_load (hgd : Region.wanted op (yielded ops a.tmps) = true) (ty : TypeId) (x : Operand) (ho : op.op = .load ty x) (b o : Nat) (vs cs : List Value) (t : TypeId) (fr : Nat × Nat) (d : TypeDesc)
    (hx : a.eval x = .pointer (some ⟨b, o, none⟩)) (hb : w.heap[b]? = some (.cells cs.toArray t fr)) (hv : (cs.drop o).take vs.length = vs)
    (hu : P.underlying ty = some d) (hd : d.isRow = true) (hi : (P.info? ty).map (·.size) = some vs.length)
    (h : wpList P ops Q rest (a.put op.dst (.agg vs.toArray)) w) : wpList P ops Q (op :: rest) a w := by
  refine plain_ hgd fun K hK => wp_load_mid ty x ho b o hx vs d (fun j u hu => ?_) hu hd hi (hK _ _ h)
  rw [cell_of_row w b (o + j) _ t fr hb]
  have hj : j < vs.length := (List.getElem?_eq_some_iff.1 hu).1
  rw [← hv, List.getElem?_take, if_pos hj, List.getElem?_drop] at hu
  simpa using hu
/-- The same where the cells are told one by one (a slice that is read). -/
theorem step_load_cells (hgd : Region.wanted op (yielded ops a.tmps) = true) (ty : TypeId) (x : Operand) (ho : op.op = .load ty x) (b o : Nat) (vs : List Value) (d : TypeDesc)
    (hx : a.eval x = .pointer (some ⟨b, o, none⟩)) (hc : ∀ j u, vs[j]? = some u → w.cell? ⟨b, o + j, none⟩ = some u)
    (hu : P.underlying ty = some d) (hd : d.isRow = true) (hi : (P.info? ty).map (·.size) = some vs.length)
    (h : wpList P ops Q rest (a.put op.dst (.agg vs.toArray)) w) : wpList P ops Q (op :: rest) a w :=
  plain_ hgd fun K hK => wp_load_mid ty x ho b o hx vs d hc hu hd hi (hK _ _ h)
/-- A new variable of a type whose zero is known. -/
theorem step_alloc (hgd : Region.wanted op (yielded ops a.tmps) = true) (ty : TypeId) (ho : op.op = .alloc ty) (z : Value) (zs : List Value) (hz : (P.info? ty).map (fun i => i.zero) = some (some z)) (hc : z.cells = zs.toArray)
    (h : ∀ w', w'.heap[w.heap.size]? = some (.cells zs.toArray ty (0, 0)) → Keeps (fun _ => False) w w' → w'.heap.size = w.heap.size + 1 → wpList P ops Q rest (a.put op.dst (.pointer (some ⟨w.heap.size, 0, none⟩))) w') : wpList P ops Q (op :: rest) a w := by
  refine plain_ hgd fun K hK => ?_
  have hr : (Instr.alloc ty true (.tuple #[])).run P w = .ok (.pointer (some ⟨w.heap.size, 0, none⟩)) (w.alloc (.cells zs.toArray ty)) := by
    cases hq : P.info? ty with
    | none => simp [hq] at hz
    | some i =>
      have hzi : i.zero = some z := by simpa [hq] using hz
      simp [Instr.alloc, zeroValue, typeInfo, hq, hzi, newVar, newRow, hc]
  unfold Oper.wp execOp
  simp only [ho, Sem.run_bind, hr, Result.andThen_ok, Sem.run_pure]
  exact hK _ _ (h _ (heap_alloc_new w _) ((Keeps.refl _ w).alloc _) (by simp))
/-- append to a row of one's own. -/
theorem step_append {ok : Nat → Prop} (hgd : Region.wanted op (yielded ops a.tmps) = true) (s x : Operand) (t : TypeId) (ho : op.op = .call { callee := .builtin .append, args := #[s, x], argTypes := #[t, t] })
    (e : TypeId) (z : Value) (sz by_ : Nat) (ht : P.underlying t = some (.slice e)) (hi : (P.info? e).map (fun i => (i.zero, i.size, i.bytes)) = some (some z, sz, by_)) (hzs : z.cells.size = sz) (hsz : 0 < sz)
    (v : Value) (n : Nat) (xs : List Value) (hs : a.eval s = v) (hown : OwnRow w ok e sz v n xs)
    (b o m c : Nat) (news : List Value) (hx : a.eval x = .slice (some ⟨b, o, none⟩) m c) (hl : news.length = m * sz) (hnews : ∀ j u, news[j]? = some u → w.cell? ⟨b, o + j, none⟩ = some u) (h1 : ∀ u ∈ news, u.oneCell' = true)
    (h63 : n + m ≤ maxLen) (hbytes : (n + m) * by_ ≤ 140737488355328)
    (h : ∀ v' w', OwnRow w' (fun k => ok k ∨ w.heap.size ≤ k) e sz v' (n + m) (xs ++ news) → Keeps (fun k => v.ownBlock = some k) w w' → (v' = .slice none 0 0 ↔ v = .slice none 0 0 ∧ m = 0) → wpList P ops Q rest (a.put op.dst v') w') : wpList P ops Q (op :: rest) a w := by
  cases hq : P.info? e with
  | none => simp [hq] at hi
  | some i =>
    obtain ⟨e1, e2, e3⟩ : i.zero = some z ∧ i.size = sz ∧ i.bytes = by_ := by simpa [hq] using hi
    -- what the new row's block is: the old row's, or new
    obtain ⟨v', w', hr, h2, h3, h4⟩ := run_append_own (P := P) w 0 t op.type e i z sz by_ ht hq e1 e2 e3 hzs hsz v n xs hown.1 ⟨b, o, none⟩ m c news hl (fun j u hu => by rw [Addr.add_mid]; exact hnews j u hu) h1 h63 hbytes (Nat.zero_le _)
    have hblk : ∀ k, v'.ownBlock = some k → v.ownBlock = some k ∨ w.heap.size ≤ k := by
      intro k hk
      rcases hown.1.2 with ⟨rfl, rfl⟩ | ⟨g, cap, cur, rfl, _, hg, hnc, hcm, hcs, htake⟩
      · obtain ⟨v2, w2, hr2, h22, _⟩ := run_append_own (P := P) w w.heap.size t op.type e i z sz by_ ht hq e1 e2 e3 hzs hsz (.slice none 0 0) 0 xs ⟨hown.1.1, .inl ⟨rfl, rfl⟩⟩ ⟨b, o, none⟩ m c news hl (fun j u hu => by rw [Addr.add_mid]; exact hnews j u hu) h1 h63 hbytes (Nat.le_refl _)
        rw [hr] at hr2
        simp only [Result.ok.injEq] at hr2
        obtain ⟨rfl, rfl⟩ := hr2
        exact .inr (h22.lt k hk).1
      · by_cases hroom : n + m ≤ cap
        · have hfit : n * i.size + news.length ≤ cur.size := by rw [hl, hcs, e2, ← Nat.add_mul]; exact Nat.mul_le_mul_right _ hroom
          have hr2 := run_append_room (P := P) w t op.type e i ht hq g n cap cur hg ⟨b, o, none⟩ m c news (by rw [e2]; exact hl) (fun j u hu => by rw [Addr.add_mid]; exact hnews j u hu) h1 hroom hfit
          rw [hr] at hr2
          simp only [Result.ok.injEq] at hr2
          obtain ⟨rfl, _⟩ := hr2
          exact .inl hk
        · have holds : ∀ j u, xs[j]? = some u → w.cell? ((⟨g, 0, none⟩ : Addr).add j) = some u := hown.1.cells (g := g) rfl
          have h63' : n + m ≤ 9223372036854775807 := by simp only [maxLen] at h63; omega
          have hr2 := run_append_grow (P := P) w t op.type e i z ht hq e1 ⟨g, 0, none⟩ n cap xs (by rw [e2]; exact hown.1.1) holds ⟨b, o, none⟩ m c news (by rw [e2]; exact hl) (fun j u hu => by rw [Addr.add_mid]; exact hnews j u hu) (by omega) (by omega) (growslice_fits (by omega) (by rw [e3]; exact hbytes))
          rw [hr] at hr2
          simp only [Result.ok.injEq] at hr2
          obtain ⟨rfl, _⟩ := hr2
          simp only [Value.ownBlock, Option.some.injEq] at hk
          exact .inr (by rw [← hk]; simp)
    refine plain_ hgd fun K hK => ?_
    unfold Oper.wp execOp
    simp only [ho, resolve, invoke, builtin, Sem.run_bind, Sem.run_pure, Result.andThen_ok, List.map_toArray, List.map_cons, List.map_nil, hs, hx, hr]
    refine hK _ _ (h v' w' ⟨h2, fun k hk => (hblk k hk).imp (hown.2 k) id⟩ ⟨h3.os, h3.tape, h3.output, h3.size, fun k hk hn => h3.block k hk (fun e => hn e.symm)⟩ h4)
/-- copy into a block, from a slice that is read. -/
theorem step_copy {ok : Nat → Prop} (hgd : Region.wanted op (yielded ops a.tmps) = true) (x y : Operand) (t t2 : TypeId) (ho : op.op = .call { callee := .builtin .copy, args := #[x, y], argTypes := #[t, t2] }) (e : TypeId) (ht : P.underlying t = some (.slice e)) (hi : (P.info? e).map (·.size) = some 1)
    (b o n c : Nat) (cs : List Value) (te : TypeId) (v : Value) (news : List Value) (hx : a.eval x = .slice (some ⟨b, o, none⟩) n c) (hy : a.eval y = v) (hr : Rd w ok v news.length news) (hn : news.length ≤ n)
    (hb : w.heap[b]? = some (.cells cs.toArray te (0, 0))) (hl : o + news.length ≤ cs.length) (h1 : ∀ v ∈ news, v.oneCell' = true)
    (h : ∀ w', w'.heap[b]? = some (.cells (put cs o news).toArray te (0, 0)) → Keeps (· = b) w w' → w'.heap.size = w.heap.size → wpList P ops Q rest (a.put op.dst (.int .i64 news.length)) w') : wpList P ops Q (op :: rest) a w := by
  obtain ⟨A, c2, rfl, h2, h3, h4⟩ := hr
  have hrun : ∃ w', (Builtin.copy_ #[t, t2] op.type #[.slice (some ⟨b, o, none⟩) n c, .slice A news.length c2]).run P w = .ok (goInt news.length) w' ∧ w'.heap[b]? = some (.cells (put cs o news).toArray te (0, 0)) ∧ Keeps (· = b) w w' ∧ w'.heap.size = w.heap.size := by
    cases A with
    | none =>
      obtain ⟨e1, e2⟩ := h3 rfl
      have e3 : news = [] := List.eq_nil_of_length_eq_zero e1
      subst e3
      subst e2
      refine ⟨w, run_copy_nil P w t t2 op.type e ⟨b, o, none⟩ n c ht (by rw [hi]; rfl), ?_, Keeps.refl _ w, rfl⟩
      rw [hb]; unfold put; simp
    | some ad =>
      have hcells : ∀ j u, news[j]? = some u → w.cell? (ad.add j) = some u := by
        intro j u hu
        rcases h4 with h4 | ⟨b', o', e1, _, e3⟩
        · rw [h4] at hu; simp at hu
        · cases e1
          rw [Addr.add_mid]; exact e3 j u hu
      have hr := run_copy_row P w t t2 op.type e b o n c ad news.length c2 cs.toArray te news ht hi hb (by simp [hn]) hcells (by simpa using hl) h1
      refine ⟨_, hr, ?_, ?_, ?_⟩
      · rw [setRow_heap w b cs.toArray _ te _ hb]; rfl
      · exact ⟨rfl, rfl, rfl, by simp, fun k _ hk => setRow_other w b k _ hk⟩
      · simp
  obtain ⟨w', hr, h5, h6, h7⟩ := hrun
  refine plain_ hgd fun K hK => ?_
  unfold Oper.wp execOp
  simp only [ho, resolve, invoke, builtin, Sem.run_bind, Sem.run_pure, Result.andThen_ok, List.map_toArray, List.map_cons, List.map_nil, hx, hy, hr]
  exact hK _ _ (h w' h5 h6 h7)
/-- A struct or an array is built of what is known. -/
theorem step_build (hgd : Region.wanted op (yielded ops a.tmps) = true) (ty : TypeId) (ps : Array (Nat × Operand)) (ho : op.op = .build ty ps) (vs : List (Nat × Value)) (hv : (ps.toList.map fun (i, x) => (i, a.eval x)) = vs) (r : Value) (hr : ∀ w, (Instr.build ty vs.toArray).run P w = .ok r w)
    (h : wpList P ops Q rest (a.put op.dst r) w) : wpList P ops Q (op :: rest) a w := by
  refine plain_ hgd fun K hK => ?_
  unfold Oper.wp execOp
  simp only [ho]
  rw [show (ps.map fun (i, x) => (i, a.eval x)) = vs.toArray by apply Array.ext'; rw [Array.toList_map]; exact hv]
  simp only [Sem.run_bind, hr, Result.andThen_ok, Sem.run_pure]
  exact hK _ _ h
/-- A slice literal of some elements of sz cells each: a new block. -/
theorem step_lit (hgd : Region.wanted op (yielded ops a.tmps) = true) (ty : TypeId) (ps : Array (Nat × Operand)) (n : Nat) (ho : op.op = .buildSlice ty n ps) (vs : List Value) (hv : (ps.toList.map fun (i, x) => (i, a.eval x)) = (vs.zipIdx 0).map fun x => (x.2, x.1)) (hn : n = vs.length) (hpos : 0 < n) (e : TypeId) (z : Value) (sz : Nat)
    (hu : P.underlying ty = some (.slice e)) (hi : (P.info? e).map (fun i => (i.zero, i.size)) = some (some z, sz)) (hsz : 0 < sz) (hsm : n * sz ≤ 16777216) (h1 : ∀ v ∈ vs, v.cells.size = sz)
    (h : ∀ w', w'.heap[w.heap.size]? = some (.cells (vs.flatMap fun v => v.cells.toList).toArray e (0, 0)) → Keeps (fun _ => False) w w' → w'.heap.size = w.heap.size + 1 → wpList P ops Q rest (a.put op.dst (.slice (some ⟨w.heap.size, 0, none⟩) n n)) w') : wpList P ops Q (op :: rest) a w := by
  cases hq : P.info? e with
  | none => simp [hq] at hi
  | some i =>
    obtain ⟨e1, e2⟩ : i.zero = some z ∧ i.size = sz := by simpa [hq] using hi
    have hp : 0 < n * sz := Nat.mul_pos hpos hsz
    refine plain_ hgd fun K hK => wp_buildSlice ty e n ps ho _ i z hu hq e1 (by rw [e2]; omega) (by rw [e2]; omega) ?_ (hK _ _ (h _ (heap_alloc_new w _) ((Keeps.refl _ w).alloc _) (by simp)))
    rw [Array.toList_map, hv, e2]
    exact Great.fill_whole hsz vs _ h1 (by simp [hn])
/-- make([]T, n): a new block of noughts. -/
theorem step_make (hgd : Region.wanted op (yielded ops a.tmps) = true) (l c : Operand) (t : TypeId) (ho : op.op = .makeSlice t l c) (e : TypeId) (z : Value) (sz by_ : Nat) (ht : P.underlying t = some (.slice e)) (hi : (P.info? e).map (fun i => (i.zero, i.size, i.bytes)) = some (some z, sz, by_))
    (kl kc : IntKind) (n : Nat) (hl : a.eval l = .int kl (n : Int)) (hc : a.eval c = .int kc (n : Int)) (hb : by_ * n ≤ 281474976710656) (hm : n ≤ maxLen)
    (h : ∀ w', w'.heap[w.heap.size]? = some (.cells (madeCells z.cells (n * sz)) e (0, 0)) → Keeps (fun _ => False) w w' → wpList P ops Q rest (a.put op.dst (.slice (some ⟨w.heap.size, 0, none⟩) n n)) w') : wpList P ops Q (op :: rest) a w := by
  cases hq : P.info? e with
  | none => simp [hq] at hi
  | some i =>
    obtain ⟨e1, e2, e3⟩ : i.zero = some z ∧ i.size = sz ∧ i.bytes = by_ := by simpa [hq] using hi
    obtain ⟨w', hrun, hw, hg⟩ := run_make_full (P := P) w 0 t e i z sz ht hq e1 e2 kl kc n (by rw [e3]; exact hb) hm (Nat.zero_le _)
    refine plain_ hgd fun K hK => ?_
    unfold Oper.wp execOp
    simp only [ho, hl, hc, Sem.run_bind, hrun, Result.andThen_ok, Sem.run_pure]
    refine hK _ _ (h w' ?_ ⟨hg.os, hg.tape, hg.output, hg.size, fun k hk _ => hg.block k hk (by simp)⟩)
    rcases hw.2 with ⟨h1, _⟩ | ⟨g, cap, cur, h1, _, h2, _, _, h3, h4⟩
    · cases h1
    · cases h1
      rw [h2]
      congr 2
      apply Array.ext'
      rw [← h4, List.take_of_length_le (by rw [Array.length_toList, h3]; exact Nat.le_refl _)]
/-- append of a whole slice that is read to a row of one's own. -/
theorem step_append_rd {ok ok2 : Nat → Prop} (hgd : Region.wanted op (yielded ops a.tmps) = true) (s x : Operand) (t : TypeId) (ho : op.op = .call { callee := .builtin .append, args := #[s, x], argTypes := #[t, t] })
    (e : TypeId) (z : Value) (sz by_ : Nat) (ht : P.underlying t = some (.slice e)) (hi : (P.info? e).map (fun i => (i.zero, i.size, i.bytes)) = some (some z, sz, by_)) (hzs : z.cells.size = sz) (hsz : 0 < sz)
    (v : Value) (n : Nat) (xs : List Value) (hs : a.eval s = v) (hown : OwnRow w ok e sz v n xs)
    (xv : Value) (m : Nat) (news : List Value) (hx : a.eval x = xv) (hr : Rd w ok2 xv m news) (hl : news.length = m * sz) (h1 : ∀ u ∈ news, u.oneCell' = true)
    (h63 : n + m ≤ maxLen) (hbytes : (n + m) * by_ ≤ 140737488355328)
    (h : ∀ v' w', OwnRow w' (fun k => ok k ∨ w.heap.size ≤ k) e sz v' (n + m) (xs ++ news) → Keeps (fun k => v.ownBlock = some k) w w' → wpList P ops Q rest (a.put op.dst v') w') : wpList P ops Q (op :: rest) a w := by
  obtain ⟨A, c, rfl, h2, h3, h4⟩ := hr
  cases A with
  | none =>
    obtain ⟨rfl, rfl⟩ := h3 rfl
    have e0 : news = [] := List.eq_nil_of_length_eq_zero (by omega)
    subst e0
    cases hq : P.info? e with
    | none => simp [hq] at hi
    | some i =>
      obtain ⟨e1, e2, e3⟩ : i.zero = some z ∧ i.size = sz ∧ i.bytes = by_ := by simpa [hq] using hi
      obtain ⟨v', w', hr, hh⟩ : ∃ v' w', (Builtin.append_ #[t, t] op.type #[v, .slice none 0 0]).run P w = .ok v' w' ∧ v' = v ∧ w' = w := by
        rcases hown.1.2 with ⟨rfl, _⟩ | ⟨g, cap, cur, rfl, _, _, hnc, _⟩
        · exact ⟨_, _, by simp [Builtin.append_, run_underlying ht, sizeOf, typeInfo, hq, Builtin.lenOf, Builtin.firstCells, loadCells, loadCellsFrom], rfl, rfl⟩
        · exact ⟨_, _, by simp [Builtin.append_, run_underlying ht, sizeOf, typeInfo, hq, Builtin.lenOf, Builtin.firstCells, loadCells, loadCellsFrom, hnc, storeCells], rfl, rfl⟩
      obtain ⟨rfl, rfl⟩ := hh
      refine plain_ hgd fun K hK => ?_
      unfold Oper.wp execOp
      simp only [ho, resolve, invoke, builtin, Sem.run_bind, Sem.run_pure, Result.andThen_ok, List.map_toArray, List.map_cons, List.map_nil, hs, hx, hr]
      refine hK _ _ (h v' w' ?_ (Keeps.refl _ _))
      simp only [Nat.add_zero, List.append_nil]
      exact hown.mono (fun k _ hk => .inl hk)
  | some ad =>
    cases hq : P.info? e with
    | none => simp [hq] at hi
    | some i =>
      by_cases hne : news = []
      · subst hne
        have hm0 : m = 0 := by
          have : m * sz = 0 := by simpa using hl.symm
          rcases Nat.mul_eq_zero.1 this with h | h
          · exact h
          · omega
        subst hm0
        obtain ⟨e1, e2, e3⟩ : i.zero = some z ∧ i.size = sz ∧ i.bytes = by_ := by simpa [hq] using hi
        obtain ⟨v', w', hr, hh⟩ : ∃ v' w', (Builtin.append_ #[t, t] op.type #[v, .slice (some ad) 0 c]).run P w = .ok v' w' ∧ v' = v ∧ w' = w := by
          rcases hown.1.2 with ⟨rfl, _⟩ | ⟨g, cap, cur, rfl, _, _, hnc, _⟩
          · exact ⟨_, _, by simp [Builtin.append_, run_underlying ht, sizeOf, typeInfo, hq, Builtin.lenOf, Builtin.firstCells, loadCells, loadCellsFrom], rfl, rfl⟩
          · exact ⟨_, _, by simp [Builtin.append_, run_underlying ht, sizeOf, typeInfo, hq, Builtin.lenOf, Builtin.firstCells, loadCells, loadCellsFrom, hnc, storeCells], rfl, rfl⟩
        obtain ⟨rfl, rfl⟩ := hh
        refine plain_ hgd fun K hK => ?_
        unfold Oper.wp execOp
        simp only [ho, resolve, invoke, builtin, Sem.run_bind, Sem.run_pure, Result.andThen_ok, List.map_toArray, List.map_cons, List.map_nil, hs, hx, hr]
        refine hK _ _ (h v' w' ?_ (Keeps.refl _ _))
        simp only [Nat.add_zero, List.append_nil]
        exact hown.mono (fun k _ hk => .inl hk)
      · obtain ⟨b, o, e1, _, e3⟩ := h4.resolve_left hne
        cases e1
        exact step_append hgd s x t ho e z sz by_ ht hi hzs hsz v n xs hs hown b o m c news hx hl e3 h1 h63 hbytes (fun v' w' g1 g2 _ => h v' w' g1 g2)
/-- A value is laid into a new variable. -/
theorem step_box (hgd : Region.wanted op (yielded ops a.tmps) = true) (ty : TypeId) (x : Operand) (ho : op.op = .box ty x) (v : Value) (hx : a.eval x = v) (cs : List Value) (hc : v.cells = cs.toArray)
    (h : ∀ w', w'.heap[w.heap.size]? = some (.cells cs.toArray ty (0, 0)) → Keeps (fun _ => False) w w' → w'.heap.size = w.heap.size + 1 → wpList P ops Q rest (a.put op.dst (.pointer (some ⟨w.heap.size, 0, none⟩))) w') : wpList P ops Q (op :: rest) a w := by
  refine plain_ hgd fun K hK => ?_
  have hr : (Instr.box ty v).run P w = .ok (.pointer (some ⟨w.heap.size, 0, none⟩)) (w.alloc (.cells cs.toArray ty)) := by
    simp [Instr.box, newVar, newRow, hc]
  unfold Oper.wp execOp
  simp only [ho, hx, Sem.run_bind, hr, Result.andThen_ok, Sem.run_pure]
  exact hK _ _ (h _ (heap_alloc_new w _) ((Keeps.refl _ w).alloc _) (by simp))
end
end Go.Mem
end

section
namespace Go.Disk
open Go.RowKit Go.Mem

/-! ### plain data -/
def bytes8 (l : List Int) : List Value := l.map (Value.int .u8)
def flat (l : List (List Int)) : List Value := l.flatMap bytes8
def opens (l : List (Int × List Int)) : List Value := l.flatMap fun p => Value.int .i64 p.1 :: bytes8 p.2
@[irreducible] def zsec : List Int := List.replicate 64 0
theorem zsec_len : zsec.length = 64 := by unfold zsec; simp
/-- A text as a sector: filled up with noughts. -/
def pad (l : List Int) : List Int := l ++ zsec.drop l.length
theorem pad_len {l : List Int} (h : l.length ≤ 64) : (pad l).length = 64 := by unfold pad; rw [List.length_append, List.length_drop, zsec_len]; omega
theorem bytes8_len (l : List Int) : (bytes8 l).length = l.length := by simp [bytes8]
theorem bytes8_append (a b : List Int) : bytes8 (a ++ b) = bytes8 a ++ bytes8 b := by simp [bytes8]
theorem bytes8_one (l : List Int) : ∀ v ∈ bytes8 l, v.oneCell' = true := fun v hv => by
  obtain ⟨x, _, rfl⟩ := List.mem_map.1 hv; rfl

structure St where
  fast : List (List Int)
  now : List (List Int)
  opn : List (Int × List Int)
  armed : Bool
  left : Int
  off : Bool
structure St.Ok (s : St) : Prop where
  len : s.fast.length = s.now.length
  pos : 1 ≤ s.now.length
  most : s.now.length ≤ 4096
  f64 : ∀ x ∈ s.fast, x.length = 64
  n64 : ∀ x ∈ s.now, x.length = 64
  o64 : ∀ p ∈ s.opn, p.2.length = 64 ∧ 0 ≤ p.1 ∧ p.1 < s.now.length
  left0 : 0 ≤ s.left
  left1 : s.left ≤ 9223372036854775807

theorem flat_len {l : List (List Int)} (h : ∀ x ∈ l, x.length = 64) : (flat l).length = l.length * 64 := by
  induction l with
  | nil => rfl
  | cons x r ih =>
    unfold flat at *
    rw [List.flatMap_cons, List.length_append, ih (fun y hy => h y (List.mem_cons_of_mem _ hy)), bytes8_len, h x List.mem_cons_self, List.length_cons]
    omega
theorem flat_at {l : List (List Int)} (h : ∀ x ∈ l, x.length = 64) : ∀ (i : Nat) (x : List Int), l[i]? = some x → ((flat l).drop (i * 64)).take 64 = bytes8 x := by
  induction l with
  | nil => intro i x hx; simp at hx
  | cons y r ih =>
    intro i x hx
    have hy := h y List.mem_cons_self
    unfold flat at *
    rw [List.flatMap_cons]
    cases i with
    | zero =>
      simp only [List.getElem?_cons_zero, Option.some.injEq] at hx
      subst hx
      rw [Nat.zero_mul, List.drop_zero, List.take_append_of_le_length (by rw [bytes8_len, hy]; exact Nat.le_refl _), List.take_of_length_le (by rw [bytes8_len, hy]; exact Nat.le_refl _)]
    | succ i =>
      rw [List.getElem?_cons_succ] at hx
      rw [show (i + 1) * 64 = (bytes8 y).length + i * 64 by rw [bytes8_len, hy]; omega, ← List.drop_drop, List.drop_left]
      exact ih (fun z hz => h z (List.mem_cons_of_mem _ hz)) i x hx
theorem flat_set {l : List (List Int)} (h : ∀ x ∈ l, x.length = 64) : ∀ (i : Nat) (x : List Int), i < l.length → x.length = 64 → put (flat l) (i * 64) (bytes8 x) = flat (l.set i x) := by
  induction l with
  | nil => intro i x hi; simp at hi
  | cons y r ih =>
    intro i x hi hx
    have hy := h y List.mem_cons_self
    unfold flat put at *
    cases i with
    | zero =>
      rw [List.flatMap_cons, Nat.zero_mul, List.take_zero, List.nil_append, Nat.zero_add, bytes8_len, hx, List.set_cons_zero, List.flatMap_cons]
      congr 1
      have : (64 : Nat) = (bytes8 y).length := by rw [bytes8_len, hy]
      rw [this, List.drop_left]
    | succ i =>
      have e : (i + 1) * 64 = (bytes8 y).length + i * 64 := by rw [bytes8_len, hy]; omega
      rw [List.flatMap_cons, List.set_cons_succ, List.flatMap_cons, e, List.take_append, List.take_of_length_le (by omega), Nat.add_sub_cancel_left, Nat.add_assoc, ← List.drop_drop, List.drop_left, List.append_assoc, List.append_assoc]
      congr 1
      have h2 := ih (fun z hz => h z (List.mem_cons_of_mem _ hz)) i x (by simpa using hi) hx
      rw [List.append_assoc] at h2
      exact h2
theorem opens_len {l : List (Int × List Int)} (h : ∀ p ∈ l, p.2.length = 64) : (opens l).length = l.length * 65 := by
  induction l with
  | nil => rfl
  | cons x r ih =>
    unfold opens at *
    rw [List.flatMap_cons, List.length_append, ih (fun y hy => h y (List.mem_cons_of_mem _ hy)), List.length_cons, bytes8_len, h x List.mem_cons_self, List.length_cons]
    omega
theorem opens_at {l : List (Int × List Int)} (h : ∀ p ∈ l, p.2.length = 64) : ∀ (i : Nat) (p : Int × List Int), l[i]? = some p → ((opens l).drop (i * 65)).take 65 = Value.int .i64 p.1 :: bytes8 p.2 := by
  induction l with
  | nil => intro i x hx; simp at hx
  | cons y r ih =>
    intro i x hx
    have hy := h y List.mem_cons_self
    have hl : (Value.int .i64 y.1 :: bytes8 y.2).length = 65 := by rw [List.length_cons, bytes8_len, hy]
    unfold opens at *
    rw [List.flatMap_cons]
    cases i with
    | zero =>
      simp only [List.getElem?_cons_zero, Option.some.injEq] at hx
      subst hx
      rw [Nat.zero_mul, List.drop_zero, List.take_append_of_le_length (by omega), List.take_of_length_le (by omega)]
    | succ i =>
      rw [List.getElem?_cons_succ] at hx
      rw [show (i + 1) * 65 = (Value.int .i64 y.1 :: bytes8 y.2).length + i * 65 by rw [hl]; omega, ← List.drop_drop, List.drop_left]
      exact ih (fun z hz => h z (List.mem_cons_of_mem _ hz)) i x hx
theorem opens_snoc (l : List (Int × List Int)) (p : Int × List Int) : opens l ++ (Value.int .i64 p.1 :: bytes8 p.2) = opens (l ++ [p]) := by simp [opens]

/-! ### what each method does -/
/-- A step counts, or the power goes off. -/
def St.step (s : St) : Bool × St := if s.armed && s.left == 0 then (false, { s with off := true }) else if s.armed then (true, { s with left := s.left - 1 }) else (true, s)
def St.arm (s : St) (n : Int) : Int × St := if s.off then (14, s) else if n < 0 then (2, s) else (0, { s with armed := true, left := n })
def St.at_ (s : St) (i : Int) : Option (List Int) := if 0 ≤ i then s.now[i.toNat]? else none
def St.read (s : St) (i : Int) : List Int × Int := if s.off then ([], 14) else match s.at_ i with
  | some x => (x, 0)
  | none => ([], 2)
def St.write (s : St) (i : Int) (b : List Int) : Int × St := if s.off then (14, s) else if i < 0 ∨ s.now.length ≤ i ∨ 64 < b.length then (2, s) else
  if s.step.1 = true then (0, { s.step.2 with now := s.now.set i.toNat (pad b), opn := s.opn ++ [(i, pad b)] }) else (14, s.step.2)
/-- What is written is fast. -/
def St.settle (now : List (List Int)) (fast : List (List Int)) (l : List (Int × List Int)) : List (List Int) := l.foldl (fun f p => f.set p.1.toNat (now.getD p.1.toNat [])) fast
def St.sync (s : St) : Int × St := if s.off then (14, s) else if s.step.1 = true then (0, { s.step.2 with fast := St.settle s.now s.fast s.opn, opn := [] }) else (14, s.step.2)
/-- Of what is open that is kept which is told so. -/
def St.keep (keep : List Bool) : Nat → List (List Int) → List (Int × List Int) → List (List Int)
  | _, f, [] => f
  | k, f, p :: r => St.keep keep (k + 1) (if keep.getD k false = true then f.set p.1.toNat p.2 else f) r
def St.crash (s : St) (keep : List Bool) : St :=
  { fast := St.keep keep 0 s.fast s.opn, now := St.settle (St.keep keep 0 s.fast s.opn) s.now s.opn, opn := [], armed := false, left := 0, off := false }

/-! ### in memory -/
abbrev dcells (F N n : Nat) (vo : Value) (s : St) : List Value := [.slice (some ⟨F, 0, none⟩) n n, .slice (some ⟨N, 0, none⟩) n n, vo, .bool s.armed, .int .i64 s.left, .bool s.off]
/-- The parts of a disk at block g: its own block and those of its rows, all in S. -/
structure Parts (tD tS tW : TypeId) (w : World) (S : Nat → Prop) (g F N : Nat) (vo : Value) (s : St) : Prop where
  blk : w.heap[g]? = some (.cells (dcells F N s.now.length vo s).toArray tD (0, 0))
  bF : w.heap[F]? = some (.cells (flat s.fast).toArray tS (0, 0))
  bN : w.heap[N]? = some (.cells (flat s.now).toArray tS (0, 0))
  own : OwnRow w (fun k => S k ∧ k ≠ g ∧ k ≠ F ∧ k ≠ N) tW 65 vo s.opn.length (opens s.opn)
  inS : S g ∧ S F ∧ S N
  ne : F ≠ g ∧ N ≠ g ∧ N ≠ F
  ok : s.Ok
def Is (tD tS tW : TypeId) (w : World) (S : Nat → Prop) (g : Nat) (s : St) : Prop := ∃ F N vo, Parts tD tS tW w S g F N vo s
theorem Parts.upd {tD tS tW : TypeId} {w w' : World} {S : Nat → Prop} {g F N : Nat} {vo : Value} {s s' : St} (h : Parts tD tS tW w S g F N vo s) (hk : Keeps (· = g) w w') (hb : w'.heap[g]? = some (.cells (dcells F N s.now.length vo s').toArray tD (0, 0)))
    (h1 : s'.now = s.now) (h2 : s'.fast = s.fast) (h3 : s'.opn = s.opn) (h4 : 0 ≤ s'.left) (h5 : s'.left ≤ 9223372036854775807) : Parts tD tS tW w' S g F N vo s' := by
  refine ⟨by rw [h1]; exact hb, by rw [h2]; exact hk.heap h.bF h.ne.1, by rw [h1]; exact hk.heap h.bN h.ne.2.1, by rw [h3]; exact h.own.kept hk (fun k hh => hh.2.1), h.inS, h.ne, ?_⟩
  have := h.ok
  exact ⟨by rw [h1, h2]; exact this.len, by rw [h1]; exact this.pos, by rw [h1]; exact this.most, by rw [h2]; exact this.f64, by rw [h1]; exact this.n64, by rw [h1, h3]; exact this.o64, h4, h5⟩
theorem Parts.cell {tD tS tW : TypeId} {w : World} {S : Nat → Prop} {g F N : Nat} {vo : Value} {s : St} (h : Parts tD tS tW w S g F N vo s) (i : Nat) (v : Value) (hi : (dcells F N s.now.length vo s)[i]? = some v) : w.cell? ⟨g, i, none⟩ = some v := by
  rw [cell_of_row w g i _ _ _ h.blk]; simpa using hi
theorem Parts.free {tD tS tW : TypeId} {w : World} {S : Nat → Prop} {g F N : Nat} {vo : Value} {s : St} (h : Parts tD tS tW w S g F N vo s) (i : Nat) : w.frozen? ⟨g, i, none⟩ = false := frozen_of_row w g i _ _ h.blk
theorem opens_cells {w : World} {ok : Nat → Prop} {e : TypeId} {n : Nat} {O c : Nat} {l : List (Int × List Int)} (h : OwnRow w ok e 65 (.slice (some ⟨O, 0, none⟩) n c) l.length (opens l)) (h65 : ∀ p ∈ l, p.2.length = 64) {j : Nat} {p : Int × List Int} (hp : l[j]? = some p) :
    ∀ i u, (Value.int .i64 p.1 :: bytes8 p.2)[i]? = some u → w.cell? ⟨O, j * 65 + i, none⟩ = some u := fun i u hu => by
  refine h.cells rfl (j * 65 + i) u ?_
  rw [← opens_at h65 j p hp, List.getElem?_take, List.getElem?_drop] at hu
  split at hu
  · exact hu
  · cases hu
theorem settle_snoc (now fast : List (List Int)) (l : List (Int × List Int)) (p : Int × List Int) : St.settle now fast (l ++ [p]) = (St.settle now fast l).set p.1.toNat (now.getD p.1.toNat []) := by simp [St.settle, List.foldl_append]
theorem settle_len (now : List (List Int)) : ∀ (l : List (Int × List Int)) (fast : List (List Int)), (St.settle now fast l).length = fast.length
  | [], _ => rfl
  | p :: r, fast => by
    have := settle_len now r (fast.set p.1.toNat (now.getD p.1.toNat []))
    rw [List.length_set] at this
    exact this
theorem settle_64 {now : List (List Int)} (hn : ∀ x ∈ now, x.length = 64) : ∀ (l : List (Int × List Int)) (fast : List (List Int)), (∀ p ∈ l, 0 ≤ p.1 ∧ p.1 < now.length) → (∀ x ∈ fast, x.length = 64) → ∀ x ∈ St.settle now fast l, x.length = 64
  | [], _, _, hf => hf
  | p :: r, fast, hl, hf => by
    refine settle_64 hn r (fast.set p.1.toNat (now.getD p.1.toNat [])) (fun q hq => hl q (List.mem_cons_of_mem _ hq)) (fun x hx => ?_)
    rcases List.mem_or_eq_of_mem_set hx with hx | rfl
    · exact hf x hx
    · have := hl p List.mem_cons_self
      have hk : p.1.toNat < now.length := by omega
      rw [List.getD_eq_getElem?_getD, List.getElem?_eq_getElem hk]
      exact hn _ (List.getElem_mem hk)
theorem keep_len (keep : List Bool) : ∀ (l : List (Int × List Int)) (k : Nat) (f : List (List Int)), (St.keep keep k f l).length = f.length
  | [], _, _ => rfl
  | p :: r, k, f => by
    rw [St.keep, keep_len keep r]
    split
    · rw [List.length_set]
    · rfl
theorem keep_64 (keep : List Bool) : ∀ (l : List (Int × List Int)) (k : Nat) (f : List (List Int)), (∀ p ∈ l, p.2.length = 64) → (∀ x ∈ f, x.length = 64) → ∀ x ∈ St.keep keep k f l, x.length = 64
  | [], _, _, _, hf => hf
  | p :: r, k, f, hl, hf => by
    rw [St.keep]
    refine keep_64 keep r (k + 1) _ (fun q hq => hl q (List.mem_cons_of_mem _ hq)) (fun x hx => ?_)
    split at hx
    · rcases List.mem_or_eq_of_mem_set hx with hx | rfl
      · exact hf x hx
      · exact hl p List.mem_cons_self
    · exact hf x hx
theorem keep_snoc (keep : List Bool) (p : Int × List Int) : ∀ (l : List (Int × List Int)) (k : Nat) (f : List (List Int)), St.keep keep k f (l ++ [p]) = if keep.getD (k + l.length) false = true then (St.keep keep k f l).set p.1.toNat p.2 else St.keep keep k f l
  | [], k, f => by simp [St.keep]
  | q :: r, k, f => by
    rw [List.cons_append, St.keep, keep_snoc keep p r, St.keep]
    rw [show k + 1 + r.length = k + (q :: r).length by rw [List.length_cons]; omega]
theorem getD_of {now : List (List Int)} {k : Nat} (h : k < now.length) : now.getD k [] = now[k] := by rw [List.getD_eq_getElem?_getD, List.getElem?_eq_getElem h]; rfl
end Go.Disk
end

section
namespace Go.Proofs.Ytbiohidelhfaiaa
set_option linter.unusedVariables false
/-- All are bytes. -/
def IsB (l : List Int) : Prop := ∀ x ∈ l, 0 ≤ x ∧ x < 256
theorem IsB.take {l : List Int} (h : IsB l) (n : Nat) : IsB (l.take n) := fun x hx => h x (List.mem_of_mem_take hx)
theorem IsB.drop {l : List Int} (h : IsB l) (n : Nat) : IsB (l.drop n) := fun x hx => h x (List.mem_of_mem_drop hx)
theorem IsB.app {a b : List Int} (h : IsB a) (h' : IsB b) : IsB (a ++ b) := fun x hx => (List.mem_append.1 hx).elim (h x) (h' x)
theorem IsB.nil : IsB [] := fun x hx => by simp at hx
theorem IsB.one {x : Int} (h : 0 ≤ x ∧ x < 256) : IsB [x] := fun y hy => by rw [List.mem_singleton] at hy; rw [hy]; exact h
end Go.Proofs.Ytbiohidelhfaiaa
end

section
namespace Go.Proofs.Ytbiohidelhfaiaa
set_option linter.unusedVariables false
set_option linter.unusedSimpArgs false
/-! ### pieces -/
def joinP (p : List Int) : List (List Int) → List (List Int)
  | [] => [p]
  | q :: r => (p ++ q) :: r
def splitF (x : Int) : List Int → List (List Int)
  | [] => [[]]
  | c :: r => if c = x then [] :: splitF x r else joinP [c] (splitF x r)
theorem splitF_ne (x : Int) : ∀ l, splitF x l ≠ []
  | [] => by simp [splitF]
  | c :: r => by
    rw [splitF]
    split
    · simp
    · cases splitF x r <;> simp [joinP]
theorem joinP_nil {l : List (List Int)} (h : l ≠ []) : joinP [] l = l := by
  cases l with
  | nil => exact (h rfl).elim
  | cons q r => simp [joinP]
theorem joinP_join (p q : List Int) (l : List (List Int)) : joinP p (joinP q l) = joinP (p ++ q) l := by
  cases l <;> simp [joinP]
theorem split_nil (x : Int) (p : List Int) : joinP p (splitF x []) = [p] := by simp [splitF, joinP]
theorem split_cut (x : Int) (p r : List Int) : joinP p (splitF x (x :: r)) = p :: splitF x r := by
  rw [splitF, if_pos rfl]; simp [joinP]
theorem split_on {c x : Int} (h : c ≠ x) (p r : List Int) : joinP p (splitF x (c :: r)) = joinP (p ++ [c]) (splitF x r) := by
  rw [splitF, if_neg h, joinP_join]
theorem joinP_len (p : List Int) {l : List (List Int)} (h : l ≠ []) : (joinP p l).length = l.length := by
  cases l with
  | nil => exact (h rfl).elim
  | cons q r => simp [joinP]
def cntF (x : Int) : List Int → Nat
  | [] => 0
  | c :: r => (if c = x then 1 else 0) + cntF x r
theorem split_len (x : Int) : ∀ l, (splitF x l).length = cntF x l + 1
  | [] => rfl
  | c :: r => by
    rw [splitF, cntF]
    split
    · rw [List.length_cons, split_len x r]; omega
    · rw [joinP_len _ (splitF_ne x r), split_len x r]; omega
theorem cntF_app (x : Int) : ∀ a b, cntF x (a ++ b) = cntF x a + cntF x b
  | [], b => by simp [cntF]
  | c :: r, b => by rw [List.cons_append, cntF, cntF, cntF_app x r]; omega
theorem cntF_le (x : Int) : ∀ l, cntF x l ≤ l.length
  | [] => Nat.le_refl _
  | c :: r => by have := cntF_le x r; rw [cntF, List.length_cons]; split <;> omega
theorem joinP_byte {p : List Int} (h : IsB p) : ∀ {l : List (List Int)}, (∀ q ∈ l, IsB q) → ∀ q ∈ joinP p l, IsB q
  | [], _, q, hq => by rw [joinP, List.mem_singleton] at hq; rw [hq]; exact h
  | y :: r, hl, q, hq => by
    rw [joinP, List.mem_cons] at hq
    rcases hq with rfl | hq
    · exact h.app (hl y (List.mem_cons_self ..))
    · exact hl q (List.mem_cons_of_mem _ hq)
theorem split_byte (x : Int) : ∀ {l : List Int}, IsB l → ∀ q ∈ splitF x l, IsB q
  | [], _, q, hq => by rw [splitF, List.mem_singleton] at hq; rw [hq]; exact IsB.nil
  | c :: r, h, q, hq => by
    have hr : ∀ q ∈ splitF x r, IsB q := split_byte x (fun y hy => h y (List.mem_cons_of_mem _ hy))
    rw [splitF] at hq
    split at hq
    · rcases List.mem_cons.1 hq with rfl | hq
      · exact IsB.nil
      · exact hr q hq
    · exact joinP_byte (IsB.one (h c (List.mem_cons_self ..))) hr q hq
theorem joinP_short (p : List Int) : ∀ {l : List (List Int)} (n : Nat), (∀ q ∈ l, p.length + q.length ≤ n) → p.length ≤ n → ∀ q ∈ joinP p l, q.length ≤ n
  | [], n, _, hp, q, hq => by rw [joinP, List.mem_singleton] at hq; rw [hq]; exact hp
  | y :: r, n, hl, hp, q, hq => by
    rw [joinP, List.mem_cons] at hq
    rcases hq with rfl | hq
    · rw [List.length_append]; exact hl y (List.mem_cons_self ..)
    · have := hl q (List.mem_cons_of_mem _ hq); omega
theorem split_short (x : Int) : ∀ (l : List Int), ∀ q ∈ splitF x l, q.length ≤ l.length
  | [], q, hq => by rw [splitF, List.mem_singleton] at hq; rw [hq]; exact Nat.le_refl _
  | c :: r, q, hq => by
    have hr := split_short x r
    rw [splitF] at hq
    split at hq
    · rcases List.mem_cons.1 hq with rfl | hq
      · simp
      · have := hr q hq; simp; omega
    · exact joinP_short [c] (c :: r).length (fun q hq => by have := hr q hq; simp; omega) (by simp) q hq
/-- What Fields answers. -/
def fieldsF (x : Int) (l : List Int) (most : Int) : List (List Int) × Bool := if most < (splitF x l).length then ([], false) else (splitF x l, true)
/-! ### names -/
def lowC (c : Int) : Bool := decide (97 ≤ c ∧ c ≤ 122)
def nameC (c : Int) : Bool := lowC c || decide (48 ≤ c ∧ c ≤ 57) || decide (c = 45)
def nameF (l : List Int) : Bool := decide (1 ≤ l.length ∧ l.length ≤ 16) && l.all nameC && (l.take 1).all lowC
/-! ### numbers in digits -/
def digC (c : Int) : Bool := decide (48 ≤ c ∧ c ≤ 57)
def valF (l : List Int) : Int := l.foldl (fun n c => 10 * n + (c - 48)) 0
theorem valF_snoc (l : List Int) (c : Int) : valF (l ++ [c]) = 10 * valF l + (c - 48) := by simp [valF, List.foldl_append]
/-- The digits of a number that is not below 0. -/
def digF : Nat → Int → List Int
  | 0, _ => []
  | f + 1, n => if n < 10 then [48 + n] else digF f (n / 10) ++ [48 + n % 10]
def decF (n : Int) : List Int := if n < 0 then 45 :: digF 30 (-n) else digF 30 n
/-- Written as a number is: digits, and no nought ahead of others. -/
def okD (l : List Int) : Bool := decide (1 ≤ l.length) && l.all digC && (decide (l.length ≤ 1) || (l.take 1).all fun c => decide (c ≠ 48))
def readD (l : List Int) : Int × Bool := if okD l = true ∧ valF l ≤ 9223372036854775807 then (valF l, true) else (0, false)
theorem valF_pos : ∀ {l : List Int}, l.all digC = true → 0 ≤ valF l := by
  have h : ∀ (l : List Int) (n : Int), l.all digC = true → 0 ≤ n → 0 ≤ l.foldl (fun n c => 10 * n + (c - 48)) n := by
    intro l
    induction l with
    | nil => intro n _ hn; exact hn
    | cons c r ih =>
      intro n h hn
      rw [List.all_cons, Bool.and_eq_true] at h
      have := of_decide_eq_true h.1
      exact ih _ h.2 (show 0 ≤ 10 * n + (c - 48) by omega)
  intro l hl
  exact h l 0 hl (by decide)
theorem valF_lt (l : List Int) (h : l.all digC = true) : valF l < 10 ^ l.length := by
  have go : ∀ n (l : List Int), l.length = n → l.all digC = true → valF l < 10 ^ l.length := by
    intro n
    induction n with
    | zero => intro l hl _; rw [List.eq_nil_of_length_eq_zero hl]; decide
    | succ n ih =>
      intro l hl h
      have hne : l ≠ [] := fun e => by rw [e] at hl; cases hl
      rw [← List.dropLast_concat_getLast hne, List.all_append, Bool.and_eq_true] at h
      have hd := of_decide_eq_true (by simpa [List.all_cons] using h.2 : digC (l.getLast hne) = true)
      have h1 := ih l.dropLast (by rw [List.length_dropLast, hl]; rfl) h.1
      rw [List.length_dropLast, hl, Nat.add_sub_cancel] at h1
      rw [← List.dropLast_concat_getLast hne, valF_snoc, List.length_append, List.length_dropLast, List.length_singleton, hl, Nat.add_sub_cancel, Int.pow_succ]
      omega
  exact go l.length l rfl h
theorem valF_ge {c : Int} {l : List Int} (h : (c :: l).all digC = true) (hc : c ≠ 48) : (10 : Int) ^ l.length ≤ valF (c :: l) := by
  have go : ∀ n (l : List Int), l.length = n → (c :: l).all digC = true → (10 : Int) ^ l.length ≤ valF (c :: l) := by
    intro n
    induction n with
    | zero =>
      intro l hl h
      rw [List.eq_nil_of_length_eq_zero hl] at h ⊢
      have := of_decide_eq_true (by simpa [List.all_cons] using h : digC c = true)
      show (10 : Int) ^ 0 ≤ 10 * 0 + (c - 48)
      have e : (10 : Int) ^ 0 = 1 := rfl
      omega
    | succ n ih =>
      intro l hl h
      have hne : l ≠ [] := fun e => by rw [e] at hl; cases hl
      have e : c :: l = (c :: l.dropLast) ++ [l.getLast hne] := by rw [List.cons_append, List.dropLast_concat_getLast hne]
      rw [e, List.all_append, Bool.and_eq_true] at h
      have hd := of_decide_eq_true (by simpa [List.all_cons] using h.2 : digC (l.getLast hne) = true)
      have h1 := ih l.dropLast (by rw [List.length_dropLast, hl]; rfl) h.1
      rw [List.length_dropLast, hl, Nat.add_sub_cancel] at h1
      rw [e, valF_snoc, hl, Int.pow_succ]
      omega
  exact go l.length l rfl h
/-- A number's digits are those that mean it. -/
theorem digF_all (f : Nat) : ∀ n : Int, 0 ≤ n → (digF f n).all digC = true := by
  induction f with
  | zero => intro n _; rfl
  | succ f ih =>
    intro n hn
    rw [digF]
    split
    · simp [digC]; omega
    · rw [List.all_append, ih _ (by omega), List.all_cons]
      simp [digC]; omega
theorem digF_val (f : Nat) : ∀ n : Int, 0 ≤ n → n < 10 ^ f → valF (digF f n) = n := by
  induction f with
  | zero => intro n h0 h1; have e : (10 : Int) ^ 0 = 1 := rfl; rw [digF]; show (0 : Int) = n; omega
  | succ f ih =>
    intro n h0 h1
    rw [digF]
    split
    · show 10 * 0 + (48 + n - 48) = n; omega
    · rw [Int.pow_succ] at h1
      rw [valF_snoc, ih (n / 10) (by omega) (by omega)]
      omega
theorem digF_ok (f : Nat) : ∀ n : Int, 0 ≤ n → n < 10 ^ (f + 1) → okD (digF (f + 1) n) = true := by
  induction f with
  | zero =>
    intro n h0 h1
    have e : (10 : Int) ^ 1 = 10 := rfl
    rw [digF, if_pos (by omega)]
    simp [okD, digC]; omega
  | succ f ih =>
    intro n h0 h1
    rw [digF]
    split
    · simp [okD, digC]; omega
    · rename_i h
      rw [Int.pow_succ] at h1
      have h2 := ih (n / 10) (by omega) (by omega)
      unfold okD at h2 ⊢
      rw [Bool.and_eq_true, Bool.and_eq_true] at h2
      obtain ⟨⟨h3, h4⟩, h5⟩ := h2
      have h3 := of_decide_eq_true h3
      rw [Bool.or_eq_true] at h5
      have hz : ((digF (f + 1) (n / 10)).take 1).all (fun c => decide (c ≠ 48)) = true := by
        rcases h5 with h5 | h5
        · -- one digit: not nought
          have h5 := of_decide_eq_true h5
          have hv := digF_val (f + 1) (n / 10) (by omega) (by omega)
          obtain ⟨y, hy⟩ : ∃ y, digF (f + 1) (n / 10) = [y] := by
            cases hl : digF (f + 1) (n / 10) with
            | nil => rw [hl] at h3; simp at h3
            | cons y r =>
              rw [hl] at h5
              cases r with
              | nil => exact ⟨y, rfl⟩
              | cons z t => simp at h5
          rw [hy] at hv ⊢
          have : valF [y] = 10 * 0 + (y - 48) := rfl
          simp
          omega
        · exact h5
      rw [List.length_append, List.all_append, h4, List.take_append_of_le_length h3, hz]
      simp [digC]; omega
/-- Digits that mean the same are the same, where none bears a nought ahead. -/
theorem okD_inj : ∀ (n : Nat) (a b : List Int), a.length = n → okD a = true → okD b = true → valF a = valF b → a = b := by
  have len : ∀ a b : List Int, okD a = true → okD b = true → valF a = valF b → a.length ≤ b.length := by
    intro a b ha hb hv
    unfold okD at ha hb
    rw [Bool.and_eq_true, Bool.and_eq_true] at ha hb
    obtain ⟨⟨a1, a2⟩, a3⟩ := ha
    obtain ⟨⟨b1, b2⟩, b3⟩ := hb
    have b1 := of_decide_eq_true b1
    have hvb := valF_lt b b2
    rw [Bool.or_eq_true] at a3
    rcases a3 with a3 | a3
    · have := of_decide_eq_true a3; omega
    · cases a with
      | nil => simp
      | cons c r =>
        have hc : c ≠ 48 := by simpa using a3
        have hg := valF_ge a2 hc
        rw [List.length_cons]
        have h1 : (10 : Int) ^ r.length < 10 ^ b.length := by omega
        have h2 : (10 : Nat) ^ r.length < 10 ^ b.length := by exact_mod_cast h1
        exact (Nat.pow_lt_pow_iff_right (by decide)).1 h2
  have same : ∀ (n : Nat) (a b : List Int), a.length = n → b.length = n → a.all digC = true → b.all digC = true → valF a = valF b → a = b := by
    intro n
    induction n with
    | zero => intro a b ha hb _ _ _; rw [List.eq_nil_of_length_eq_zero ha, List.eq_nil_of_length_eq_zero hb]
    | succ n ih =>
      intro a b ha hb h1 h2 hv
      have na : a ≠ [] := fun e => by rw [e] at ha; cases ha
      have nb : b ≠ [] := fun e => by rw [e] at hb; cases hb
      rw [← List.dropLast_concat_getLast na] at h1 hv ⊢
      rw [← List.dropLast_concat_getLast nb] at h2 hv ⊢
      rw [List.all_append, Bool.and_eq_true] at h1 h2
      rw [valF_snoc, valF_snoc] at hv
      have d1 := of_decide_eq_true (by simpa [List.all_cons] using h1.2 : digC (a.getLast na) = true)
      have d2 := of_decide_eq_true (by simpa [List.all_cons] using h2.2 : digC (b.getLast nb) = true)
      rw [ih a.dropLast b.dropLast (by rw [List.length_dropLast, ha]; rfl) (by rw [List.length_dropLast, hb]; rfl) h1.1 h2.1 (by omega), show a.getLast na = b.getLast nb by omega]
  intro n a b _ ha hb hv
  have h1 := len a b ha hb hv
  have h2 := len b a hb ha hv.symm
  unfold okD at ha hb
  rw [Bool.and_eq_true, Bool.and_eq_true] at ha hb
  exact same a.length a b rfl (by omega) ha.1.2 hb.1.2 hv
theorem okD_len {l : List Int} (h : okD l = true) (hv : valF l ≤ 9223372036854775807) : l.length ≤ 19 := by
  unfold okD at h
  rw [Bool.and_eq_true, Bool.and_eq_true] at h
  obtain ⟨⟨h1, h2⟩, h3⟩ := h
  rw [Bool.or_eq_true] at h3
  rcases h3 with h3 | h3
  · have := of_decide_eq_true h3; omega
  · cases l with
    | nil => simp
    | cons c r =>
      have hc : c ≠ 48 := by simpa using h3
      have hg := valF_ge h2 hc
      rw [List.length_cons]
      have h4 : (10 : Int) ^ r.length < 10 ^ 19 := by have : (10 : Int) ^ 19 = 10000000000000000000 := by decide
                                                      omega
      have h5 : (10 : Nat) ^ r.length < 10 ^ 19 := by exact_mod_cast h4
      have := (Nat.pow_lt_pow_iff_right (by decide)).1 h5
      omega
theorem dec_ok {n : Int} (h0 : 0 ≤ n) (h1 : n ≤ 9223372036854775807) : okD (decF n) = true ∧ valF (decF n) = n := by
  unfold decF
  rw [if_neg (by omega)]
  have h2 : n < 10 ^ (29 + 1) := by have : (10 : Int) ^ (29 + 1) = 1000000000000000000000000000000 := by decide
                                    omega
  exact ⟨digF_ok 29 n h0 h2, digF_val 30 n h0 h2⟩
theorem digF_fuel (f g : Nat) {n : Int} (h0 : 0 ≤ n) (h1 : n < 10 ^ (f + 1)) (h2 : n < 10 ^ (g + 1)) : digF (f + 1) n = digF (g + 1) n :=
  okD_inj _ _ _ rfl (digF_ok f n h0 h1) (digF_ok g n h0 h2) (by rw [digF_val (f + 1) n h0 h1, digF_val (g + 1) n h0 h2])
theorem dig_step {n : Int} (h : 10 ≤ n) (h1 : n < 10 ^ 29) : digF 30 n = digF 30 (n / 10) ++ [48 + n % 10] := by
  have p : (10 : Int) ^ (28 + 1) = 100000000000000000000000000000 := by decide
  have p2 : (10 : Int) ^ (29 + 1) = 1000000000000000000000000000000 := by decide
  rw [show (10 : Int) ^ 29 = 10 ^ (28 + 1) from rfl, p] at h1
  rw [digF, if_neg (by omega)]
  rw [digF_fuel 28 29 (n := n / 10) (by omega) (by rw [p]; omega) (by rw [p2]; omega)]
theorem p29 : (10 : Int) ^ 29 = 100000000000000000000000000000 := by decide
theorem dec_small {n : Int} (h : 0 ≤ n) (h1 : n < 10) : decF n = [48 + n] := by unfold decF; rw [if_neg (by omega), digF, if_pos h1]
theorem dec_step {n : Int} (h : 10 ≤ n) (h1 : n < 10 ^ 29) : decF n = decF (n / 10) ++ [48 + n % 10] := by
  unfold decF
  rw [if_neg (by omega), if_neg (by omega), dig_step h h1]
theorem dec_neg1 {n : Int} (h : 0 < n) (h1 : n < 10) : decF (-n) = [45, 48 + n] := by unfold decF; rw [if_pos (by omega), Int.neg_neg, digF, if_pos h1]
theorem dec_neg {n : Int} (h : 10 ≤ n) (h1 : n < 10 ^ 29) : decF (-n) = decF (-(n / 10)) ++ [48 + n % 10] := by
  unfold decF
  rw [if_pos (by omega), if_pos (by omega), Int.neg_neg, Int.neg_neg, dig_step h h1, List.cons_append]
theorem digF_byte (f : Nat) {n : Int} (h : 0 ≤ n) : IsB (digF f n) := fun x hx => by
  have := digF_all f n h
  rw [List.all_eq_true] at this
  have := of_decide_eq_true (this x hx)
  omega
theorem dec_byte (n : Int) : IsB (decF n) := by
  unfold decF
  split
  · intro x hx
    rcases List.mem_cons.1 hx with rfl | hx
    · decide
    · exact digF_byte 30 (by omega) x hx
  · exact digF_byte 30 (by omega)
theorem digF_len (f : Nat) : ∀ n : Int, (digF f n).length ≤ f := by
  induction f with
  | zero => intro n; exact Nat.le_refl _
  | succ f ih =>
    intro n
    rw [digF]
    split
    · simp
    · have := ih (n / 10); simp; omega
theorem dec_len (n : Int) : (decF n).length ≤ 31 := by
  unfold decF
  split
  · have := digF_len 30 (-n); simp; omega
  · have := digF_len 30 n; omega
/-- Written so: just if it reads so. -/
theorem dec_iff {l : List Int} (h : l.all digC = true) (hv : valF l ≤ 9223372036854775807) : decF (valF l) = l ↔ okD l = true := by
  obtain ⟨h1, h2⟩ := dec_ok (valF_pos h) hv
  constructor
  · intro e; rw [← e]; exact h1
  · intro e; exact okD_inj _ _ _ rfl h1 e h2
end Go.Proofs.Ytbiohidelhfaiaa
end

section
namespace Go.Proofs.Ytbiohidelhfaiaa
set_option linter.unusedVariables false
set_option linter.unusedSimpArgs false
namespace Sto
/-! ### short numbers -/
def var : Nat → Nat → List Int
  | 0, x => [(x : Int)]
  | f + 1, x => if x < 128 then [(x : Int)] else (128 + (x % 128 : Nat) : Int) :: var f (x / 128)
def varF (x : Nat) : List Int := var 9 x
/-- A short number, how many bytes it has, the error. -/
def rdGo : List Int → Nat → Nat → Nat × Nat × Int
  | [], _, _ => (0, 0, 3)
  | c :: r, i, acc =>
    if i = 9 ∧ 1 < c then (0, 0, 4)
    else if c < 128 then (if c = 0 ∧ 0 < i then (0, 0, 4) else (acc + c.toNat * 128 ^ i, i + 1, 0))
    else rdGo r (i + 1) (acc + (c.toNat - 128) * 128 ^ i)
def rdF (l : List Int) : Nat × Nat × Int := rdGo l 0 0
theorem var_pos : ∀ f x, 0 < (var f x).length := by
  intro f x
  cases f with
  | zero => simp [var]
  | succ f => rw [var]; split <;> simp
theorem rdGo_le : ∀ (l : List Int) (i acc : Nat), (rdGo l i acc).2.2 = 0 → i + 1 ≤ (rdGo l i acc).2.1 ∧ (rdGo l i acc).2.1 ≤ i + l.length := by
  intro l
  induction l with
  | nil => intro i acc h; simp [rdGo] at h
  | cons c r ih =>
    intro i acc h
    rw [rdGo] at h ⊢
    split at h
    · simp at h
    · rename_i h1
      rw [if_neg h1]
      split at h
      · rename_i h2
        rw [if_pos h2]
        split at h
        · simp at h
        · rename_i h3
          rw [if_neg h3]
          simp
      · rename_i h2
        rw [if_neg h2]
        have := ih (i + 1) _ h
        rw [List.length_cons]
        omega
/-- What is written is read, whatever stands behind. -/
theorem rd_var : ∀ (f x : Nat) (i acc : Nat) (r : List Int), x < 128 ^ (f + 1) → f + i ≤ 9 → (i = 9 → x ≤ 1) → (f + i = 9 → x < 2 * 128 ^ f) → (0 < i → 0 < x) → rdGo (var f x ++ r) i acc = (acc + x * 128 ^ i, i + (var f x).length, 0) := by
  intro f
  induction f with
  | zero =>
    intro x i acc r hx hi h9 h2 h0
    simp only [Nat.zero_add, Nat.pow_one] at hx
    rw [var, List.singleton_append, rdGo, if_neg (by rintro ⟨h, h'⟩; have := h9 h; omega), if_pos (by omega), if_neg (by rintro ⟨h, h'⟩; have := h0 h'; omega)]
    simp
  | succ f ih =>
    intro x i acc r hx hi h9 h2 h0
    rw [var]
    by_cases hlt : x < 128
    · rw [if_pos hlt, List.singleton_append, rdGo, if_neg (by rintro ⟨h, h'⟩; omega), if_pos (by omega), if_neg (by rintro ⟨h, h'⟩; have := h0 h'; omega)]
      simp
    · rw [if_neg hlt, List.cons_append, rdGo, if_neg (by rintro ⟨h, h'⟩; omega), if_neg (by omega)]
      have hp : (128 : Nat) ^ (f + 1 + 1) = 128 * 128 ^ (f + 1) := by rw [Nat.pow_succ]; omega
      have hd : x / 128 < 128 ^ (f + 1) := by rw [Nat.div_lt_iff_lt_mul (by decide)]; omega
      have hp2 : (128 : Nat) ^ (f + 1) = 128 * 128 ^ f := by rw [Nat.pow_succ]; omega
      rw [ih (x / 128) (i + 1) _ r hd (by omega) (by intro h; have h3 := h2 (by omega); have : f = 0 := by omega
                                                     subst this; simp at h3; omega) (by intro h; have h3 := h2 (by omega); rw [Nat.div_lt_iff_lt_mul (by decide)]; omega) (by intro _; omega)]
      have hi1 : (128 : Nat) ^ (i + 1) = 128 * 128 ^ i := by rw [Nat.pow_succ]; omega
      refine Prod.ext ?_ (Prod.ext ?_ rfl)
      · have e : ((128 + (x % 128 : Nat) : Int).toNat - 128) = x % 128 := by omega
        have hm := Nat.div_add_mod x 128
        show acc + ((128 + (x % 128 : Nat) : Int).toNat - 128) * 128 ^ i + x / 128 * 128 ^ (i + 1) = acc + x * 128 ^ i
        rw [hi1, e]
        generalize (128 : Nat) ^ i = P
        generalize x / 128 = q at *
        generalize x % 128 = m at *
        subst hm
        rw [Nat.add_mul, Nat.add_assoc, Nat.add_comm (m * P), ← Nat.mul_assoc, Nat.mul_comm q 128]
      · simp only [List.length_cons]; omega
/-- What is read, written again, is what was read. -/
theorem var_rd : ∀ (l : List Int) (i acc : Nat), i ≤ 9 → (∀ c ∈ l, 0 ≤ c ∧ c < 256) → (rdGo l i acc).2.2 = 0 → ∃ x, (rdGo l i acc).1 = acc + x * 128 ^ i ∧ l.take ((rdGo l i acc).2.1 - i) = var (9 - i) x ∧ (0 < i → 0 < x) ∧ x < 2 * 128 ^ (9 - i) := by
  intro l
  induction l with
  | nil => intro i acc _ _ h; simp [rdGo] at h
  | cons c r ih =>
    intro i acc hi hB h
    have hc := hB c (List.mem_cons_self ..)
    rw [rdGo] at h ⊢
    split at h
    · simp at h
    · rename_i h1
      rw [if_neg h1]
      have e : (c.toNat : Int) = c := Int.toNat_of_nonneg hc.1
      split at h
      · rename_i h2
        rw [if_pos h2]
        split at h
        · simp at h
        · rename_i h3
          rw [if_neg h3]
          refine ⟨c.toNat, rfl, ?_, fun h => by
            rcases Nat.eq_zero_or_pos c.toNat with h4 | h4
            · exact (h3 ⟨by omega, h⟩).elim
            · exact h4, ?_⟩
          · simp only [Nat.add_sub_cancel_left, List.take_succ_cons, List.take_zero]
            cases hf : 9 - i with
            | zero => rw [var, e]
            | succ f => rw [var, if_pos (by omega), e]
          · by_cases h9 : i = 9
            · subst h9
              have : ¬ 1 < c := fun h => h1 ⟨rfl, h⟩
              simp; omega
            · obtain ⟨f, hf⟩ : ∃ f, 9 - i = f + 1 := ⟨9 - i - 1, by omega⟩
              rw [hf, Nat.pow_succ]
              have : 0 < 128 ^ f := Nat.pow_pos (by decide)
              omega
      · rename_i h2
        rw [if_neg h2]
        have hi2 : i + 1 ≤ 9 := by
          rcases Nat.lt_or_ge i 9 with h | h
          · omega
          · exact (h1 ⟨by omega, by omega⟩).elim
        obtain ⟨x, h4, h5, h6, h7⟩ := ih (i + 1) _ hi2 (fun y hy => hB y (List.mem_cons_of_mem _ hy)) h
        have hle := rdGo_le r (i + 1) _ h
        have hx := h6 (Nat.succ_pos _)
        obtain ⟨f, hf⟩ : ∃ f, 9 - i = f + 1 := ⟨9 - i - 1, by omega⟩
        have hf1 : 9 - (i + 1) = f := by omega
        rw [hf1] at h5 h7
        refine ⟨(c.toNat - 128) + x * 128, ?_, ?_, fun _ => by omega, ?_⟩
        · rw [h4, Nat.pow_succ]
          generalize (128 : Nat) ^ i = P
          rw [Nat.add_mul, Nat.add_assoc, Nat.mul_assoc, Nat.mul_comm 128 P]
        · obtain ⟨m, hm⟩ : ∃ m, (rdGo r (i + 1) (acc + (c.toNat - 128) * 128 ^ i)).2.1 - i = m + 1 := ⟨(rdGo r (i + 1) (acc + (c.toNat - 128) * 128 ^ i)).2.1 - (i + 1), by omega⟩
          have hm2 : (rdGo r (i + 1) (acc + (c.toNat - 128) * 128 ^ i)).2.1 - (i + 1) = m := by omega
          rw [hm2] at h5
          rw [hm, List.take_succ_cons, h5, hf, var, if_neg (by omega)]
          have e1 : ((c.toNat - 128) + x * 128) % 128 = c.toNat - 128 := by omega
          have e2 : ((c.toNat - 128) + x * 128) / 128 = x := by omega
          rw [e1, e2]
          congr 1
          omega
        · rw [hf, Nat.pow_succ]
          omega
/-! ### changes -/
structure Chg where
  key : List Int
  del : Bool
  val : List Int
deriving DecidableEq
def keyC (c : Int) : Bool := decide (33 ≤ c ∧ c ≤ 126)
def keyF (k : List Int) : Bool := k.all keyC && decide (1 ≤ k.length ∧ k.length ≤ 40)
/-- What is wrong with one change, behind others. -/
def chk1 (ahead : List Chg) (c : Chg) : Int :=
  if keyF c.key = false then 2 else if 4096 < c.val.length then 5 else if c.del = true ∧ 0 < c.val.length then 2 else if (ahead.any fun a => decide (a.key = c.key)) = true then 10 else 0
def chkGo : List Chg → List Chg → Int
  | _, [] => 0
  | ahead, c :: r => if chk1 ahead c ≠ 0 then chk1 ahead c else chkGo (ahead ++ [c]) r
def chk (l : List Chg) : Int := if l.length = 0 ∨ 16 < l.length then 2 else chkGo [] l
def counted (b : List Int) : List Int := varF b.length ++ b
def enc1 (c : Chg) : List Int := (if c.del = true then 1 else 0) :: (counted c.key ++ if c.del = true then [] else counted c.val)
def encL (l : List Chg) : List Int := varF l.length ++ l.flatMap enc1
def enc (l : List Chg) : List Int × Int := if chk l ≠ 0 then ([], chk l) else (encL l, 0)
/-! ### read -/
/-- Bytes that are counted, what is behind. -/
def piece (b : List Int) : Option (List Int × List Int) :=
  if (rdF b).2.2 ≠ 0 ∨ b.length - (rdF b).2.1 < (rdF b).1 then none else some ((b.drop (rdF b).2.1).take (rdF b).1, b.drop ((rdF b).2.1 + (rdF b).1))
def change (b : List Int) : Option (Chg × List Int) :=
  match b with
  | [] => none
  | t :: r => if 1 < t then none else match piece r with
    | none => none
    | some (k, r2) => if t = 1 then some (⟨k, true, []⟩, r2) else match piece r2 with
      | none => none
      | some (v, r3) => some (⟨k, false, v⟩, r3)
def changes : Nat → List Int → Option (List Chg × List Int)
  | 0, b => some ([], b)
  | n + 1, b => match change b with
    | none => none
    | some (c, r) => match changes n r with
      | none => none
      | some (l, r2) => some (c :: l, r2)
def dec (b : List Int) : List Chg × Int :=
  if (rdF b).2.2 ≠ 0 ∨ 16 < (rdF b).1 then ([], 4) else match changes (rdF b).1 (b.drop (rdF b).2.1) with
    | none => ([], 4)
    | some (l, r) => if r ≠ [] ∨ chk l ≠ 0 then ([], 4) else (l, 0)
end Sto
end Go.Proofs.Ytbiohidelhfaiaa
end

section
namespace Go.Proofs.Ytbiohidelhfaiaa
set_option linter.unusedVariables false
set_option linter.unusedSimpArgs false
namespace Sto
theorem rdF_var {x : Nat} (hx : x < 18446744073709551616) (r : List Int) : rdF (varF x ++ r) = (x, (varF x).length, 0) := by
  have e1 : (128 : Nat) ^ (9 + 1) = 1180591620717411303424 := by decide
  have e2 : 2 * (128 : Nat) ^ 9 = 18446744073709551616 := by decide
  have := rd_var 9 x 0 0 r (by omega) (by decide) (fun h => by cases h) (fun _ => by omega) (fun h => absurd h (by decide))
  unfold rdF varF
  rw [this]
  simp
theorem piece_counted {k : List Int} (hk : k.length < 18446744073709551616) (r : List Int) : piece (counted k ++ r) = some (k, r) := by
  have e : counted k ++ r = varF k.length ++ (k ++ r) := by unfold counted; rw [List.append_assoc]
  unfold piece
  rw [e, rdF_var hk]
  simp only
  rw [if_neg (by rintro (h | h); exact h rfl; simp only [List.length_append] at h; omega)]
  rw [List.drop_append_of_le_length (Nat.le_refl _), List.drop_length, List.nil_append, List.take_append_of_le_length (Nat.le_refl _), List.take_length, List.drop_append, List.drop_eq_nil_of_le (by omega), List.nil_append, Nat.add_sub_cancel_left, List.drop_append_of_le_length (Nat.le_refl _), List.drop_length, List.nil_append]
/-- A change that can be. -/
structure Good (c : Chg) : Prop where
  k : c.key.length < 18446744073709551616
  v : c.val.length < 18446744073709551616
  d : c.del = true → c.val = []
theorem change_enc {c : Chg} (h : Good c) (r : List Int) : change (enc1 c ++ r) = some (c, r) := by
  obtain ⟨k, d, v⟩ := c
  cases d with
  | true =>
    have hv : v = [] := h.d rfl
    subst hv
    have e : enc1 ⟨k, true, []⟩ ++ r = 1 :: (counted k ++ r) := by simp [enc1]
    rw [e]
    unfold change
    simp only
    rw [if_neg (by decide), piece_counted h.k]
    simp
  | false =>
    have e : enc1 ⟨k, false, v⟩ ++ r = 0 :: (counted k ++ (counted v ++ r)) := by simp [enc1]
    rw [e]
    unfold change
    simp only
    rw [if_neg (by decide), piece_counted h.k]
    simp only
    rw [if_neg (by decide), piece_counted h.v]
theorem changes_enc : ∀ (l : List Chg) (r : List Int), (∀ c ∈ l, Good c) → changes l.length (l.flatMap enc1 ++ r) = some (l, r) := by
  intro l
  induction l with
  | nil => intro r _; rfl
  | cons c l ih =>
    intro r h
    rw [List.length_cons, changes, List.flatMap_cons, List.append_assoc, change_enc (h c (List.mem_cons_self ..))]
    simp only
    rw [ih r (fun d hd => h d (List.mem_cons_of_mem _ hd))]
theorem chkGo_all : ∀ (l a : List Chg), chkGo a l = 0 → ∀ c ∈ l, ∃ b, chk1 b c = 0 := by
  intro l
  induction l with
  | nil => intro a _ c hc; cases hc
  | cons d l ih =>
    intro a h c hc
    rw [chkGo] at h
    split at h
    · rename_i h1; exact (h1 h).elim
    · rename_i h1
      rcases List.mem_cons.1 hc with rfl | hc
      · exact ⟨a, Classical.not_not.1 h1⟩
      · exact ih _ h c hc
theorem chk1_good {a : List Chg} {c : Chg} (h : chk1 a c = 0) : Good c ∧ keyF c.key = true ∧ c.val.length ≤ 4096 := by
  unfold chk1 at h
  split at h
  · cases h
  · rename_i h1
    split at h
    · cases h
    · rename_i h2
      split at h
      · cases h
      · rename_i h3
        have hk : keyF c.key = true := by simpa using h1
        have hk2 := hk
        unfold keyF at hk2
        simp only [Bool.and_eq_true, decide_eq_true_eq] at hk2
        refine ⟨⟨by omega, by omega, fun hd => ?_⟩, hk, by omega⟩
        rcases Nat.eq_zero_or_pos c.val.length with h4 | h4
        · exact List.eq_nil_of_length_eq_zero h4
        · exact (h3 ⟨hd, h4⟩).elim
theorem chk_good {l : List Chg} (h : chk l = 0) : (∀ c ∈ l, Good c ∧ keyF c.key = true ∧ c.val.length ≤ 4096) ∧ 1 ≤ l.length ∧ l.length ≤ 16 := by
  unfold chk at h
  split at h
  · cases h
  · rename_i h1
    refine ⟨fun c hc => ?_, by omega, by omega⟩
    obtain ⟨b, hb⟩ := chkGo_all l [] h c hc
    exact chk1_good hb
theorem dec_enc {l : List Chg} (h : chk l = 0) : dec (encL l) = (l, 0) := by
  obtain ⟨h1, h2, h3⟩ := chk_good h
  have hr := rdF_var (x := l.length) (by omega) (l.flatMap enc1)
  unfold dec encL
  rw [hr]
  simp only
  rw [if_neg (by rintro (h | h); exact h rfl; omega), List.drop_append_of_le_length (Nat.le_refl _), List.drop_length, List.nil_append]
  have := changes_enc l [] (fun c hc => (h1 c hc).1)
  rw [List.append_nil] at this
  rw [this]
  simp only
  rw [if_neg (by rintro (h4 | h4); exact h4 rfl; exact h4 h)]
/-! ### back -/
theorem rd_back {b : List Int} (hB : IsB b) (h : (rdF b).2.2 = 0) : b.take (rdF b).2.1 = varF (rdF b).1 ∧ (rdF b).1 < 18446744073709551616 ∧ (rdF b).2.1 ≤ b.length := by
  obtain ⟨x, h1, h2, h3, h4⟩ := var_rd b 0 0 (by decide) hB h
  have h5 := rdGo_le b 0 0 h
  have e : (rdF b).1 = x := by unfold rdF; rw [h1]; simp
  have e2 : 2 * (128 : Nat) ^ (9 - 0) = 18446744073709551616 := by decide
  rw [e]
  refine ⟨?_, by omega, by unfold rdF; omega⟩
  unfold rdF varF
  exact h2
theorem piece_back {b k r : List Int} (hB : IsB b) (h : piece b = some (k, r)) : b = counted k ++ r ∧ k.length < 18446744073709551616 := by
  unfold piece at h
  split at h
  · cases h
  · rename_i h1
    simp only [Option.some.injEq, Prod.mk.injEq] at h
    obtain ⟨rfl, rfl⟩ := h
    have he : (rdF b).2.2 = 0 := Classical.not_not.1 (fun h => h1 (.inl h))
    obtain ⟨h2, h3, h4⟩ := rd_back hB he
    have hx : ¬ b.length - (rdF b).2.1 < (rdF b).1 := fun h => h1 (.inr h)
    generalize (rdF b).1 = x at *
    generalize (rdF b).2.1 = n at *
    have hl : ((b.drop n).take x).length = x := by rw [List.length_take, List.length_drop]; omega
    refine ⟨?_, by omega⟩
    unfold counted
    rw [hl, ← h2, List.append_assoc, ← List.drop_drop, List.take_append_drop, List.take_append_drop]
theorem change_back {b r : List Int} {c : Chg} (hB : IsB b) (h : change b = some (c, r)) : b = enc1 c ++ r := by
  unfold change at h
  cases b with
  | nil => cases h
  | cons t s =>
    simp only at h
    split at h
    · cases h
    · rename_i ht
      have hb := hB t (List.mem_cons_self ..)
      have hs : IsB s := fun x hx => hB x (List.mem_cons_of_mem _ hx)
      cases hp : piece s with
      | none => rw [hp] at h; cases h
      | some q =>
        obtain ⟨k, r2⟩ := q
        rw [hp] at h
        simp only at h
        obtain ⟨e1, _⟩ := piece_back hs hp
        split at h
        · rename_i h1
          simp only [Option.some.injEq, Prod.mk.injEq] at h
          obtain ⟨rfl, rfl⟩ := h
          rw [e1, h1]; simp [enc1]
        · rename_i h1
          have h0 : t = 0 := by omega
          cases hp2 : piece r2 with
          | none => rw [hp2] at h; cases h
          | some q =>
            obtain ⟨v, r3⟩ := q
            rw [hp2] at h
            simp only [Option.some.injEq, Prod.mk.injEq] at h
            obtain ⟨rfl, rfl⟩ := h
            have hr2 : IsB r2 := fun x hx => hs x (by rw [e1]; exact List.mem_append_right _ hx)
            obtain ⟨e2, _⟩ := piece_back hr2 hp2
            rw [e1, e2, h0]; simp [enc1]
theorem changes_back : ∀ (n : Nat) (b r : List Int) (l : List Chg), IsB b → changes n b = some (l, r) → b = l.flatMap enc1 ++ r ∧ l.length = n := by
  intro n
  induction n with
  | zero => intro b r l _ h; simp only [changes, Option.some.injEq, Prod.mk.injEq] at h; obtain ⟨rfl, rfl⟩ := h; exact ⟨rfl, rfl⟩
  | succ n ih =>
    intro b r l hB h
    rw [changes] at h
    cases hc : change b with
    | none => rw [hc] at h; cases h
    | some q =>
      obtain ⟨c, s⟩ := q
      rw [hc] at h
      simp only at h
      have e1 := change_back hB hc
      have hs : IsB s := fun x hx => hB x (by rw [e1]; exact List.mem_append_right _ hx)
      cases hl : changes n s with
      | none => rw [hl] at h; cases h
      | some q =>
        obtain ⟨l2, r2⟩ := q
        rw [hl] at h
        simp only [Option.some.injEq, Prod.mk.injEq] at h
        obtain ⟨rfl, rfl⟩ := h
        obtain ⟨e2, e3⟩ := ih s _ l2 hs hl
        refine ⟨?_, by rw [List.length_cons, e3]⟩
        rw [e1, e2, List.flatMap_cons, List.append_assoc]
theorem dec_cases (b : List Int) (hB : IsB b) : dec b = ([], 4) ∨ ∃ l, dec b = (l, 0) ∧ b = encL l ∧ chk l = 0 := by
  unfold dec
  split
  · exact .inl rfl
  · rename_i h1
    have he : (rdF b).2.2 = 0 := Classical.not_not.1 (fun h => h1 (.inl h))
    obtain ⟨h2, h3, h4⟩ := rd_back hB he
    cases hl : changes (rdF b).1 (b.drop (rdF b).2.1) with
    | none => exact .inl rfl
    | some q =>
      obtain ⟨l, r⟩ := q
      simp only
      split
      · exact .inl rfl
      · rename_i h5
        right
        have hr : r = [] := Classical.not_not.1 (fun h => h5 (.inl h))
        have hc : chk l = 0 := Classical.not_not.1 (fun h => h5 (.inr h))
        subst hr
        obtain ⟨e1, e2⟩ := changes_back _ _ _ l (fun x hx => hB x (List.drop_subset _ _ hx)) hl
        rw [List.append_nil] at e1
        refine ⟨l, rfl, ?_, hc⟩
        unfold encL
        rw [← e1, e2, ← h2, List.take_append_drop]
/-! ### the document's reader -/
def dChange (b : List Int) : Option (Chg × List Int) :=
  match b with
  | [] => none
  | t :: r => match piece r with
    | none => none
    | some (k, r2) => if t = 1 then some (⟨k, true, []⟩, r2) else match piece r2 with
      | none => none
      | some (v, r3) => some (⟨k, false, v⟩, r3)
def dChanges : Nat → List Int → Option (List Chg × List Int)
  | 0, b => some ([], b)
  | n + 1, b => match dChange b with
    | none => none
    | some (c, r) => match dChanges n r with
      | none => none
      | some (l, r2) => some (c :: l, r2)
def dDec (b : List Int) : List Chg × Int :=
  if (rdF b).2.2 ≠ 0 ∨ 16 < (rdF b).1 then ([], 4) else match dChanges (rdF b).1 (b.drop (rdF b).2.1) with
    | none => ([], 4)
    | some (l, r) => if chk l ≠ 0 ∨ encL l ≠ b then ([], 4) else (l, 0)
theorem dChange_enc {c : Chg} (h : Good c) (r : List Int) : dChange (enc1 c ++ r) = some (c, r) := by
  obtain ⟨k, d, v⟩ := c
  cases d with
  | true =>
    have hv : v = [] := h.d rfl
    subst hv
    have e : enc1 ⟨k, true, []⟩ ++ r = 1 :: (counted k ++ r) := by simp [enc1]
    rw [e]
    unfold dChange
    simp only
    rw [piece_counted h.k]
    simp
  | false =>
    have e : enc1 ⟨k, false, v⟩ ++ r = 0 :: (counted k ++ (counted v ++ r)) := by simp [enc1]
    rw [e]
    unfold dChange
    simp only
    rw [piece_counted h.k]
    simp only
    rw [if_neg (by decide), piece_counted h.v]
theorem dChanges_enc : ∀ (l : List Chg) (r : List Int), (∀ c ∈ l, Good c) → dChanges l.length (l.flatMap enc1 ++ r) = some (l, r) := by
  intro l
  induction l with
  | nil => intro r _; rfl
  | cons c l ih =>
    intro r h
    rw [List.length_cons, dChanges, List.flatMap_cons, List.append_assoc, dChange_enc (h c (List.mem_cons_self ..))]
    simp only
    rw [ih r (fun d hd => h d (List.mem_cons_of_mem _ hd))]
theorem dDec_enc {l : List Chg} (h : chk l = 0) : dDec (encL l) = (l, 0) := by
  obtain ⟨h1, h2, h3⟩ := chk_good h
  have hr := rdF_var (x := l.length) (by omega) (l.flatMap enc1)
  unfold dDec
  have e : encL l = varF l.length ++ l.flatMap enc1 := rfl
  rw [e, hr]
  simp only
  rw [if_neg (by rintro (h | h); exact h rfl; omega), List.drop_append_of_le_length (Nat.le_refl _), List.drop_length, List.nil_append]
  have := dChanges_enc l [] (fun c hc => (h1 c hc).1)
  rw [List.append_nil] at this
  rw [this]
  simp only
  rw [if_neg (by rintro (h4 | h4); exact h4 h; exact h4 rfl)]
/-- The document's reader answers the same. -/
theorem dec_doc (b : List Int) (hB : IsB b) : dDec b = dec b := by
  rcases dec_cases b hB with h | ⟨l, h, e, hc⟩
  · rw [h]
    have h2 : dDec b = ([], 4) ∨ ∃ l, dDec b = (l, 0) ∧ chk l = 0 ∧ encL l = b := by
      unfold dDec
      split
      · exact .inl rfl
      · cases hl : dChanges (rdF b).1 (b.drop (rdF b).2.1) with
        | none => exact .inl rfl
        | some q =>
          obtain ⟨l, r⟩ := q
          simp only
          split
          · exact .inl rfl
          · rename_i h5
            exact .inr ⟨l, rfl, Classical.not_not.1 (fun h => h5 (.inl h)), Classical.not_not.1 (fun h => h5 (.inr h))⟩
    rcases h2 with h2 | ⟨l, _, h3, h4⟩
    · exact h2
    · rw [← h4, dec_enc h3] at h
      cases h
  · rw [h, e, dDec_enc hc]
end Sto
end Go.Proofs.Ytbiohidelhfaiaa
end
