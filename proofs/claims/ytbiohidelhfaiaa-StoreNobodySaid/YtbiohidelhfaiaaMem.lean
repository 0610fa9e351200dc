/-
  Memory by blocks: what a call may have turned (Keeps), rows of one's own (OwnRow), slices that are read (Rd); the operations on whole arrays and structs as steps that leave a world of which only the blocks are known.
-/
import Derived.Below
import Derived.Laws.AppendOwn
import Derived.Laws.Rows
import Derived.Laws.CopyRow
import Derived.Deep.MidRow
import Derived.Deep.WholeRow
import Derived.Deep.Draws
import Derived.Great.BuildSlice
import Derived.Laws.AppendOwnNone
import Derived.Laws.MakeOwn
import Derived.OwnWalk
namespace Go.Mem
open Go.RowKit
set_option linter.unusedSimpArgs false
set_option linter.unusedVariables false

/-! ### what stays -/
structure Keeps (S : Nat → Prop) (w w' : World) : Prop where
  os : w'.os = w.os
  tape : w'.tape = w.tape
  output : w'.output = w.output
  size : w.heap.size ≤ w'.heap.size
  block : ∀ k, k < w.heap.size → ¬ S k → w'.heap[k]? = w.heap[k]?
section
variable {S S' : Nat → Prop} {a w w' w'' : World}
theorem Keeps.refl (S : Nat → Prop) (w : World) : Keeps S w w := ⟨rfl, rfl, rfl, Nat.le_refl _, fun _ _ _ => rfl⟩
theorem Keeps.mono (h : Keeps S w w') (hs : ∀ k, k < w.heap.size → S k → S' k) : Keeps S' w w' := ⟨h.os, h.tape, h.output, h.size, fun k hk hn => h.block k hk (fun hh => hn (hs k hk hh))⟩
theorem Keeps.trans (h : Keeps S w w') (h' : Keeps S' w' w'') (hs : ∀ k, k < w.heap.size → S' k → S k) : Keeps S w w'' :=
  ⟨h'.os.trans h.os, h'.tape.trans h.tape, h'.output.trans h.output, Nat.le_trans h.size h'.size, fun k hk hn => (h'.block k (Nat.lt_of_lt_of_le hk h.size) (fun hh => hn (hs k hk hh))).trans (h.block k hk hn)⟩
theorem Keeps.alloc (h : Keeps S a w) (o : Obj) : Keeps S a (w.alloc o) := h.trans (S' := S) ⟨rfl, rfl, rfl, by simp, fun k hk _ => heap_alloc_old w o k hk⟩ (fun _ _ h => h)
theorem Keeps.drew (h : Keeps S a w) : Keeps S a w.drew := ⟨h.os, h.tape, h.output, h.size, h.block⟩
theorem Keeps.drewN (h : Keeps S a w) (n : Nat) : Keeps S a (w.drewN n) := ⟨h.os, h.tape, h.output, h.size, h.block⟩
theorem Keeps.setCell (h : Keeps S a w) {p : Addr} (hp : p.block < a.heap.size → S p.block) (u : Value) : Keeps S a (w.setCell p u) :=
  h.trans (S' := (· = p.block)) ⟨rfl, rfl, rfl, by simp [World.setCell], fun k _ hn => Below.heap_setCell _ _ _ _ hn⟩ (fun k hk e => by subst e; exact hp hk)
theorem Keeps.set1 (w : World) (b i : Nat) (v : Value) : Keeps (· = b) w (w.setCell ⟨b, i, none⟩ v) := ⟨rfl, rfl, rfl, by simp [World.setCell], fun k _ hn => Below.heap_setCell _ _ _ _ hn⟩
theorem Keeps.grown {row : Option Nat} (h : Keeps S a w) (hg : w.grownBy w' row) (hr : ∀ k, row = some k → k < a.heap.size → S k) : Keeps S a w' :=
  h.trans (S' := fun k => row = some k) ⟨hg.os, hg.tape, hg.output, hg.size, fun k hk hn => hg.block k hk (fun e => hn e.symm)⟩ (fun k hk e => hr k e hk)
theorem Keeps.below (h : Keeps (fun _ => False) w w') : Below w.heap.size w w' := ⟨h.os, h.tape, h.output, h.size, fun k hk => h.block k hk (fun h => h)⟩
theorem Keeps.of_below {B : Nat} (h : Below B w w') : Keeps (fun k => B ≤ k) w w' := ⟨h.os, h.tape, h.output, h.size, fun k _ hn => h.block k (by omega)⟩
theorem Keeps.heap {k : Nat} {o : Obj} (h : Keeps S w w') (hb : w.heap[k]? = some o) (hn : ¬ S k) : w'.heap[k]? = some o := by
  rw [h.block k (Array.getElem?_eq_some_iff.1 hb).1 hn]; exact hb
theorem Keeps.cell {p : Addr} {v : Value} (h : Keeps S w w') (hc : w.cell? p = some v) (hn : ¬ S p.block) : w'.cell? p = some v := by
  rw [World.cell?_of_block (h.block p.block (World.block_lt_of_cell? w p hc) hn)]; exact hc
end
theorem lt_of {w : World} {b : Nat} {o : Obj} (h : w.heap[b]? = some o) : b < w.heap.size := (Array.getElem?_eq_some_iff.1 h).1
theorem ne_new {w : World} {b : Nat} {o : Obj} (h : w.heap[b]? = some o) : b ≠ w.heap.size := Nat.ne_of_lt (lt_of h)

/-! ### a row of one's own -/
def OwnRow (w : World) (ok : Nat → Prop) (e : TypeId) (sz : Nat) (v : Value) (n : Nat) (cs : List Value) : Prop := w.ownsRow 0 e sz v n cs ∧ ∀ k, v.ownBlock = some k → ok k
section
variable {w w' : World} {ok : Nat → Prop} {e : TypeId} {sz : Nat} {v : Value} {n : Nat} {cs : List Value}
theorem OwnRow.nil (w : World) (ok : Nat → Prop) (e : TypeId) (sz : Nat) : OwnRow w ok e sz (.slice none 0 0) 0 [] := ⟨World.ownsRow_nil w 0 e sz, fun k hk => by simp [Value.ownBlock] at hk⟩
theorem OwnRow.mono {ok' : Nat → Prop} (h : OwnRow w ok e sz v n cs) (ho : ∀ k, k < w.heap.size → ok k → ok' k) : OwnRow w ok' e sz v n cs := ⟨h.1, fun k hk => ho k (h.1.lt k hk).2 (h.2 k hk)⟩
theorem OwnRow.lt (h : OwnRow w ok e sz v n cs) : ∀ k, v.ownBlock = some k → k < w.heap.size := fun k hk => (h.1.lt k hk).2
theorem OwnRow.kept {S : Nat → Prop} (h : OwnRow w ok e sz v n cs) (hk : Keeps S w w') (hn : ∀ k, ok k → ¬ S k) : OwnRow w' ok e sz v n cs := by
  refine ⟨⟨h.1.1, ?_⟩, h.2⟩
  rcases h.1.2 with h1 | ⟨g, cap, cur, rfl, hb, hg, rest⟩
  · exact .inl h1
  · exact .inr ⟨g, cap, cur, rfl, hb, hk.heap hg (hn g (h.2 g rfl)), rest⟩
/-- Its form where it is not empty. -/
theorem OwnRow.form (h : OwnRow w ok e sz v n cs) (hn : 0 < n) : ∃ g cap cur, v = .slice (some ⟨g, 0, none⟩) n cap ∧ ok g ∧ w.heap[g]? = some (.cells cur e (0, 0)) ∧ n ≤ cap ∧ cap ≤ maxLen ∧ cur.size = cap * sz ∧ cur.toList.take (n * sz) = cs := by
  rcases h.1.2 with ⟨_, h1⟩ | ⟨g, cap, cur, rfl, hb, hg, rest⟩
  · omega
  · exact ⟨g, cap, cur, rfl, h.2 g rfl, hg, rest⟩
theorem OwnRow.slice (h : OwnRow w ok e sz v n cs) : ∃ A c, v = .slice A n c ∧ n ≤ c ∧ c ≤ maxLen ∧ (A = none → n = 0 ∧ c = 0) := by
  rcases h.1.2 with ⟨h1, h2⟩ | ⟨g, cap, cur, rfl, hb, hg, h1, h2, _⟩
  · subst h2; exact ⟨none, 0, h1, Nat.le_refl _, by simp [maxLen], fun _ => ⟨rfl, rfl⟩⟩
  · exact ⟨some ⟨g, 0, none⟩, cap, rfl, h1, h2, fun h => by cases h⟩
theorem OwnRow.len (h : OwnRow w ok e sz v n cs) : cs.length = n * sz := h.1.1
theorem OwnRow.cells (h : OwnRow w ok e sz v n cs) {g m c : Nat} (hv : v = .slice (some ⟨g, 0, none⟩) m c) : ∀ j u, cs[j]? = some u → w.cell? ⟨g, j, none⟩ = some u := fun j u hu => by
  have := h.1.cells (g := g) (by rw [hv]; rfl) j u hu
  rwa [Addr.add_mid, Nat.zero_add] at this
end

/-! ### a slice that is read -/
/-- v is a slice of n elements, whose cells are cs, in a block that is ok. -/
def Rd (w : World) (ok : Nat → Prop) (v : Value) (n : Nat) (cs : List Value) : Prop :=
  ∃ A c, v = .slice A n c ∧ n ≤ c ∧ (A = none → n = 0 ∧ c = 0) ∧ (cs = [] ∨ ∃ b o, A = some ⟨b, o, none⟩ ∧ ok b ∧ ∀ j u, cs[j]? = some u → w.cell? ⟨b, o + j, none⟩ = some u)
section
variable {w w' : World} {ok : Nat → Prop} {e : TypeId} {sz : Nat} {v : Value} {n : Nat} {cs : List Value}
theorem Rd.mono {ok' : Nat → Prop} (h : Rd w ok v n cs) (ho : ∀ k, ok k → ok' k) : Rd w ok' v n cs := by
  obtain ⟨A, c, h1, h2, h3, h4⟩ := h
  refine ⟨A, c, h1, h2, h3, h4.imp id ?_⟩
  rintro ⟨b, o, e1, e2, e3⟩
  exact ⟨b, o, e1, ho b e2, e3⟩
theorem Rd.kept {S : Nat → Prop} (h : Rd w ok v n cs) (hk : Keeps S w w') (hn : ∀ k, ok k → ¬ S k) : Rd w' ok v n cs := by
  obtain ⟨A, c, h1, h2, h3, h4⟩ := h
  refine ⟨A, c, h1, h2, h3, h4.imp id ?_⟩
  rintro ⟨b, o, e1, e2, e3⟩
  exact ⟨b, o, e1, e2, fun j u hu => hk.cell (e3 j u hu) (hn b e2)⟩
theorem Rd.nil (w : World) (ok : Nat → Prop) : Rd w ok (.slice none 0 0) 0 [] := ⟨none, 0, rfl, Nat.le_refl _, fun _ => ⟨rfl, rfl⟩, .inl rfl⟩
theorem OwnRow.rd (h : OwnRow w ok e sz v n cs) : Rd w ok v n cs := by
  rcases h.1.2 with ⟨h1, h2⟩ | ⟨g, cap, cur, rfl, hb, hg, h1, h2, h3, h4⟩
  · subst h2
    have : cs = [] := List.eq_nil_of_length_eq_zero (by have := h.1.1; omega)
    subst this
    rw [h1]; exact Rd.nil w ok
  · exact ⟨_, _, rfl, h1, fun h => (by cases h), .inr ⟨g, 0, rfl, h.2 g rfl, fun j u hu => by rw [Nat.zero_add]; exact h.cells rfl j u hu⟩⟩
/-- The slice that is read, written out; the cell of each place. -/
theorem Rd.slice (h : Rd w ok v n cs) : ∃ A c, v = .slice A n c ∧ n ≤ c ∧ (A = none → n = 0 ∧ c = 0) := by
  obtain ⟨A, c, h1, h2, h3, _⟩ := h
  exact ⟨A, c, h1, h2, h3⟩
theorem Rd.at (h : Rd w ok v n cs) (hc : cs ≠ []) : ∃ b o c, v = .slice (some ⟨b, o, none⟩) n c ∧ n ≤ c ∧ ok b ∧ ∀ j u, cs[j]? = some u → w.cell? ⟨b, o + j, none⟩ = some u := by
  obtain ⟨A, c, h1, h2, h3, h4⟩ := h
  rcases h4 with h4 | ⟨b, o, rfl, e2, e3⟩
  · exact (hc h4).elim
  · exact ⟨b, o, c, h1, h2, e2, e3⟩
/-- All that is read of it lies below. -/
theorem Rd.lt (h : Rd w ok v n cs) : Rd w (fun k => ok k ∧ k < w.heap.size) v n cs := by
  obtain ⟨A, c, h1, h2, h3, h4⟩ := h
  refine ⟨A, c, h1, h2, h3, ?_⟩
  by_cases hc : cs = []
  · exact .inl hc
  · rcases h4 with h4 | ⟨b, o, e1, e2, e3⟩
    · exact (hc h4).elim
    · refine .inr ⟨b, o, e1, ⟨e2, ?_⟩, e3⟩
      cases cs with
      | nil => exact (hc rfl).elim
      | cons x r => exact World.block_lt_of_cell? w ⟨b, o + 0, none⟩ (e3 0 x rfl)
end

/-! ### steps -/
section
variable {P : Program} {ops : Array Oper} {rest : List Oper} {op : Oper} {a : Act} {w : World} {Q : Exit → Act → World → Prop}
/-- A step at an operation that is walked. -/
theorem plain_ (hw : Region.wanted op (yielded ops a.tmps) = true) (h : ∀ K : Act → World → Prop, (∀ a w, wpList P ops Q rest a w → K a w) → op.wp P a w K Q) : wpList P ops Q (op :: rest) a w :=
  wpList_step fun K hK => by rw [if_pos hw]; exact h K hK
/-- Only at the operation that fills slot n. -/
theorem at_ (n : Nat) (_ : op.dst = some n) (k : wpList P ops Q (op :: rest) a w) : wpList P ops Q (op :: rest) a w := k
/-- Only at the store of this operand through that one. -/
theorem at_store (t : TypeId) (x y : Operand) (_ : op.op = .store t x y) (k : wpList P ops Q (op :: rest) a w) : wpList P ops Q (op :: rest) a w := k
theorem heap_setCells (b : Nat) : ∀ (vs : List Value) (o : Nat) (w : World) (k : Nat), k ≠ b → (w.setCells b o vs).heap[k]? = w.heap[k]?
  | [], _, _, _, _ => rfl
  | v :: r, o, w, k, h => by
    rw [World.setCells, heap_setCells b r (o + 1) _ k h]
    exact Below.heap_setCell _ _ _ _ h
theorem size_setCells (b : Nat) : ∀ (vs : List Value) (o : Nat) (w : World), (w.setCells b o vs).heap.size = w.heap.size
  | [], _, _ => rfl
  | v :: r, o, w => by rw [World.setCells, size_setCells b r (o + 1)]; simp [World.setCell]
theorem rest_setCells (b : Nat) : ∀ (vs : List Value) (o : Nat) (w : World), (w.setCells b o vs).os = w.os ∧ (w.setCells b o vs).tape = w.tape ∧ (w.setCells b o vs).output = w.output
  | [], _, _ => ⟨rfl, rfl, rfl⟩
  | v :: r, o, w => by rw [World.setCells]; exact rest_setCells b r (o + 1) _
theorem Keeps.setCells (w : World) (b o : Nat) (vs : List Value) : Keeps (· = b) w (w.setCells b o vs) :=
  ⟨(rest_setCells b vs o w).1, (rest_setCells b vs o w).2.1, (rest_setCells b vs o w).2.2, by rw [size_setCells]; exact Nat.le_refl _, fun k _ hn => heap_setCells b vs o w k hn⟩
/-- The cells cs with vs put in from place o on. -/
def put (cs : List Value) (o : Nat) (vs : List Value) : List Value := cs.take o ++ vs ++ cs.drop (o + vs.length)
theorem put_whole {cs vs : List Value} (h : vs.length = cs.length) : put cs 0 vs = vs := by
  unfold put
  rw [List.take_zero, List.nil_append, Nat.zero_add, h, List.drop_length, List.append_nil]
theorem put_len {cs vs : List Value} {o : Nat} (h : o + vs.length ≤ cs.length) : (put cs o vs).length = cs.length := by
  unfold put
  rw [List.length_append, List.length_append, List.length_take, List.length_drop]; omega
theorem set_put (cs : List Value) (o : Nat) (v : Value) (r : List Value) (h : o + (r.length + 1) ≤ cs.length) : put (cs.set o v) (o + 1) r = put cs o (v :: r) := by
  have := list_seg_step cs o v r h
  unfold put
  rw [this, List.length_cons]
theorem block_setCells (b : Nat) (t : TypeId) : ∀ (vs : List Value) (o : Nat) (w : World) (cs : List Value), w.heap[b]? = some (.cells cs.toArray t (0, 0)) → o + vs.length ≤ cs.length → (w.setCells b o vs).heap[b]? = some (.cells (put cs o vs).toArray t (0, 0))
  | [], o, w, cs, h, _ => by rw [World.setCells]; unfold put; simpa using h
  | v :: r, o, w, cs, h, hl => by
    rw [World.setCells]
    have h1 : (w.setCell ⟨b, o, none⟩ v).heap[b]? = some (.cells (cs.set o v).toArray t (0, 0)) := by
      rw [heap_setCell_same w b o _ t v h]
      simp
    rw [block_setCells b t r (o + 1) _ (cs.set o v) h1 (by simp at hl ⊢; omega), set_put cs o v r (by simpa using hl)]
theorem there_of_block {b o n : Nat} {cs : List Value} {t : TypeId} (h : w.heap[b]? = some (.cells cs.toArray t (0, 0))) (hl : o + n ≤ cs.length) : w.there b o n := fun j hj => by
  refine ⟨?_, frozen_of_row w b (o + j) _ t h⟩
  rw [cell_of_row w b (o + j) _ t (0, 0) h]
  have : o + j < cs.length := by omega
  simp [this]
/-- A whole array or struct is stored into a block. -/
theorem step_store (hgd : Region.wanted op (yielded ops a.tmps) = true) (ty : TypeId) (x y : Operand) (ho : op.op = .store ty x y) (b o : Nat) (vs cs : List Value) (t : TypeId)
    (hx : a.eval x = .pointer (some ⟨b, o, none⟩)) (hy : a.eval y = .agg vs.toArray) (hb : w.heap[b]? = some (.cells cs.toArray t (0, 0))) (hl : o + vs.length ≤ cs.length)
    (hi : (P.info? ty).map (·.size) = some vs.length) (h1 : vs.toArray.all (·.oneCell') = true)
    (h : ∀ w', w'.heap[b]? = some (.cells (put cs o vs).toArray t (0, 0)) → Keeps (· = b) w w' → w'.heap.size = w.heap.size → wpList P ops Q rest (a.put op.dst undef) w') : wpList P ops Q (op :: rest) a w := by
  refine plain_ hgd fun K hK => wp_store_mid ty x y ho b o vs.toArray hx hy (by simpa using there_of_block hb hl) (by simpa using hi) h1 (hK _ _ ?_)
  exact h _ (block_setCells b t _ o w cs hb (by simpa using hl)) (Keeps.setCells w b o _) (size_setCells b _ o w)
/-- One cell is stored into a block. -/
theorem step_store1 (hgd : Region.wanted op (yielded ops a.tmps) = true) (ty : TypeId) (x y : Operand) (ho : op.op = .store ty x y) (b o : Nat) (v : Value) (cs : List Value) (t : TypeId)
    (hx : a.eval x = .pointer (some ⟨b, o, none⟩)) (hy : a.eval y = v) (hv : v.oneCell' = true) (hb : w.heap[b]? = some (.cells cs.toArray t (0, 0))) (hl : o < cs.length) (hi : (P.info? ty).map (·.size) = some 1)
    (h : ∀ w', w'.heap[b]? = some (.cells (cs.set o v).toArray t (0, 0)) → Keeps (· = b) w w' → w'.heap.size = w.heap.size → wpList P ops Q rest (a.put op.dst undef) w') : wpList P ops Q (op :: rest) a w := by
  refine plain_ hgd fun K hK => ?_
  have hcell : w.cell? ⟨b, o, none⟩ = some cs[o] := by rw [cell_of_row w b o _ t (0, 0) hb]; simp [hl]
  have hfro : w.frozen? ⟨b, o, none⟩ = false := frozen_of_row w b o _ t hb
  have hcs : v.cells = #[v] := by cases v <;> first | rfl | (simp [Value.oneCell'] at hv)
  unfold Oper.wp execOp
  have hr : (Instr.storeAt ty (.pointer (some ⟨b, o, none⟩)) v).run P w = .ok () (w.setCell ⟨b, o, none⟩ v) := by
    cases hq : P.info? ty with
    | none => simp [hq] at hi
    | some i =>
      have hs : i.size = 1 := by simpa [hq] using hi
      simp only [Instr.storeAt, Instr.sureAddr, Sem.run_bind, Sem.run_pure, Result.andThen_ok, Go.storeVar, hcs, Go.sizeOf, Go.typeInfo]
      simp only [Go.program, Sem.run, Result.andThen, hq]
      have hst : (Go.store ((⟨b, o, none⟩ : Addr).add 0) v).run P w = .ok () (w.setCell ⟨b, o, none⟩ v) := by
        rw [show (⟨b, o, none⟩ : Addr).add 0 = ⟨b, o, none⟩ from rfl, run_store P w _ v _ hv, hcell]
        simp [hfro]
      simp [hs, Go.storeCells, hst]
  simp only [ho, hx, hy, Sem.run_bind, hr, Result.andThen_ok, Sem.run_pure]
  refine hK _ _ (h _ ?_ ?_ ?_)
  · rw [heap_setCell_same w b o _ t v hb]; simp
  · exact (Keeps.refl (fun x => x = b) w).setCell (p := ⟨b, o, none⟩) (fun _ => rfl) v
  · simp [World.setCell]
/-- A whole array or struct is loaded out of a block. -/
theorem step_load (hgd : Region.wanted op (yielded ops a.tmps) = true) (ty : TypeId) (x : Operand) (ho : op.op = .load ty x) (b o : Nat) (vs cs : List Value) (t : TypeId) (fr : Nat × Nat) (d : TypeDesc)
    (hx : a.eval x = .pointer (some ⟨b, o, none⟩)) (hb : w.heap[b]? = some (.cells cs.toArray t fr)) (hv : (cs.drop o).take vs.length = vs)
    (hu : P.underlying ty = some d) (hd : d.isRow = true) (hi : (P.info? ty).map (·.size) = some vs.length)
    (h : wpList P ops Q rest (a.put op.dst (.agg vs.toArray)) w) : wpList P ops Q (op :: rest) a w := by
  refine plain_ hgd fun K hK => wp_load_mid ty x ho b o hx vs d (fun j u hu => ?_) hu hd hi (hK _ _ h)
  rw [cell_of_row w b (o + j) _ t fr hb]
  have hj : j < vs.length := (List.getElem?_eq_some_iff.1 hu).1
  rw [← hv, List.getElem?_take, if_pos hj, List.getElem?_drop] at hu
  simpa using hu
/-- The same where the cells are told one by one (a slice that is read). -/
theorem step_load_cells (hgd : Region.wanted op (yielded ops a.tmps) = true) (ty : TypeId) (x : Operand) (ho : op.op = .load ty x) (b o : Nat) (vs : List Value) (d : TypeDesc)
    (hx : a.eval x = .pointer (some ⟨b, o, none⟩)) (hc : ∀ j u, vs[j]? = some u → w.cell? ⟨b, o + j, none⟩ = some u)
    (hu : P.underlying ty = some d) (hd : d.isRow = true) (hi : (P.info? ty).map (·.size) = some vs.length)
    (h : wpList P ops Q rest (a.put op.dst (.agg vs.toArray)) w) : wpList P ops Q (op :: rest) a w :=
  plain_ hgd fun K hK => wp_load_mid ty x ho b o hx vs d hc hu hd hi (hK _ _ h)
/-- A new variable of a type whose zero is known. -/
theorem step_alloc (hgd : Region.wanted op (yielded ops a.tmps) = true) (ty : TypeId) (ho : op.op = .alloc ty) (z : Value) (zs : List Value) (hz : (P.info? ty).map (fun i => i.zero) = some (some z)) (hc : z.cells = zs.toArray)
    (h : ∀ w', w'.heap[w.heap.size]? = some (.cells zs.toArray ty (0, 0)) → Keeps (fun _ => False) w w' → w'.heap.size = w.heap.size + 1 → wpList P ops Q rest (a.put op.dst (.pointer (some ⟨w.heap.size, 0, none⟩))) w') : wpList P ops Q (op :: rest) a w := by
  refine plain_ hgd fun K hK => ?_
  have hr : (Instr.alloc ty true (.tuple #[])).run P w = .ok (.pointer (some ⟨w.heap.size, 0, none⟩)) (w.alloc (.cells zs.toArray ty)) := by
    cases hq : P.info? ty with
    | none => simp [hq] at hz
    | some i =>
      have hzi : i.zero = some z := by simpa [hq] using hz
      simp [Instr.alloc, zeroValue, typeInfo, hq, hzi, newVar, newRow, hc]
  unfold Oper.wp execOp
  simp only [ho, Sem.run_bind, hr, Result.andThen_ok, Sem.run_pure]
  exact hK _ _ (h _ (heap_alloc_new w _) ((Keeps.refl _ w).alloc _) (by simp))
/-- append to a row of one's own. -/
theorem step_append {ok : Nat → Prop} (hgd : Region.wanted op (yielded ops a.tmps) = true) (s x : Operand) (t : TypeId) (ho : op.op = .call { callee := .builtin .append, args := #[s, x], argTypes := #[t, t] })
    (e : TypeId) (z : Value) (sz by_ : Nat) (ht : P.underlying t = some (.slice e)) (hi : (P.info? e).map (fun i => (i.zero, i.size, i.bytes)) = some (some z, sz, by_)) (hzs : z.cells.size = sz) (hsz : 0 < sz)
    (v : Value) (n : Nat) (xs : List Value) (hs : a.eval s = v) (hown : OwnRow w ok e sz v n xs)
    (b o m c : Nat) (news : List Value) (hx : a.eval x = .slice (some ⟨b, o, none⟩) m c) (hl : news.length = m * sz) (hnews : ∀ j u, news[j]? = some u → w.cell? ⟨b, o + j, none⟩ = some u) (h1 : ∀ u ∈ news, u.oneCell' = true)
    (h63 : n + m ≤ maxLen) (hbytes : (n + m) * by_ ≤ 140737488355328)
    (h : ∀ v' w', OwnRow w' (fun k => ok k ∨ w.heap.size ≤ k) e sz v' (n + m) (xs ++ news) → Keeps (fun k => v.ownBlock = some k) w w' → (v' = .slice none 0 0 ↔ v = .slice none 0 0 ∧ m = 0) → wpList P ops Q rest (a.put op.dst v') w') : wpList P ops Q (op :: rest) a w := by
  cases hq : P.info? e with
  | none => simp [hq] at hi
  | some i =>
    obtain ⟨e1, e2, e3⟩ : i.zero = some z ∧ i.size = sz ∧ i.bytes = by_ := by simpa [hq] using hi
    -- what the new row's block is: the old row's, or new
    obtain ⟨v', w', hr, h2, h3, h4⟩ := run_append_own (P := P) w 0 t op.type e i z sz by_ ht hq e1 e2 e3 hzs hsz v n xs hown.1 ⟨b, o, none⟩ m c news hl (fun j u hu => by rw [Addr.add_mid]; exact hnews j u hu) h1 h63 hbytes (Nat.zero_le _)
    have hblk : ∀ k, v'.ownBlock = some k → v.ownBlock = some k ∨ w.heap.size ≤ k := by
      intro k hk
      rcases hown.1.2 with ⟨rfl, rfl⟩ | ⟨g, cap, cur, rfl, _, hg, hnc, hcm, hcs, htake⟩
      · obtain ⟨v2, w2, hr2, h22, _⟩ := run_append_own (P := P) w w.heap.size t op.type e i z sz by_ ht hq e1 e2 e3 hzs hsz (.slice none 0 0) 0 xs ⟨hown.1.1, .inl ⟨rfl, rfl⟩⟩ ⟨b, o, none⟩ m c news hl (fun j u hu => by rw [Addr.add_mid]; exact hnews j u hu) h1 h63 hbytes (Nat.le_refl _)
        rw [hr] at hr2
        simp only [Result.ok.injEq] at hr2
        obtain ⟨rfl, rfl⟩ := hr2
        exact .inr (h22.lt k hk).1
      · by_cases hroom : n + m ≤ cap
        · have hfit : n * i.size + news.length ≤ cur.size := by rw [hl, hcs, e2, ← Nat.add_mul]; exact Nat.mul_le_mul_right _ hroom
          have hr2 := run_append_room (P := P) w t op.type e i ht hq g n cap cur hg ⟨b, o, none⟩ m c news (by rw [e2]; exact hl) (fun j u hu => by rw [Addr.add_mid]; exact hnews j u hu) h1 hroom hfit
          rw [hr] at hr2
          simp only [Result.ok.injEq] at hr2
          obtain ⟨rfl, _⟩ := hr2
          exact .inl hk
        · have holds : ∀ j u, xs[j]? = some u → w.cell? ((⟨g, 0, none⟩ : Addr).add j) = some u := hown.1.cells (g := g) rfl
          have h63' : n + m ≤ 9223372036854775807 := by simp only [maxLen] at h63; omega
          have hr2 := run_append_grow (P := P) w t op.type e i z ht hq e1 ⟨g, 0, none⟩ n cap xs (by rw [e2]; exact hown.1.1) holds ⟨b, o, none⟩ m c news (by rw [e2]; exact hl) (fun j u hu => by rw [Addr.add_mid]; exact hnews j u hu) (by omega) (by omega) (growslice_fits (by omega) (by rw [e3]; exact hbytes))
          rw [hr] at hr2
          simp only [Result.ok.injEq] at hr2
          obtain ⟨rfl, _⟩ := hr2
          simp only [Value.ownBlock, Option.some.injEq] at hk
          exact .inr (by rw [← hk]; simp)
    refine plain_ hgd fun K hK => ?_
    unfold Oper.wp execOp
    simp only [ho, resolve, invoke, builtin, Sem.run_bind, Sem.run_pure, Result.andThen_ok, List.map_toArray, List.map_cons, List.map_nil, hs, hx, hr]
    refine hK _ _ (h v' w' ⟨h2, fun k hk => (hblk k hk).imp (hown.2 k) id⟩ ⟨h3.os, h3.tape, h3.output, h3.size, fun k hk hn => h3.block k hk (fun e => hn e.symm)⟩ h4)
/-- copy into a block, from a slice that is read. -/
theorem step_copy {ok : Nat → Prop} (hgd : Region.wanted op (yielded ops a.tmps) = true) (x y : Operand) (t t2 : TypeId) (ho : op.op = .call { callee := .builtin .copy, args := #[x, y], argTypes := #[t, t2] }) (e : TypeId) (ht : P.underlying t = some (.slice e)) (hi : (P.info? e).map (·.size) = some 1)
    (b o n c : Nat) (cs : List Value) (te : TypeId) (v : Value) (news : List Value) (hx : a.eval x = .slice (some ⟨b, o, none⟩) n c) (hy : a.eval y = v) (hr : Rd w ok v news.length news) (hn : news.length ≤ n)
    (hb : w.heap[b]? = some (.cells cs.toArray te (0, 0))) (hl : o + news.length ≤ cs.length) (h1 : ∀ v ∈ news, v.oneCell' = true)
    (h : ∀ w', w'.heap[b]? = some (.cells (put cs o news).toArray te (0, 0)) → Keeps (· = b) w w' → w'.heap.size = w.heap.size → wpList P ops Q rest (a.put op.dst (.int .i64 news.length)) w') : wpList P ops Q (op :: rest) a w := by
  obtain ⟨A, c2, rfl, h2, h3, h4⟩ := hr
  have hrun : ∃ w', (Builtin.copy_ #[t, t2] op.type #[.slice (some ⟨b, o, none⟩) n c, .slice A news.length c2]).run P w = .ok (goInt news.length) w' ∧ w'.heap[b]? = some (.cells (put cs o news).toArray te (0, 0)) ∧ Keeps (· = b) w w' ∧ w'.heap.size = w.heap.size := by
    cases A with
    | none =>
      obtain ⟨e1, e2⟩ := h3 rfl
      have e3 : news = [] := List.eq_nil_of_length_eq_zero e1
      subst e3
      subst e2
      refine ⟨w, run_copy_nil P w t t2 op.type e ⟨b, o, none⟩ n c ht (by rw [hi]; rfl), ?_, Keeps.refl _ w, rfl⟩
      rw [hb]; unfold put; simp
    | some ad =>
      have hcells : ∀ j u, news[j]? = some u → w.cell? (ad.add j) = some u := by
        intro j u hu
        rcases h4 with h4 | ⟨b', o', e1, _, e3⟩
        · rw [h4] at hu; simp at hu
        · cases e1
          rw [Addr.add_mid]; exact e3 j u hu
      have hr := run_copy_row P w t t2 op.type e b o n c ad news.length c2 cs.toArray te news ht hi hb (by simp [hn]) hcells (by simpa using hl) h1
      refine ⟨_, hr, ?_, ?_, ?_⟩
      · rw [setRow_heap w b cs.toArray _ te _ hb]; rfl
      · exact ⟨rfl, rfl, rfl, by simp, fun k _ hk => setRow_other w b k _ hk⟩
      · simp
  obtain ⟨w', hr, h5, h6, h7⟩ := hrun
  refine plain_ hgd fun K hK => ?_
  unfold Oper.wp execOp
  simp only [ho, resolve, invoke, builtin, Sem.run_bind, Sem.run_pure, Result.andThen_ok, List.map_toArray, List.map_cons, List.map_nil, hx, hy, hr]
  exact hK _ _ (h w' h5 h6 h7)
/-- A struct or an array is built of what is known. -/
theorem step_build (hgd : Region.wanted op (yielded ops a.tmps) = true) (ty : TypeId) (ps : Array (Nat × Operand)) (ho : op.op = .build ty ps) (vs : List (Nat × Value)) (hv : (ps.toList.map fun (i, x) => (i, a.eval x)) = vs) (r : Value) (hr : ∀ w, (Instr.build ty vs.toArray).run P w = .ok r w)
    (h : wpList P ops Q rest (a.put op.dst r) w) : wpList P ops Q (op :: rest) a w := by
  refine plain_ hgd fun K hK => ?_
  unfold Oper.wp execOp
  simp only [ho]
  rw [show (ps.map fun (i, x) => (i, a.eval x)) = vs.toArray by apply Array.ext'; rw [Array.toList_map]; exact hv]
  simp only [Sem.run_bind, hr, Result.andThen_ok, Sem.run_pure]
  exact hK _ _ h
/-- A slice literal of some elements of sz cells each: a new block. -/
theorem step_lit (hgd : Region.wanted op (yielded ops a.tmps) = true) (ty : TypeId) (ps : Array (Nat × Operand)) (n : Nat) (ho : op.op = .buildSlice ty n ps) (vs : List Value) (hv : (ps.toList.map fun (i, x) => (i, a.eval x)) = (vs.zipIdx 0).map fun x => (x.2, x.1)) (hn : n = vs.length) (hpos : 0 < n) (e : TypeId) (z : Value) (sz : Nat)
    (hu : P.underlying ty = some (.slice e)) (hi : (P.info? e).map (fun i => (i.zero, i.size)) = some (some z, sz)) (hsz : 0 < sz) (hsm : n * sz ≤ 16777216) (h1 : ∀ v ∈ vs, v.cells.size = sz)
    (h : ∀ w', w'.heap[w.heap.size]? = some (.cells (vs.flatMap fun v => v.cells.toList).toArray e (0, 0)) → Keeps (fun _ => False) w w' → w'.heap.size = w.heap.size + 1 → wpList P ops Q rest (a.put op.dst (.slice (some ⟨w.heap.size, 0, none⟩) n n)) w') : wpList P ops Q (op :: rest) a w := by
  cases hq : P.info? e with
  | none => simp [hq] at hi
  | some i =>
    obtain ⟨e1, e2⟩ : i.zero = some z ∧ i.size = sz := by simpa [hq] using hi
    have hp : 0 < n * sz := Nat.mul_pos hpos hsz
    refine plain_ hgd fun K hK => wp_buildSlice ty e n ps ho _ i z hu hq e1 (by rw [e2]; omega) (by rw [e2]; omega) ?_ (hK _ _ (h _ (heap_alloc_new w _) ((Keeps.refl _ w).alloc _) (by simp)))
    rw [Array.toList_map, hv, e2]
    exact Great.fill_whole hsz vs _ h1 (by simp [hn])
/-- make([]T, n): a new block of noughts. -/
theorem step_make (hgd : Region.wanted op (yielded ops a.tmps) = true) (l c : Operand) (t : TypeId) (ho : op.op = .makeSlice t l c) (e : TypeId) (z : Value) (sz by_ : Nat) (ht : P.underlying t = some (.slice e)) (hi : (P.info? e).map (fun i => (i.zero, i.size, i.bytes)) = some (some z, sz, by_))
    (kl kc : IntKind) (n : Nat) (hl : a.eval l = .int kl (n : Int)) (hc : a.eval c = .int kc (n : Int)) (hb : by_ * n ≤ 281474976710656) (hm : n ≤ maxLen)
    (h : ∀ w', w'.heap[w.heap.size]? = some (.cells (madeCells z.cells (n * sz)) e (0, 0)) → Keeps (fun _ => False) w w' → wpList P ops Q rest (a.put op.dst (.slice (some ⟨w.heap.size, 0, none⟩) n n)) w') : wpList P ops Q (op :: rest) a w := by
  cases hq : P.info? e with
  | none => simp [hq] at hi
  | some i =>
    obtain ⟨e1, e2, e3⟩ : i.zero = some z ∧ i.size = sz ∧ i.bytes = by_ := by simpa [hq] using hi
    obtain ⟨w', hrun, hw, hg⟩ := run_make_full (P := P) w 0 t e i z sz ht hq e1 e2 kl kc n (by rw [e3]; exact hb) hm (Nat.zero_le _)
    refine plain_ hgd fun K hK => ?_
    unfold Oper.wp execOp
    simp only [ho, hl, hc, Sem.run_bind, hrun, Result.andThen_ok, Sem.run_pure]
    refine hK _ _ (h w' ?_ ⟨hg.os, hg.tape, hg.output, hg.size, fun k hk _ => hg.block k hk (by simp)⟩)
    rcases hw.2 with ⟨h1, _⟩ | ⟨g, cap, cur, h1, _, h2, _, _, h3, h4⟩
    · cases h1
    · cases h1
      rw [h2]
      congr 2
      apply Array.ext'
      rw [← h4, List.take_of_length_le (by rw [Array.length_toList, h3]; exact Nat.le_refl _)]
/-- append of a whole slice that is read to a row of one's own. -/
theorem step_append_rd {ok ok2 : Nat → Prop} (hgd : Region.wanted op (yielded ops a.tmps) = true) (s x : Operand) (t : TypeId) (ho : op.op = .call { callee := .builtin .append, args := #[s, x], argTypes := #[t, t] })
    (e : TypeId) (z : Value) (sz by_ : Nat) (ht : P.underlying t = some (.slice e)) (hi : (P.info? e).map (fun i => (i.zero, i.size, i.bytes)) = some (some z, sz, by_)) (hzs : z.cells.size = sz) (hsz : 0 < sz)
    (v : Value) (n : Nat) (xs : List Value) (hs : a.eval s = v) (hown : OwnRow w ok e sz v n xs)
    (xv : Value) (m : Nat) (news : List Value) (hx : a.eval x = xv) (hr : Rd w ok2 xv m news) (hl : news.length = m * sz) (h1 : ∀ u ∈ news, u.oneCell' = true)
    (h63 : n + m ≤ maxLen) (hbytes : (n + m) * by_ ≤ 140737488355328)
    (h : ∀ v' w', OwnRow w' (fun k => ok k ∨ w.heap.size ≤ k) e sz v' (n + m) (xs ++ news) → Keeps (fun k => v.ownBlock = some k) w w' → wpList P ops Q rest (a.put op.dst v') w') : wpList P ops Q (op :: rest) a w := by
  obtain ⟨A, c, rfl, h2, h3, h4⟩ := hr
  cases A with
  | none =>
    obtain ⟨rfl, rfl⟩ := h3 rfl
    have e0 : news = [] := List.eq_nil_of_length_eq_zero (by omega)
    subst e0
    cases hq : P.info? e with
    | none => simp [hq] at hi
    | some i =>
      obtain ⟨e1, e2, e3⟩ : i.zero = some z ∧ i.size = sz ∧ i.bytes = by_ := by simpa [hq] using hi
      obtain ⟨v', w', hr, hh⟩ : ∃ v' w', (Builtin.append_ #[t, t] op.type #[v, .slice none 0 0]).run P w = .ok v' w' ∧ v' = v ∧ w' = w := by
        rcases hown.1.2 with ⟨rfl, _⟩ | ⟨g, cap, cur, rfl, _, _, hnc, _⟩
        · exact ⟨_, _, by simp [Builtin.append_, run_underlying ht, sizeOf, typeInfo, hq, Builtin.lenOf, Builtin.firstCells, loadCells, loadCellsFrom], rfl, rfl⟩
        · exact ⟨_, _, by simp [Builtin.append_, run_underlying ht, sizeOf, typeInfo, hq, Builtin.lenOf, Builtin.firstCells, loadCells, loadCellsFrom, hnc, storeCells], rfl, rfl⟩
      obtain ⟨rfl, rfl⟩ := hh
      refine plain_ hgd fun K hK => ?_
      unfold Oper.wp execOp
      simp only [ho, resolve, invoke, builtin, Sem.run_bind, Sem.run_pure, Result.andThen_ok, List.map_toArray, List.map_cons, List.map_nil, hs, hx, hr]
      refine hK _ _ (h v' w' ?_ (Keeps.refl _ _))
      simp only [Nat.add_zero, List.append_nil]
      exact hown.mono (fun k _ hk => .inl hk)
  | some ad =>
    cases hq : P.info? e with
    | none => simp [hq] at hi
    | some i =>
      by_cases hne : news = []
      · subst hne
        have hm0 : m = 0 := by
          have : m * sz = 0 := by simpa using hl.symm
          rcases Nat.mul_eq_zero.1 this with h | h
          · exact h
          · omega
        subst hm0
        obtain ⟨e1, e2, e3⟩ : i.zero = some z ∧ i.size = sz ∧ i.bytes = by_ := by simpa [hq] using hi
        obtain ⟨v', w', hr, hh⟩ : ∃ v' w', (Builtin.append_ #[t, t] op.type #[v, .slice (some ad) 0 c]).run P w = .ok v' w' ∧ v' = v ∧ w' = w := by
          rcases hown.1.2 with ⟨rfl, _⟩ | ⟨g, cap, cur, rfl, _, _, hnc, _⟩
          · exact ⟨_, _, by simp [Builtin.append_, run_underlying ht, sizeOf, typeInfo, hq, Builtin.lenOf, Builtin.firstCells, loadCells, loadCellsFrom], rfl, rfl⟩
          · exact ⟨_, _, by simp [Builtin.append_, run_underlying ht, sizeOf, typeInfo, hq, Builtin.lenOf, Builtin.firstCells, loadCells, loadCellsFrom, hnc, storeCells], rfl, rfl⟩
        obtain ⟨rfl, rfl⟩ := hh
        refine plain_ hgd fun K hK => ?_
        unfold Oper.wp execOp
        simp only [ho, resolve, invoke, builtin, Sem.run_bind, Sem.run_pure, Result.andThen_ok, List.map_toArray, List.map_cons, List.map_nil, hs, hx, hr]
        refine hK _ _ (h v' w' ?_ (Keeps.refl _ _))
        simp only [Nat.add_zero, List.append_nil]
        exact hown.mono (fun k _ hk => .inl hk)
      · obtain ⟨b, o, e1, _, e3⟩ := h4.resolve_left hne
        cases e1
        exact step_append hgd s x t ho e z sz by_ ht hi hzs hsz v n xs hs hown b o m c news hx hl e3 h1 h63 hbytes (fun v' w' g1 g2 _ => h v' w' g1 g2)
/-- A value is laid into a new variable. -/
theorem step_box (hgd : Region.wanted op (yielded ops a.tmps) = true) (ty : TypeId) (x : Operand) (ho : op.op = .box ty x) (v : Value) (hx : a.eval x = v) (cs : List Value) (hc : v.cells = cs.toArray)
    (h : ∀ w', w'.heap[w.heap.size]? = some (.cells cs.toArray ty (0, 0)) → Keeps (fun _ => False) w w' → w'.heap.size = w.heap.size + 1 → wpList P ops Q rest (a.put op.dst (.pointer (some ⟨w.heap.size, 0, none⟩))) w') : wpList P ops Q (op :: rest) a w := by
  refine plain_ hgd fun K hK => ?_
  have hr : (Instr.box ty v).run P w = .ok (.pointer (some ⟨w.heap.size, 0, none⟩)) (w.alloc (.cells cs.toArray ty)) := by
    simp [Instr.box, newVar, newRow, hc]
  unfold Oper.wp execOp
  simp only [ho, hx, Sem.run_bind, hr, Result.andThen_ok, Sem.run_pure]
  exact hK _ _ (h _ (heap_alloc_new w _) ((Keeps.refl _ w).alloc _) (by simp))
end
end Go.Mem
