/-
  Changes in memory of one's own.
-/
import Derived.Test.YtbiohidelhfaiaaChgM
namespace Go.Proofs.Ytbiohidelhfaiaa
open Go.RowKit Go.Canon Go.Mem
open Go.Proofs.Ytbiohidelhfaiaa.Sto (Chg)
set_option linter.unusedVariables false
set_option linter.unusedSimpArgs false
def chgCells (l : List Chg) (vs : List Value) : List Value := (l.zip vs).flatMap fun p => chgC p.1 p.2
theorem chgCells_snoc (l : List Chg) (vs : List Value) (c : Chg) (u : Value) (h : vs.length = l.length) : chgCells (l ++ [c]) (vs ++ [u]) = chgCells l vs ++ chgC c u := by
  unfold chgCells
  rw [List.zip_append h.symm, List.flatMap_append]; simp
theorem chgCells_at : ∀ (l : List Chg) (vs : List Value) (i : Nat) (c : Chg) (u : Value), l[i]? = some c → vs[i]? = some u → ∀ j, j < 3 → (chgCells l vs)[i * 3 + j]? = (chgC c u)[j]? := by
  intro l
  induction l with
  | nil => intro vs i c u h; simp at h
  | cons d l ih =>
    intro vs i c u h1 h2 j hj
    cases vs with
    | nil => simp at h2
    | cons v vs =>
      have e : chgCells (d :: l) (v :: vs) = chgC d v ++ chgCells l vs := by simp [chgCells]
      rw [e]
      cases i with
      | zero =>
        simp only [List.getElem?_cons_zero, Option.some.injEq] at h1 h2
        subst h1 h2
        rw [Nat.zero_mul, Nat.zero_add, List.getElem?_append_left (by simp [chgC]; omega)]
      | succ i =>
        simp only [List.getElem?_cons_succ] at h1 h2
        rw [List.getElem?_append_right (by simp [chgC]; omega), ← ih vs i c u h1 h2 j hj]
        congr 1
        simp [chgC]; omega
/-- The changes lie in memory of one's own: the row, the values; no value lies in the row's block. -/
def ChgOwn (w : World) (ok : Nat → Prop) (v : Value) (l : List Chg) : Prop := ∃ vs : List Value, vs.length = l.length ∧ OwnRow w ok 41 3 v l.length (chgCells l vs) ∧ (∀ (i : Nat) (c : Chg) (u : Value), l[i]? = some c → vs[i]? = some u → OwnRow w ok 5 1 u c.val.length (Disk.bytes8 c.val)) ∧ ∀ u ∈ vs, ∀ k, v.ownBlock = some k → u.ownBlock ≠ some k
theorem ChgOwn.nil (w : World) (ok : Nat → Prop) : ChgOwn w ok (.slice none 0 0) [] := ⟨[], rfl, OwnRow.nil _ _ _ _, fun i c u h => by simp at h, fun u h => by cases h⟩
theorem ChgOwn.kept {w w' : World} {ok S : Nat → Prop} {v : Value} {l : List Chg} (h : ChgOwn w ok v l) (hk : Keeps S w w') (hn : ∀ k, ok k → ¬ S k) : ChgOwn w' ok v l := by
  obtain ⟨vs, h1, h2, h3, h4⟩ := h
  exact ⟨vs, h1, h2.kept hk hn, fun i c u hc hu => (h3 i c u hc hu).kept hk hn, h4⟩
theorem ChgOwn.mono {w : World} {ok ok' : Nat → Prop} {v : Value} {l : List Chg} (h : ChgOwn w ok v l) (ho : ∀ k, k < w.heap.size → ok k → ok' k) : ChgOwn w ok' v l := by
  obtain ⟨vs, h1, h2, h3, h4⟩ := h
  exact ⟨vs, h1, h2.mono ho, fun i c u hc hu => (h3 i c u hc hu).mono ho, h4⟩
theorem ChgOwn.slice {w : World} {ok : Nat → Prop} {v : Value} {l : List Chg} (h : ChgOwn w ok v l) : ∃ A c, v = .slice A l.length c ∧ l.length ≤ c := by
  obtain ⟨vs, h1, h2, h3, h4⟩ := h
  obtain ⟨A, c, e, h, _⟩ := h2.slice
  exact ⟨A, c, e, h⟩
theorem ChgOwn.chgs {w : World} {ok : Nat → Prop} {v : Value} {l : List Chg} (h : ChgOwn w ok v l) : Chgs w ok v l := by
  obtain ⟨vs, h1, h2, h3, h4⟩ := h
  obtain ⟨A, c, rfl, hc, _, hz⟩ := h2.slice
  refine ⟨A, c, rfl, hc, fun e => (hz e).2, fun i d hi => ?_⟩
  have hil : i < l.length := (List.getElem?_eq_some_iff.1 hi).1
  obtain ⟨u, hu⟩ : ∃ u, vs[i]? = some u := ⟨vs[i], List.getElem?_eq_getElem (by omega)⟩
  obtain ⟨g, cap, cur, e, hg, hb, _⟩ := h2.form (by omega)
  cases e
  have hcell := fun j (hj : j < 3) (x : Value) (hx : (chgC d u)[j]? = some x) => h2.cells (g := g) (m := l.length) (c := c) rfl (i * 3 + j) x (by rw [chgCells_at l vs i d u hi hu j hj]; exact hx)
  refine ⟨g, 0, rfl, hg, u, ?_, ?_, ?_, (h3 i d u hi hu).rd⟩
  · have := hcell 0 (by decide) _ rfl
    rwa [Nat.add_zero, ← Nat.zero_add (i * 3)] at this
  · have := hcell 1 (by decide) _ rfl
    rwa [← Nat.zero_add (i * 3)] at this
  · have := hcell 2 (by decide) _ rfl
    rwa [← Nat.zero_add (i * 3)] at this
theorem row3_chg : (Try.prog.info? 41).map (fun i => (i.zero, i.size, i.bytes)) = some (some (.agg #[.string ⟨#[]⟩, .bool false, .slice none 0 0]), 3, 48) := by kernel_rfl
section
variable {ops : Array Oper} {op : Oper} {rest : List Oper} {a : Act} {w : World} {Q : Exit → Act → World → Prop}
/-- append(l, c): the change lies in a block by itself. -/
theorem step_push {ok : Nat → Prop} (hgd : Region.wanted op (yielded ops a.tmps) = true) (s x : Operand) (ho : op.op = .call { callee := .builtin .append, args := #[s, x], argTypes := #[22, 22] })
    (v : Value) (l : List Chg) (hs : a.eval s = v) (h : ChgOwn w ok v l) (c : Chg) (u : Value) (b : Nat) (hx : a.eval x = .slice (some ⟨b, 0, none⟩) 1 1) (hb : w.heap[b]? = some (.cells (chgC c u).toArray 41 (0, 0))) (hu : OwnRow w ok 5 1 u c.val.length (Disk.bytes8 c.val)) (hun : ∀ k, v.ownBlock = some k → u.ownBlock ≠ some k) (hn : l.length ≤ 1000000)
    (k : ∀ v' w', ChgOwn w' (fun j => ok j ∨ w.heap.size ≤ j) v' (l ++ [c]) → Keeps (fun j => v.ownBlock = some j) w w' → wpList Try.prog ops Q rest (a.put op.dst v') w') : wpList Try.prog ops Q (op :: rest) a w := by
  obtain ⟨vs, h1, h2, h3, h4⟩ := h
  have h2' : OwnRow w (fun j => v.ownBlock = some j) 41 3 v l.length (chgCells l vs) := ⟨h2.1, fun j hj => hj⟩
  have hone : u.oneCell' = true := Rd.one hu.rd
  refine step_append hgd s x 22 ho 41 _ 3 48 Try.underlying22 row3_chg rfl (by decide) v l.length (chgCells l vs) hs h2' b 0 1 1 (chgC c u) hx rfl (fun j y hy => by rw [cell_of_row w b _ _ _ _ hb, Nat.zero_add]; simpa using hy) (by intro y hy; simp only [chgC, List.mem_cons, List.not_mem_nil, or_false] at hy; rcases hy with rfl | rfl | rfl; rfl; rfl; exact hone) (by simp only [maxLen]; omega) (by omega) (fun v' w' h5 h6 _ => k v' w' ⟨vs ++ [u], by rw [List.length_append, List.length_append, h1]; rfl, ?_, ?_, ?_⟩ h6)
  · rw [chgCells_snoc l vs c u h1, List.length_append]
    exact h5.mono (fun j _ e => e.elim (fun e => .inl (h2.2 j e)) .inr)
  · intro i d y hd hy
    by_cases hi : i < l.length
    · rw [List.getElem?_append_left hi] at hd
      rw [List.getElem?_append_left (by omega)] at hy
      have hmem : y ∈ vs := List.mem_of_getElem? hy
      have h7 := h3 i d y hd hy
      have h8 : OwnRow w (fun j => ok j ∧ y.ownBlock = some j) 5 1 y d.val.length (Disk.bytes8 d.val) := ⟨h7.1, fun j hj => ⟨h7.2 j hj, hj⟩⟩
      exact (h8.kept h6 (fun j hj e => h4 y hmem j e hj.2)).mono (fun j _ e => .inl e.1)
    · rw [List.getElem?_append_right (by omega)] at hd
      rw [List.getElem?_append_right (by omega)] at hy
      have hi0 : i - l.length = 0 := by have := (List.getElem?_eq_some_iff.1 hd).1; simp at this; omega
      have hi1 : i - vs.length = 0 := by omega
      rw [hi0] at hd
      rw [hi1] at hy
      simp only [List.getElem?_cons_zero, Option.some.injEq] at hd hy
      subst hd hy
      have h8 : OwnRow w (fun j => ok j ∧ u.ownBlock = some j) 5 1 u c.val.length (Disk.bytes8 c.val) := ⟨hu.1, fun j hj => ⟨hu.2 j hj, hj⟩⟩
      exact (h8.kept h6 (fun j hj e => hun j e hj.2)).mono (fun j _ e => .inl e.1)
  · intro y hy j hj e
    have hlt : j < w.heap.size := by
      rcases List.mem_append.1 hy with hy | hy
      · obtain ⟨i, hi⟩ := List.mem_iff_getElem?.1 hy
        have hil : i < l.length := by have := (List.getElem?_eq_some_iff.1 hi).1; omega
        exact (h3 i l[i] y (List.getElem?_eq_getElem hil) hi).lt j e
      · rw [List.mem_singleton] at hy; subst hy; exact hu.lt j e
    rcases h5.2 j hj with h | h
    · rcases List.mem_append.1 hy with hy | hy
      · exact h4 y hy j h e
      · rw [List.mem_singleton] at hy; subst hy; exact hun j h e
    · omega
end
end Go.Proofs.Ytbiohidelhfaiaa
