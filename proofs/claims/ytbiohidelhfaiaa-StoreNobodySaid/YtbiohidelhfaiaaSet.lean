/-
  More steps over plain worlds: one cell of a row of one's own is set; a text out of bytes.
-/
import Derived.Test.YtbiohidelhfaiaaStr
import Derived.Lib.BufferRead
namespace Go.Proofs.Ytbiohidelhfaiaa
open Go.RowKit Go.Canon Go.Mem
set_option linter.unusedVariables false
set_option linter.unusedSimpArgs false
section
variable {P : Program} {ops : Array Oper} {op : Oper} {rest : List Oper} {a : Act} {w : World} {Q : Exit → Act → World → Prop}
/-- One cell of a row of one's own is set. -/
theorem step_set {ok : Nat → Prop} (hgd : Region.wanted op (yielded ops a.tmps) = true) (ty : TypeId) (x y : Operand) (ho : op.op = .store ty x y) (e : TypeId) (g j n c : Nat) (v : Value) (cs : List Value)
    (hx : a.eval x = .pointer (some ⟨g, j, none⟩)) (hy : a.eval y = v) (hv : v.oneCell' = true) (hown : OwnRow w ok e 1 (.slice (some ⟨g, 0, none⟩) n c) n cs) (hj : j < n) (hi : (P.info? ty).map (·.size) = some 1)
    (h : ∀ w', OwnRow w' ok e 1 (.slice (some ⟨g, 0, none⟩) n c) n (cs.set j v) → Keeps (· = g) w w' → w'.heap.size = w.heap.size → wpList P ops Q rest (a.put op.dst undef) w') : wpList P ops Q (op :: rest) a w := by
  obtain ⟨g', cap, cur, e1, hok, hb, h1, h2, h3, h4⟩ := hown.form (by omega)
  cases e1
  refine step_store1 hgd ty x y ho g j v cur.toList e hx hy hv (by simpa using hb) (by rw [Array.length_toList]; omega) hi (fun w' hb' hk hs => h w' ⟨⟨by rw [List.length_set]; exact hown.len, .inr ⟨g, c, (cur.toList.set j v).toArray, rfl, Nat.zero_le _, hb', h1, h2, by simp [h3], ?_⟩⟩, fun k hk => hown.2 k hk⟩ hk hs)
  rw [← h4, Nat.mul_one, ← List.take_set]
theorem range_of {b : Nat} {vs : List Value} {te : TypeId} {fr : Nat × Nat} (hb : w.heap[b]? = some (.cells vs.toArray te fr)) : w.rangeAt b 0 vs := fun j u hu => by
  rw [cell_of_row w b (0 + j) _ te fr hb, Nat.zero_add]
  simpa using hu
/-- A struct is handed back, out of its variable. -/
theorem ret_cell {fn : Func} {t : Tmp} {ty : TypeId} (h : fn.results = #[.cell t ty]) {tmps : Array Value} {b : Nat} (vs : List Value) {te : TypeId} {fr : Nat × Nat} (d : TypeDesc) (hx : tmps.getD t undef = .pointer (some ⟨b, 0, none⟩)) (hb : w.heap[b]? = some (.cells vs.toArray te fr))
    (hu : P.underlying ty = some d) (hd : d.isRow = true) (hi : (P.info? ty).map (·.size) = some vs.length) : (results fn tmps).run P w = .ok (.agg vs.toArray) w := by
  have hx' : tmps[t]?.getD undef = .pointer (some ⟨b, 0, none⟩) := by rw [← Array.getD_eq_getD_getElem?]; exact hx
  simp [results, h, hx', asAddr, run_loadVar_mid w b 0 ty vs d (range_of hb) hu hd hi]
theorem ret_cell_tmp {fn : Func} {t s : Tmp} {ty : TypeId} (h : fn.results = #[.cell t ty, .tmp s]) {tmps : Array Value} {b : Nat} (vs : List Value) {te : TypeId} {fr : Nat × Nat} (d : TypeDesc) (hx : tmps.getD t undef = .pointer (some ⟨b, 0, none⟩)) (hb : w.heap[b]? = some (.cells vs.toArray te fr))
    (hu : P.underlying ty = some d) (hd : d.isRow = true) (hi : (P.info? ty).map (·.size) = some vs.length) : (results fn tmps).run P w = .ok (.tuple #[.agg vs.toArray, tmps.getD s undef]) w := by
  have hx' : tmps[t]?.getD undef = .pointer (some ⟨b, 0, none⟩) := by rw [← Array.getD_eq_getD_getElem?]; exact hx
  simp [results, h, hx', asAddr, run_loadVar_mid w b 0 ty vs d (range_of hb) hu hd hi]
/-- The world gets a name. -/
theorem name_ {c : Code} {a : Act} {w : World} {Q : Exit → Act → World → Prop} (h : ∀ w', w' = w → Code.wp P c Q a w') : Code.wp P c Q a w := h w rfl
theorem alloc1 {w w1 : World} {A : Array Value} {s : TypeId} (h : w1 = w.alloc (.cells A s)) : w1.heap[w.heap.size]? = some (.cells A.toList.toArray s (0, 0)) ∧ Keeps (fun _ => False) w w1 ∧ w1.heap.size = w.heap.size + 1 := by
  subst h
  exact ⟨heap_alloc_new w _, (Keeps.refl _ w).alloc _, by simp⟩
theorem alloc2 {w w1 : World} {A B : Array Value} {s t : TypeId} (h : w1 = (w.alloc (.cells A s)).alloc (.cells B t)) : w1.heap[w.heap.size]? = some (.cells A.toList.toArray s (0, 0)) ∧ w1.heap[w.heap.size + 1]? = some (.cells B.toList.toArray t (0, 0)) ∧ Keeps (fun _ => False) w w1 ∧ w1.heap.size = w.heap.size + 2 := by
  subst h
  refine ⟨?_, ?_, ((Keeps.refl _ w).alloc _).alloc _, by simp⟩
  · exact (((Keeps.refl (fun _ => False) (w.alloc (.cells A s))).alloc (.cells B t)).heap (heap_alloc_new w _) (fun h => h))
  · have := heap_alloc_new (w.alloc (.cells A s)) (.cells B t)
    simpa using this
theorem alloc3 {w w1 : World} {A B C : Array Value} {s t u : TypeId} (h : w1 = ((w.alloc (.cells A s)).alloc (.cells B t)).alloc (.cells C u)) : w1.heap[w.heap.size]? = some (.cells A.toList.toArray s (0, 0)) ∧ w1.heap[w.heap.size + 1]? = some (.cells B.toList.toArray t (0, 0)) ∧ w1.heap[w.heap.size + 1 + 1]? = some (.cells C.toList.toArray u (0, 0)) ∧ Keeps (fun _ => False) w w1 ∧ w1.heap.size = w.heap.size + 3 := by
  subst h
  obtain ⟨h1, h2, h3, h4⟩ := alloc2 (rfl : (w.alloc (.cells A s)).alloc (.cells B t) = (w.alloc (.cells A s)).alloc (.cells B t))
  have hk : Keeps (fun _ => False) ((w.alloc (.cells A s)).alloc (.cells B t)) (((w.alloc (.cells A s)).alloc (.cells B t)).alloc (.cells C u)) := (Keeps.refl _ _).alloc _
  refine ⟨hk.heap h1 (fun h => h), hk.heap h2 (fun h => h), ?_, h3.trans hk (fun _ _ h => h), by simp⟩
  have := heap_alloc_new ((w.alloc (.cells A s)).alloc (.cells B t)) (.cells C u)
  simpa using this
theorem after1 {w w2 : World} {A : Array Value} {s : TypeId} (h : Keeps (fun _ => False) (w.alloc (.cells A s)) w2) : w2.heap[w.heap.size]? = some (.cells A.toList.toArray s (0, 0)) ∧ Keeps (fun _ => False) w w2 ∧ w.heap.size + 1 ≤ w2.heap.size := by
  obtain ⟨h1, h2, h3⟩ := alloc1 (rfl : w.alloc (.cells A s) = _)
  exact ⟨h.heap h1 (fun h => h), h2.trans h (fun _ _ h => h), by have := h.size; omega⟩
theorem after2 {w w2 : World} {A B : Array Value} {s t : TypeId} (h : Keeps (fun _ => False) ((w.alloc (.cells A s)).alloc (.cells B t)) w2) : w2.heap[w.heap.size]? = some (.cells A.toList.toArray s (0, 0)) ∧ w2.heap[w.heap.size + 1]? = some (.cells B.toList.toArray t (0, 0)) ∧ Keeps (fun _ => False) w w2 ∧ w.heap.size + 2 ≤ w2.heap.size := by
  obtain ⟨h1, h2, h3, h4⟩ := alloc2 (rfl : (w.alloc (.cells A s)).alloc (.cells B t) = _)
  exact ⟨h.heap h1 (fun h => h), h.heap h2 (fun h => h), h3.trans h (fun _ _ h => h), by have := h.size; omega⟩
/-- x[k:] of a slice that is read. -/
theorem step_slice_from {ok : Nat → Prop} (hgd : Region.wanted op (yielded ops a.tmps) = true) (ty : TypeId) (x l : Operand) (ho : op.op = .slice ty x (some l) none none) (e : TypeId) (ht : P.underlying ty = some (.slice (P.elem ty))) (hi : (P.info? (P.elem ty)).map (·.size) = some 1)
    (A : Option Addr) (n c k : Nat) (kl : IntKind) (cs : List Value) (hx : a.eval x = .slice A n c) (hl : a.eval l = .int kl (k : Int)) (hk : k ≤ n) (hr : Rd w ok (.slice A n c) n cs) (hc : cs.length = n)
    (h : ∀ v, Rd w ok v (n - k) (cs.drop k) → wpList P ops Q rest (a.put op.dst v) w) : wpList P ops Q (op :: rest) a w := by
  refine plain_ hgd fun K hK => ?_
  have hrun : (Instr.sliceAt ty (.slice A n c) (some (.int kl (k : Int))) none none).run P w = .ok (sliced A k n c 1) w := by
    rw [run_sliceAt_slice w ty _ _ _ _ ht, run_slice_l w ty A n c ht kl k (by omega) (by omega)]
    cases hq : P.info? (P.elem ty) with
    | none => simp [hq] at hi
    | some i =>
      have hs : i.size = 1 := by simpa [hq] using hi
      simp [sizeOf, typeInfo, hq, hs]
  unfold Oper.wp execOp
  simp only [ho, hx, hl, Option.map_some, Option.map_none, Sem.run_bind, hrun, Result.andThen_ok, Sem.run_pure]
  exact hK _ _ (h _ (Rd.tail hr k hk hc))
/-- A text out of bytes. -/
theorem step_bytes_str {ok : Nat → Prop} (hgd : Region.wanted op (yielded ops a.tmps) = true) (src dst : TypeId) (x : Operand) (ho : op.op = .convert src dst x) (e : TypeId) (hs : P.underlying src = some (.slice e)) (he : P.underlying e = some (.int .u8)) (hd : P.underlying dst = some .string)
    (v : Value) (l : List Int) (hx : a.eval x = v) (hr : Rd w ok v l.length (Disk.bytes8 l)) (hB : IsB l)
    (h : wpList P ops Q rest (a.put op.dst (.string (str l))) w) : wpList P ops Q (op :: rest) a w := by
  refine plain_ hgd fun K hK => ?_
  obtain ⟨A, c, rfl, h2, h3, h4⟩ := hr
  have hrun : (convert src dst (.slice A l.length c)).run P w = .ok (.string (str l)) w := by
    rcases Nat.eq_zero_or_pos l.length with h0 | h0
    · have e0 : l = [] := List.eq_nil_of_length_eq_zero h0
      subst e0
      cases A with
      | none => exact Go.Lib.run_convert_nil_bytes w src dst e c hs he hd
      | some ad => exact run_convert_bytes_back w src dst e ad c [] hs he hd (fun j hj => by simp at hj)
    · rcases h4 with h4 | ⟨b, o, rfl, _, h5⟩
      · have := congrArg List.length h4
        rw [Disk.bytes8_len, List.length_nil] at this; omega
      · have := run_convert_bytes_back (P := P) w src dst e ⟨b, o, none⟩ c (l.map fun x => UInt8.ofNat x.toNat) hs he hd (fun j hj => by
          have hj' : j < l.length := by simpa using hj
          rw [Addr.add_mid, h5 j (.int .u8 l[j]) (by simp [Disk.bytes8, hj'])]
          congr 2
          rw [List.getElem_map]
          exact (byte_back (hB _ (List.getElem_mem _))).symm)
        rw [List.length_map] at this
        exact this
  unfold Oper.wp execOp
  simp only [ho, hx, Sem.run_bind, hrun, Result.andThen_ok, Sem.run_pure]
  exact hK _ _ h
end
end Go.Proofs.Ytbiohidelhfaiaa
