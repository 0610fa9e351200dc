/-
  Bytes out of a text, in a block that bears a mark behind its end: append to it.
-/
import Derived.Test.YtibegbmehpggbaaDoorMark
namespace Go.Proofs.YtibegbmehpggbaaDoor
open Go.RowKit Go.Canon Go.Mem Go.Lib
set_option linter.unusedVariables false
set_option linter.unusedSimpArgs false
/-- The block holds the bytes at its front, and has room for c. -/
def MRow2 (w : World) (b c : Nat) (l : List Int) : Prop := ∃ C : Array Value, w.heap[b]? = some (.cells C 5 (C.size, C.size + 1)) ∧ C.size = c ∧ l.length ≤ c ∧ C.toList.take l.length = Disk.bytes8 l
theorem MRow2.row {w : World} {b c : Nat} {l : List Int} (h : MRow2 w b c l) : MRow w b l := by
  obtain ⟨C, h1, h2, h3, h4⟩ := h
  exact ⟨C, h1, by omega, h4⟩
theorem MRow2.kept {w w' : World} {S : Nat → Prop} {b c : Nat} {l : List Int} (h : MRow2 w b c l) (hk : Keeps S w w') (hn : ¬ S b) : MRow2 w' b c l := by
  obtain ⟨C, h1, h2, h3, h4⟩ := h
  exact ⟨C, hk.heap h1 hn, h2, h3, h4⟩
theorem storeCells_m {P : Program} (g o M : Nat) (t : TypeId) : ∀ (vs : List Value) (i : Nat) (cur : Array Value) (w : World), w.heap[g]? = some (.cells cur t (M, M + 1)) → cur.size ≤ M → o + i + vs.length ≤ cur.size → (∀ v ∈ vs, v.oneCell' = true) →
    (Go.storeCells ⟨g, o, none⟩ vs i).run P w = .ok () (w.setRow g (cur.toList.take (o + i) ++ vs ++ cur.toList.drop (o + i + vs.length)).toArray)
  | [], i, cur, w, hg, _, _, _ => by
    simp only [Go.storeCells, List.append_nil, List.length_nil, Nat.add_zero, List.take_append_drop, Array.toArray_toList]
    rw [setRow_self w g cur t (M, M + 1) hg]
    rfl
  | v :: rest, i, cur, w, hg, hM, hl, h1 => by
    have hi : o + i < cur.size := by simp at hl; omega
    have hadd : (⟨g, o, none⟩ : Addr).add i = ⟨g, o + i, none⟩ := by unfold Addr.add; split <;> simp_all
    have hcell : w.cell? ⟨g, o + i, none⟩ = some cur[o + i] := by simp [World.cell?, hg, hi]
    have hfro : w.frozen? ⟨g, o + i, none⟩ = false := by simp [World.frozen?, hg]; omega
    have hst : (Go.store ((⟨g, o, none⟩ : Addr).add i) v).run P w = .ok () (w.setRow g (cur.setIfInBounds (o + i) v)) := by
      rw [hadd, run_store P w _ v _ (h1 v (by simp)), hcell]
      simp [hfro, setCell_eq_setRow w g (o + i) cur t (M, M + 1) v hg]
    have ih := storeCells_m (P := P) g o M t rest (i + 1) (cur.setIfInBounds (o + i) v) (w.setRow g (cur.setIfInBounds (o + i) v)) (setRow_heap w g cur _ t _ hg) (by simpa using hM) (by simp at hl ⊢; omega) (fun x hx => h1 x (by simp [hx]))
    simp only [Go.storeCells, Sem.run_bind, hst, Result.andThen_ok, ih, setRow_setRow]
    congr 3
    have e := list_seg_step cur.toList (o + i) v rest (by simp at hl ⊢; omega)
    simpa [Array.toList_setIfInBounds, Nat.add_assoc] using e
section
variable {P : Program} {ops : Array Oper} {op : Oper} {rest : List Oper} {a : Act} {w : World} {Q : Exit → Act → World → Prop}
/-- []byte(s): a new block, its room known. -/
theorem step_str_mrow2 (hgd : Region.wanted op (yielded ops a.tmps) = true) (src dst : TypeId) (x : Operand) (ho : op.op = .convert src dst x) (hs : P.underlying src = some .string) (hd : P.underlying dst = some (.slice 5)) (he : P.underlying 5 = some (.int .u8)) (l : List Int) (hB : IsB l) (hx : a.eval x = .string (str l))
    (h : ∀ c w', MRow2 w' w.heap.size c l → Keeps (fun _ => False) w w' → wpList P ops Q rest (a.put op.dst (.slice (some ⟨w.heap.size, 0, none⟩) l.length c)) w') : wpList P ops Q (op :: rest) a w := by
  refine plain_ hgd fun K hK => ?_
  unfold Oper.wp execOp
  simp only [ho, hx, Sem.run_bind, run_bytes_of_string w src dst 5 (str l) hs hd he, Result.andThen_ok, Sem.run_pure]
  have hz := str_size l
  have hg := grownCap_ge w (str l).size 0 5
  generalize hc : grownCap w (str l).size 0 5 = c at *
  rw [hz] at hg ⊢
  have hsz : (str l).data.size = l.length := hz
  refine hK _ _ (h _ _ ⟨bytesRow (str l) c, ?_, ?_, hg, ?_⟩ (((Keeps.refl _ w).drew).alloc _))
  · show (w.drew.heap.push _)[w.heap.size]? = _
    exact Array.getElem?_push_size
  · unfold bytesRow
    simp only [Array.size_append, Array.size_map, Array.size_replicate]
    omega
  · apply List.ext_getElem?
    intro j
    rw [List.getElem?_take]
    split
    · rename_i hj
      have hj2 : j < (str l).data.size := by omega
      rw [Array.getElem?_toList, bytesRow_at _ _ _ hj2]
      rw [show Disk.bytes8 l = Go.Lib.strCells (str l) from (strCells_str hB).symm]
      simp only [Go.Lib.strCells, List.getElem?_map, Array.getElem?_toList]
      rw [Array.getElem?_eq_getElem hj2]
      rfl
    · rename_i hj
      rw [List.getElem?_eq_none (by rw [Disk.bytes8_len]; omega)]
/-- append of bytes that are read to it. -/
theorem step_append_m {ok2 : Nat → Prop} (hgd : Region.wanted op (yielded ops a.tmps) = true) (s x : Operand) (t : TypeId) (ho : op.op = .call { callee := .builtin .append, args := #[s, x], argTypes := #[t, t] })
    (ht : P.underlying t = some (.slice 5)) (hi : (P.info? 5).map (fun i => (i.zero, i.size, i.bytes)) = some (some (.int .u8 0), 1, 1))
    (b c : Nat) (l l2 : List Int) (hs : a.eval s = .slice (some ⟨b, 0, none⟩) l.length c) (hm : MRow2 w b c l)
    (xv : Value) (hx : a.eval x = xv) (hr : Rd w ok2 xv l2.length (Disk.bytes8 l2)) (h63 : l.length + l2.length ≤ 140737488355328)
    (h : ∀ v' w', Rd w' (fun k => k = b ∨ w.heap.size ≤ k) v' (l ++ l2).length (Disk.bytes8 (l ++ l2)) → Keeps (fun k => k = b) w w' → wpList P ops Q rest (a.put op.dst v') w') : wpList P ops Q (op :: rest) a w := by
  have hmr := hm.row
  obtain ⟨C, h1, h2, h3, h4⟩ := hm
  obtain ⟨A, c', rfl, h5, h6, h7⟩ := hr
  cases hq : P.info? 5 with
  | none => simp [hq] at hi
  | some i =>
    obtain ⟨e1, e2, e3⟩ : i.zero = some (.int .u8 0) ∧ i.size = 1 ∧ i.bytes = 1 := by simpa [hq] using hi
    by_cases hne : l2 = []
    · subst hne
      have hrun : (Builtin.append_ #[t, t] op.type #[.slice (some ⟨b, 0, none⟩) l.length c, .slice A 0 c']).run P w = .ok (.slice (some ⟨b, 0, none⟩) l.length c) w := by
        cases A with
        | none =>
          obtain ⟨_, rfl⟩ := h6 rfl
          simp [Builtin.append_, run_underlying ht, sizeOf, typeInfo, hq, Builtin.lenOf, Builtin.firstCells, loadCells, loadCellsFrom, h3, storeCells]
        | some ad => simp [Builtin.append_, run_underlying ht, sizeOf, typeInfo, hq, Builtin.lenOf, Builtin.firstCells, loadCells, loadCellsFrom, h3, storeCells]
      refine plain_ hgd fun K hK => ?_
      unfold Oper.wp execOp
      simp only [ho, resolve, invoke, builtin, Sem.run_bind, Sem.run_pure, Result.andThen_ok, List.map_toArray, List.map_cons, List.map_nil, hs, hx]
      have hrun' : (Builtin.append_ #[t, t] op.type #[.slice (some ⟨b, 0, none⟩) l.length c, .slice A ([] : List Int).length c']).run P w = .ok (.slice (some ⟨b, 0, none⟩) l.length c) w := hrun
      simp only [hrun', Result.andThen_ok]
      refine hK _ _ (h _ _ ?_ (Keeps.refl _ _))
      rw [List.append_nil]
      exact hmr.rd h3 (.inl rfl)
    · obtain ⟨ab, ao, rfl, _, hcells⟩ := h7.resolve_left (fun e => hne (List.eq_nil_of_length_eq_zero (by have := congrArg List.length e; rwa [Disk.bytes8_len, List.length_nil] at this)))
      have hl2 : 0 < l2.length := by cases l2 with | nil => exact (hne rfl).elim | cons => simp
      have hcells' : ∀ j u, (Disk.bytes8 l2)[j]? = some u → w.cell? ((⟨ab, ao, none⟩ : Addr).add j) = some u := fun j u hu => by rw [Addr.add_mid]; exact hcells j u hu
      have hlen2 : (Disk.bytes8 l2).length = l2.length := Disk.bytes8_len l2
      have hlen : (Disk.bytes8 l).length = l.length := Disk.bytes8_len l
      refine plain_ hgd fun K hK => ?_
      unfold Oper.wp execOp
      simp only [ho, resolve, invoke, builtin, Sem.run_bind, Sem.run_pure, Result.andThen_ok, List.map_toArray, List.map_cons, List.map_nil, hs, hx]
      by_cases hroom : l.length + l2.length ≤ c
      · have hf := run_firstCells_some (P := P) w i.size l2.length ⟨ab, ao, none⟩ l2.length c' (Disk.bytes8 l2) (by rw [hlen2, e2, Nat.mul_one]) hcells'
        have hst := storeCells_m (P := P) b (l.length * i.size) C.size 5 (Disk.bytes8 l2) 0 C w h1 (Nat.le_refl _) (by rw [hlen2, e2]; omega) (Disk.bytes8_one l2)
        simp only [Nat.add_zero] at hst
        have hrun : (Builtin.append_ #[t, t] op.type #[.slice (some ⟨b, 0, none⟩) l.length c, .slice (some ⟨ab, ao, none⟩) l2.length c']).run P w = .ok (.slice (some ⟨b, 0, none⟩) (l.length + l2.length) c) (w.setRow b (C.toList.take (l.length * i.size) ++ Disk.bytes8 l2 ++ C.toList.drop (l.length * i.size + (Disk.bytes8 l2).length)).toArray) := by
          simp [Builtin.append_, run_underlying ht, sizeOf, typeInfo, hq, Builtin.lenOf, hroom, hf, Addr.add_lit, hst]
        simp only [hrun, Result.andThen_ok]
        rw [e2, Nat.mul_one, h4]
        have hsz : (Disk.bytes8 l ++ Disk.bytes8 l2 ++ C.toList.drop (l.length + (Disk.bytes8 l2).length)).toArray.size = C.size := by
          simp only [List.size_toArray, List.length_append, List.length_drop, Array.length_toList, hlen, hlen2]; omega
        have hM : MRow (w.setRow b (Disk.bytes8 l ++ Disk.bytes8 l2 ++ C.toList.drop (l.length + (Disk.bytes8 l2).length)).toArray) b (l ++ l2) := by
          refine ⟨_, by rw [setRow_heap w b C _ _ _ h1, hsz], by rw [hsz, List.length_append]; omega, ?_⟩
          rw [Disk.bytes8_append]
          show ((Disk.bytes8 l ++ Disk.bytes8 l2 ++ _).take (l ++ l2).length) = _
          exact List.take_left' (by rw [List.length_append, hlen, hlen2, List.length_append])
        refine hK _ _ (h _ _ ?_ ⟨rfl, rfl, rfl, by simp, fun k _ hk => setRow_other w b k _ hk⟩)
        have := hM.rd (c := c) (ok := fun k => k = b ∨ w.heap.size ≤ k) (by rw [List.length_append]; exact hroom) (.inl rfl)
        rwa [show (l ++ l2).length = l.length + l2.length from List.length_append] at this ⊢
      · have hrun := run_append_grow (P := P) w t op.type 5 i (.int .u8 0) ht hq e1 ⟨b, 0, none⟩ l.length c (Disk.bytes8 l) (by rw [hlen, e2, Nat.mul_one]) (fun j u hu => by
            have hj : j < l.length := by have := (List.getElem?_eq_some_iff.1 hu).1; rwa [hlen] at this
            rw [Addr.add_mid, Nat.zero_add, hmr.cell hj, ← hu]
            simp [Disk.bytes8, hj]) ⟨ab, ao, none⟩ l2.length c' (Disk.bytes8 l2) (by rw [hlen2, e2, Nat.mul_one]) hcells' (by omega) (by omega) (growslice_fits (by omega) (by rw [e3, Nat.mul_one]; exact h63))
        simp only [hrun, Result.andThen_ok]
        refine hK _ _ (h _ _ ?_ (((Keeps.refl _ w).drew).alloc _))
        refine ⟨_, _, by rw [List.length_append], by rw [List.length_append]; exact grownCap_ge _ _ _ _, fun h => (by cases h), .inr ⟨w.heap.size, 0, rfl, .inr (Nat.le_refl _), fun j u hu => ?_⟩⟩
        have hj : j < (l ++ l2).length := by have := (List.getElem?_eq_some_iff.1 hu).1; rwa [Disk.bytes8_len] at this
        rw [Nat.zero_add]
        refine (World.cell?_alloc_mark w.drew _ 5 (0, 0) j).trans ?_
        rw [← Array.getElem?_toList, Array.toList_append, Array.toList_append, ← Disk.bytes8_append, List.getElem?_append_left (by rw [Disk.bytes8_len]; exact hj), hu]
end
end Go.Proofs.YtibegbmehpggbaaDoor
