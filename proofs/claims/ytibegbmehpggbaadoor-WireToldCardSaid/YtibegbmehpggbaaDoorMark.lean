/-
  Bytes out of a text, in a block of their own that bears a mark behind its end: they are read and set.
-/
import Derived.Test.YtibegbmehpggbaaDoorSet
namespace Go.Proofs.YtibegbmehpggbaaDoor
open Go.RowKit Go.Canon Go.Mem Go.Lib
set_option linter.unusedVariables false
set_option linter.unusedSimpArgs false
/-- The block holds the bytes at its front. -/
def MRow (w : World) (b : Nat) (l : List Int) : Prop := ∃ C : Array Value, w.heap[b]? = some (.cells C 5 (C.size, C.size + 1)) ∧ l.length ≤ C.size ∧ C.toList.take l.length = Disk.bytes8 l
theorem MRow.kept {w w' : World} {S : Nat → Prop} {b : Nat} {l : List Int} (h : MRow w b l) (hk : Keeps S w w') (hn : ¬ S b) : MRow w' b l := by
  obtain ⟨C, h1, h2, h3⟩ := h
  exact ⟨C, hk.heap h1 hn, h2, h3⟩
theorem MRow.cell {w : World} {b : Nat} {l : List Int} (h : MRow w b l) {k : Nat} (hk : k < l.length) : w.cell? ⟨b, k, none⟩ = some (.int .u8 l[k]) := by
  obtain ⟨C, h1, h2, h3⟩ := h
  have h4 : C[k]? = some (.int .u8 l[k]) := by
    have : (C.toList.take l.length)[k]? = some (.int .u8 l[k]) := by rw [h3]; simp [Disk.bytes8, hk]
    rw [List.getElem?_take, if_pos hk] at this
    simpa using this
  unfold World.cell?
  rw [h1]
  exact h4
theorem MRow.rd {w : World} {b c : Nat} {l : List Int} (h : MRow w b l) (hc : l.length ≤ c) {ok : Nat → Prop} (hok : ok b) : Rd w ok (.slice (some ⟨b, 0, none⟩) l.length c) l.length (Disk.bytes8 l) :=
  ⟨_, _, rfl, hc, fun h => (by cases h), .inr ⟨b, 0, rfl, hok, fun j u hu => by
    have hj : j < l.length := by have := (List.getElem?_eq_some_iff.1 hu).1; rwa [Disk.bytes8_len] at this
    rw [Nat.zero_add, h.cell hj, ← hu]
    simp [Disk.bytes8, hj]⟩⟩
section
variable {P : Program} {ops : Array Oper} {op : Oper} {rest : List Oper} {a : Act} {w : World} {Q : Exit → Act → World → Prop}
/-- []byte(s): a new block. -/
theorem step_str_mrow (hgd : Region.wanted op (yielded ops a.tmps) = true) (src dst : TypeId) (x : Operand) (ho : op.op = .convert src dst x) (hs : P.underlying src = some .string) (hd : P.underlying dst = some (.slice 5)) (he : P.underlying 5 = some (.int .u8)) (l : List Int) (hB : IsB l) (hx : a.eval x = .string (str l))
    (h : ∀ c w', l.length ≤ c → MRow w' w.heap.size l → Keeps (fun _ => False) w w' → wpList P ops Q rest (a.put op.dst (.slice (some ⟨w.heap.size, 0, none⟩) l.length c)) w') : wpList P ops Q (op :: rest) a w := by
  refine plain_ hgd fun K hK => ?_
  unfold Oper.wp execOp
  simp only [ho, hx, Sem.run_bind, run_bytes_of_string w src dst 5 (str l) hs hd he, Result.andThen_ok, Sem.run_pure]
  have hz := str_size l
  have hg := grownCap_ge w (str l).size 0 5
  generalize hc : grownCap w (str l).size 0 5 = c at *
  rw [hz] at hg ⊢
  refine hK _ _ (h _ _ (by omega) ⟨bytesRow (str l) c, ?_, ?_, ?_⟩ (((Keeps.refl _ w).drew).alloc _))
  · show (w.drew.heap.push _)[w.heap.size]? = _
    exact Array.getElem?_push_size
  · unfold bytesRow
    simp only [Array.size_append, Array.size_map, Array.size_replicate]
    have : (str l).data.size = l.length := hz
    omega
  · apply List.ext_getElem?
    intro j
    rw [List.getElem?_take]
    split
    · rename_i hj
      have hj2 : j < (str l).data.size := by have : (str l).data.size = l.length := hz; omega
      rw [Array.getElem?_toList, bytesRow_at _ _ _ hj2]
      rw [show Disk.bytes8 l = Go.Lib.strCells (str l) from (strCells_str hB).symm]
      simp only [Go.Lib.strCells, List.getElem?_map, Array.getElem?_toList]
      rw [Array.getElem?_eq_getElem hj2]
      rfl
    · rename_i hj
      rw [List.getElem?_eq_none (by rw [Disk.bytes8_len]; omega)]
/-- One byte of it is set. -/
theorem step_mset (hgd : Region.wanted op (yielded ops a.tmps) = true) (ty : TypeId) (x y : Operand) (ho : op.op = .store ty x y) (b k : Nat) (l : List Int) (v : Int)
    (hx : a.eval x = .pointer (some ⟨b, k, none⟩)) (hy : a.eval y = .int .u8 v) (hb : MRow w b l) (hl : k < l.length) (hi : (P.info? ty).map (·.size) = some 1)
    (h : ∀ w', MRow w' b (l.set k v) → Keeps (· = b) w w' → wpList P ops Q rest (a.put op.dst undef) w') : wpList P ops Q (op :: rest) a w := by
  refine plain_ hgd fun K hK => ?_
  have hcell := hb.cell hl
  obtain ⟨C, h1, h2, h3⟩ := hb
  have hfro : w.frozen? ⟨b, k, none⟩ = false := by
    unfold World.frozen?
    rw [h1]
    simp; omega
  unfold Oper.wp execOp
  have hr : (Instr.storeAt ty (.pointer (some ⟨b, k, none⟩)) (.int .u8 v)).run P w = .ok () (w.setCell ⟨b, k, none⟩ (.int .u8 v)) := by
    cases hq : P.info? ty with
    | none => simp [hq] at hi
    | some i =>
      have hs : i.size = 1 := by simpa [hq] using hi
      simp only [Instr.storeAt, Instr.sureAddr, Sem.run_bind, Sem.run_pure, Result.andThen_ok, Go.storeVar, Value.cells, Go.sizeOf, Go.typeInfo]
      simp only [Go.program, Sem.run, Result.andThen, hq]
      have hst : (Go.store ((⟨b, k, none⟩ : Addr).add 0) (.int .u8 v)).run P w = .ok () (w.setCell ⟨b, k, none⟩ (.int .u8 v)) := by
        rw [show (⟨b, k, none⟩ : Addr).add 0 = ⟨b, k, none⟩ from rfl, run_store P w _ _ _ rfl, hcell]
        simp [hfro]
      simp [hs, Go.storeCells, hst]
  simp only [ho, hx, hy, Sem.run_bind, hr, Result.andThen_ok, Sem.run_pure]
  refine hK _ _ (h _ ⟨C.setIfInBounds k (.int .u8 v), ?_, ?_, ?_⟩ ?_)
  · simp [World.setCell, Array.getElem?_modify, h1]
  · simpa using h2
  · rw [Array.toList_setIfInBounds, List.length_set, List.take_set, h3]
    unfold Disk.bytes8
    rw [List.map_set]
  · exact (Keeps.refl (fun x => x = b) w).setCell (p := ⟨b, k, none⟩) (fun _ => rfl) _
end
end Go.Proofs.YtibegbmehpggbaaDoor
