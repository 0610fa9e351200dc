/-
  More steps over plain worlds: bytes of a string.
-/
import Derived.Test.YtbiohidelhfaiaaMem2
import Derived.Laws.IdiomStrings
namespace Go.Mem
open Go.Lib
set_option linter.unusedVariables false
set_option linter.unusedSimpArgs false
section
variable {P : Program} {ops : Array Oper} {op : Oper} {rest : List Oper} {a : Act} {w : World} {Q : Exit → Act → World → Prop}
/-- []byte(s): a new block. -/
theorem step_str_bytes (hgd : Region.wanted op (yielded ops a.tmps) = true) (src dst : TypeId) (x : Operand) (ho : op.op = .convert src dst x) (e : TypeId) (hs : P.underlying src = some .string) (hd : P.underlying dst = some (.slice e)) (he : P.underlying e = some (.int .u8)) (s : ByteArray) (hx : a.eval x = .string s)
    (h : ∀ A c w', Rd w' (fun k => w.heap.size ≤ k) (.slice A s.size c) s.size (strCells s) → Keeps (fun _ => False) w w' → wpList P ops Q rest (a.put op.dst (.slice A s.size c)) w') : wpList P ops Q (op :: rest) a w := by
  refine plain_ hgd fun K hK => ?_
  unfold Oper.wp execOp
  simp only [ho, hx, Sem.run_bind, run_bytes_of_string w src dst e s hs hd he, Result.andThen_ok, Sem.run_pure]
  refine hK _ _ (h _ _ _ ⟨_, _, rfl, ?_, fun h => (by cases h), .inr ⟨_, _, rfl, Nat.le_refl _, fun j u hu => ?_⟩⟩ (((Keeps.refl _ w).drew).alloc _))
  · exact grownCap_ge _ _ _ _
  · have hl : j < (strCells s).length := (List.getElem?_eq_some_iff.1 hu).1
    have hj : j < s.data.size := by simpa [strCells] using hl
    rw [Nat.zero_add]
    have h1 := World.cell?_alloc_mark w.drew (bytesRow s (grownCap w s.size 0 e)) e ((bytesRow s (grownCap w s.size 0 e)).size, (bytesRow s (grownCap w s.size 0 e)).size + 1) j
    rw [bytesRow_at _ _ _ hj] at h1
    refine h1.trans ?_
    rw [← hu]
    simp [strCells, hj, Array.getElem?_eq_getElem hj]
/-- []byte of bytes just laid: the block bears a mark behind its end. -/
theorem step_bytes_bytes (hgd : Region.wanted op (yielded ops a.tmps) = true) (t : TypeId) (x : Operand) (ho : op.op = .convert t t x) (e : TypeId) (hu : P.underlying t = some (.slice e)) (he : P.underlying e = some (.int .u8)) (b n c : Nat) (hx : a.eval x = .slice (some ⟨b, 0, none⟩) n c) (C : Array Value) (ty : TypeId) (hb : w.heap[b]? = some (.cells C ty (0, 0)))
    (h : ∀ w', w'.heap[b]? = some (.cells C ty (C.size, C.size + 1)) → Keeps (· = b) w w' → w'.heap.size = w.heap.size → wpList P ops Q rest (a.put op.dst (.slice (some ⟨b, 0, none⟩) n c)) w') : wpList P ops Q (op :: rest) a w := by
  refine plain_ hgd fun K hK => ?_
  have hsh : w.shape? b = some (ty, C.size) := by unfold World.shape?; rw [hb]
  have hr : (convert t t (.slice (some ⟨b, 0, none⟩) n c)).run P w = .ok (.slice (some ⟨b, 0, none⟩) n c) (w.freeze ⟨b, C.size, none⟩ 1) := by
    simp [convert, run_underlying hu, run_underlying he, markStringish, hsh]
  unfold Oper.wp execOp
  simp only [ho, hx, Sem.run_bind, hr, Result.andThen_ok, Sem.run_pure]
  refine hK _ _ (h _ ?_ ⟨rfl, rfl, rfl, ?_, fun k hk hn => ?_⟩ ?_)
  · have hlt := (Array.getElem?_eq_some_iff.1 hb).1
    unfold World.freeze; rw [if_neg (by decide)]; simp [Array.getElem?_modify, hb]
  · unfold World.freeze; rw [if_neg (by decide)]; simp
  · unfold World.freeze; rw [if_neg (by decide)]; simp [Array.getElem?_modify, Ne.symm hn]
  · unfold World.freeze; rw [if_neg (by decide)]; simp
end
end Go.Mem
