/-
  The document's disk in memory; New, goes, Arm.
-/
import Derived.Test.YtmkpdoljaccpaaaDiskR
import Derived.Test.YtmkpdoljaccpaaaMem2
namespace Go.Proofs.Ytmkpdoljaccpaaa
open Go.RowKit Go.Canon Go.Mem Go.Args
open Go.Disk (St)
set_option linter.unusedVariables false
set_option linter.unusedSimpArgs false
/-- The writes, cell by cell. -/
def WrsRd (w : World) (T : Nat → Prop) (cs : List Value) (l : List Wr) : Prop := cs.length = 3 * l.length ∧ ∀ (i : Nat) (p : Wr), l[i]? = some p → ∃ u, cs[3 * i]? = some (.int .i64 p.at_) ∧ cs[3 * i + 1]? = some u ∧ cs[3 * i + 2]? = some (.bool p.sure) ∧ Rd w T u p.b.length (Disk.bytes8 p.b)
theorem WrsRd.kept {w w' : World} {S T : Nat → Prop} {cs : List Value} {l : List Wr} (h : WrsRd w T cs l) (hk : Keeps S w w') (hn : ∀ k, T k → ¬ S k) : WrsRd w' T cs l := by
  refine ⟨h.1, fun i p hi => ?_⟩
  obtain ⟨u, h1, h2, h3, h4⟩ := h.2 i p hi
  exact ⟨u, h1, h2, h3, h4.kept hk hn⟩
/-- The document's disk: its block, the block of its row, the blocks of bytes. -/
def RefMem (w : World) (x : Nat) (R T : Nat → Prop) (r : RefD) : Prop := ∃ (v : Value) (cs : List Value), w.heap[x]? = some (.cells [Value.int .i64 r.n, v, .int .i64 r.left, .bool r.power].toArray 95 (0, 0)) ∧ ¬ R x ∧ ¬ T x ∧ (∀ k, R k → ¬ T k) ∧ OwnRow w R 109 3 v r.l.length cs ∧ WrsRd w T cs r.l
/-- Its own block's cells may turn. -/
theorem RefMem.own {w w' : World} {x : Nat} {R T : Nat → Prop} {r : RefD} {left : Int} {power : Bool} (h : RefMem w x R T r) (hk : Keeps (· = x) w w') (hb : ∀ v, w.heap[x]? = some (.cells [Value.int .i64 r.n, v, .int .i64 r.left, .bool r.power].toArray 95 (0, 0)) → w'.heap[x]? = some (.cells [Value.int .i64 r.n, v, .int .i64 left, .bool power].toArray 95 (0, 0))) : RefMem w' x R T { r with left := left, power := power } := by
  obtain ⟨v, cs, h1, h2, h3, h4, h5, h6⟩ := h
  exact ⟨v, cs, hb v h1, h2, h3, h4, h5.kept hk (fun k hR e => by subst e; exact h2 hR), h6.kept hk (fun k hR e => by subst e; exact h3 hR)⟩
def RefNew (w : World) (n : Int) : Value → World → Prop := fun v w' => Keeps (fun _ => False) w w' ∧ ∃ x, v = .tuple #[.pointer (some ⟨x, 0, none⟩), .int .i64 0] ∧ x = w.heap.size ∧ RefMem w' x (fun _ => False) (fun _ => False) ⟨n, [], -1, true⟩
theorem rnew_c (w : World) (n : Int) (h0 : 1 ≤ n) (h1 : n ≤ 4096) : Calls Try.prog 31 #[.int .i64 n] w (Rets (RefNew w n)) := by
  go_enter Try.func31, Try.ntmps31
  go_wp2
  go_ret2
  exact ⟨(Keeps.refl _ w).alloc _, w.heap.size, rfl, rfl, .slice none 0 0, [], heap_alloc_new w _, fun h => h, fun h => h, fun _ h => h.elim, OwnRow.nil _ _ _ _, rfl, fun i p hi => by simp at hi⟩
theorem rnew_no (w : World) (n : Int) (h : n < 1 ∨ 4096 < n) : Calls Try.prog 31 #[.int .i64 n] w (Rets (Only (.tuple #[.pointer none, .int .i64 2]) w)) := by
  by_cases h0 : n < 1
  · clear h
    go_enter Try.func31, Try.ntmps31
    go_wp2
    go_ret2
    exact ⟨rfl, rfl⟩
  · have h1 : 4096 < n := by omega
    clear h
    go_enter Try.func31, Try.ntmps31
    go_wp2
    go_ret2
    exact ⟨rfl, rfl⟩
def RefPost (w : World) (x : Nat) (R T : Nat → Prop) (ans : Value) (r : RefD) : Value → World → Prop := fun v w' => v = ans ∧ RefMem w' x R T r ∧ Keeps (· = x) w w'
section
variable {w : World} {x : Nat} {R T : Nat → Prop} {r : RefD}
theorem goes_c (h : RefMem w x R T r) (hl : -1 ≤ r.left ∧ r.left ≤ 9223372036854775807) : Calls Try.prog 67 #[.pointer (some ⟨x, 0, none⟩)] w (Rets (RefPost w x R T (.bool r.goes.1) r.goes.2)) := by
  have HI := Lib.hid h
  obtain ⟨l1, l2⟩ := hl
  obtain ⟨v, cs, hb, _, _, _, _, _⟩ := h
  have c2 : w.cell? ⟨x, 2, none⟩ = some (.int .i64 r.left) := (cell_of_row w x 2 _ _ _ hb).trans rfl
  have HB := Lib.hid hb
  clear hb
  by_cases h0 : r.left = 0
  · have HG := Lib.hid (show r.goes = (false, { r with left := r.left, power := false }) by simp [RefD.goes, h0])
    have HL := Lib.hid h0
    rw [h0] at c2
    clear h0
    go_enter Try.func67, Try.ntmps67
    go_wp2_with ((with_reducible refine at_store 4 (.tmp 10) (.const (.bool false)) rfl ?_); go_must (refine step_store1 rfl _ _ _ rfl x 3 (.bool false) _ _ rfl rfl rfl HB.out (by simp) info_bool ?_); intro w2 hb2 hk2 hs2)
    go_ret
    rw [HG.out]
    exact ⟨rfl, HI.out.own hk2 (fun v' hv => by have := HB.out; rw [hv] at this; cases this; exact hb2), hk2⟩
  · have h0b : (r.left == 0) = false := by simpa using h0
    by_cases h1 : 0 < r.left
    · have HG := Lib.hid (show r.goes = (true, { r with left := r.left - 1, power := r.power }) by simp [RefD.goes, h0, h1])
      clear h0
      go_enter Try.func67, Try.ntmps67
      go_wp2_with ((with_reducible refine at_store 3 (.tmp 22) (.tmp 20) rfl ?_); go_must (refine step_store1 rfl _ _ _ rfl x 2 (.int .i64 (r.left - 1)) _ _ rfl rfl rfl HB.out (by simp) info_int ?_); intro w2 hb2 hk2 hs2)
      go_ret
      rw [HG.out]
      exact ⟨rfl, HI.out.own hk2 (fun v' hv => by have := HB.out; rw [hv] at this; cases this; exact hb2), hk2⟩
    · have HG := Lib.hid (show r.goes = (true, r) by simp [RefD.goes, h0, h1])
      clear h0
      go_enter Try.func67, Try.ntmps67
      go_wp2
      go_ret
      rw [HG.out]
      exact ⟨rfl, HI.out, Keeps.refl _ _⟩
theorem rarm_c (h : RefMem w x R T r) (n : Int) : Calls Try.prog 51 #[.pointer (some ⟨x, 0, none⟩), .int .i64 n] w (Rets (RefPost w x R T (.int .i64 (r.arm n).1) (r.arm n).2)) := by
  have HI := Lib.hid h
  obtain ⟨v, cs, hb, _, _, _, _, _⟩ := h
  have c3 : w.cell? ⟨x, 3, none⟩ = some (.bool r.power) := (cell_of_row w x 3 _ _ _ hb).trans rfl
  have HB := Lib.hid hb
  clear hb
  cases hp : r.power with
  | false =>
    have HG := Lib.hid (show r.arm n = (14, r) by simp [RefD.arm, hp])
    rw [hp] at c3
    clear hp
    go_enter Try.func51, Try.ntmps51
    go_wp2
    go_ret
    rw [HG.out]
    exact ⟨rfl, HI.out, Keeps.refl _ _⟩
  | true =>
    by_cases h0 : n < 0
    · have HG := Lib.hid (show r.arm n = (2, r) by simp [RefD.arm, hp, h0])
      rw [hp] at c3
      clear hp
      go_enter Try.func51, Try.ntmps51
      go_wp2
      go_ret
      rw [HG.out]
      exact ⟨rfl, HI.out, Keeps.refl _ _⟩
    · have HG := Lib.hid (show r.arm n = (0, { r with left := n, power := r.power }) by simp [RefD.arm, hp, h0])
      rw [hp] at c3
      clear hp
      go_enter Try.func51, Try.ntmps51
      go_wp2_with ((with_reducible refine at_store 3 (.tmp 15) (.tmp 13) rfl ?_); go_must (refine step_store1 rfl _ _ _ rfl x 2 (.int .i64 n) _ _ rfl rfl rfl HB.out (by simp) info_int ?_); intro w2 hb2 hk2 hs2)
      go_ret
      rw [HG.out]
      exact ⟨rfl, HI.out.own hk2 (fun v' hv => by have := HB.out; rw [hv] at this; cases this; exact hb2), hk2⟩
end
end Go.Proofs.Ytmkpdoljaccpaaa
