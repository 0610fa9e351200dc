/-
  More steps over plain worlds: append of a string's bytes, append of zeros.
-/
import Derived.Test.YtbiohidelhfaiaaMem
import Derived.Lib.AppendStr
import Derived.Deep.DeepAppendWide
namespace Go.Mem
open Go.Lib
set_option linter.unusedVariables false
set_option linter.unusedSimpArgs false
section
variable {P : Program} {w : World}
theorem run_str_own {ok : Nat → Prop} (t u ty e : TypeId) (i : TypeInfo) (ht : P.underlying t = some (.slice e)) (hu : P.underlying u = some .string) (hi : P.info? e = some i) (hz : i.zero = some (.int .u8 0)) (hsize : i.size = 1) (hby : i.bytes = 1)
    (v : Value) (n : Nat) (xs : List Value) (hown : OwnRow w ok e 1 v n xs) (s : ByteArray) (h63 : n + s.size ≤ maxLen) (hbytes : n + s.size ≤ 140737488355328) :
    ∃ v' w', (Builtin.append_ #[t, u] ty #[v, .string s]).run P w = .ok v' w' ∧ OwnRow w' (fun k => ok k ∨ w.heap.size ≤ k) e 1 v' (n + s.size) (xs ++ strCells s) ∧ Keeps (fun k => v.ownBlock = some k) w w' := by
  obtain ⟨v', w', hr, h2, h3, h4⟩ := run_append_own_string (P := P) w 0 t u ty e i ht hu hi hz hsize hby v n xs hown.1 s h63 hbytes (Nat.zero_le _)
  refine ⟨v', w', hr, ⟨h2, fun k hk => ?_⟩, ⟨h3.os, h3.tape, h3.output, h3.size, fun k hk hn => h3.block k hk (fun e => hn e.symm)⟩⟩
  rcases hown.1.2 with ⟨rfl, rfl⟩ | ⟨g, cap, cur, rfl, _, hg, hnc, hcm, hcs, htake⟩
  · obtain ⟨v2, w2, hr2, h22, _⟩ := run_append_own_string (P := P) w w.heap.size t u ty e i ht hu hi hz hsize hby (.slice none 0 0) 0 xs ⟨hown.1.1, .inl ⟨rfl, rfl⟩⟩ s h63 hbytes (Nat.le_refl _)
    rw [hr] at hr2
    simp only [Result.ok.injEq] at hr2
    obtain ⟨rfl, rfl⟩ := hr2
    exact .inr (h22.lt k hk).1
  · rw [Nat.mul_one] at hcs
    by_cases hroom : n + s.size ≤ cap
    · have hr2 := run_append_room_string (P := P) w t u ty e i ht hu hi hsize g n cap cur hg s hroom (by omega)
      rw [hr] at hr2
      simp only [Result.ok.injEq] at hr2
      obtain ⟨rfl, _⟩ := hr2
      exact .inl (hown.2 k hk)
    · have holds : ∀ j u, xs[j]? = some u → w.cell? ((⟨g, 0, none⟩ : Addr).add j) = some u := hown.1.cells (g := g) rfl
      have hr2 := run_append_grow_string (P := P) w t u ty e i _ ht hu hi hz ⟨g, 0, none⟩ n cap xs (by rw [hsize]; exact hown.1.1) holds s (by omega) (by simp only [maxLen] at h63; omega) (growslice_fits (by omega) (by rw [hby, Nat.mul_one]; exact hbytes))
      rw [hr] at hr2
      simp only [Result.ok.injEq] at hr2
      obtain ⟨rfl, _⟩ := hr2
      simp only [Value.ownBlock, Option.some.injEq] at hk
      exact .inr (by rw [← hk]; exact Nat.le_refl _)
end
section
variable {P : Program} {ops : Array Oper} {op : Oper} {rest : List Oper} {a : Act} {w : World} {Q : Exit → Act → World → Prop}
/-- append of a string's bytes to a row of one's own. -/
theorem step_append_str {ok : Nat → Prop} (hgd : Region.wanted op (yielded ops a.tmps) = true) (s x : Operand) (t u : TypeId) (ho : op.op = .call { callee := .builtin .append, args := #[s, x], argTypes := #[t, u] })
    (e : TypeId) (ht : P.underlying t = some (.slice e)) (hu : P.underlying u = some .string) (hi : (P.info? e).map (fun i => (i.zero, i.size, i.bytes)) = some (some (.int .u8 0), 1, 1))
    (v : Value) (n : Nat) (xs : List Value) (hs : a.eval s = v) (hown : OwnRow w ok e 1 v n xs) (b : ByteArray) (hx : a.eval x = .string b) (h63 : n + b.size ≤ maxLen) (hbytes : n + b.size ≤ 140737488355328)
    (h : ∀ v' w', OwnRow w' (fun k => ok k ∨ w.heap.size ≤ k) e 1 v' (n + b.size) (xs ++ strCells b) → Keeps (fun k => v.ownBlock = some k) w w' → wpList P ops Q rest (a.put op.dst v') w') : wpList P ops Q (op :: rest) a w := by
  cases hq : P.info? e with
  | none => simp [hq] at hi
  | some i =>
    obtain ⟨e1, e2, e3⟩ : i.zero = some (.int .u8 0) ∧ i.size = 1 ∧ i.bytes = 1 := by simpa [hq] using hi
    obtain ⟨v', w', hr, h2, h3⟩ := run_str_own t u op.type e i ht hu hq e1 e2 e3 v n xs hown b h63 hbytes
    refine plain_ hgd fun K hK => ?_
    unfold Oper.wp execOp
    simp only [ho, resolve, invoke, builtin, Sem.run_bind, Sem.run_pure, Result.andThen_ok, List.map_toArray, List.map_cons, List.map_nil, hs, hx, hr]
    exact hK _ _ (h v' w' h2 h3)
/-- Zeros, as a string. -/
def zeroStr (n : Nat) : ByteArray := ⟨Array.replicate n 0⟩
theorem zeroStr_size (n : Nat) : (zeroStr n).size = n := by simp [zeroStr, ByteArray.size]
theorem zeroStr_cells (n : Nat) : strCells (zeroStr n) = List.replicate n (.int .u8 0) := by simp [zeroStr, strCells]
theorem zeroCells_byte (n : Nat) : Builtin.zeroCells (Value.int .u8 0).cells n = Array.replicate n (.int .u8 0) := by
  apply Array.ext
  · simp [Builtin.zeroCells, Value.cells]
  · intro j h1 h2
    simp [Builtin.zeroCells, Value.cells, Nat.mod_one]
theorem run_zeros (t tn u ty e : TypeId) (kn : IntKind) (i : TypeInfo) (ht : P.underlying t = some (.slice e)) (htn : P.underlying tn = some (.int kn)) (hu : P.underlying u = some .string) (hi : P.info? e = some i) (hz : i.zero = some (.int .u8 0)) (hsize : i.size = 1) (hby : i.bytes = 1)
    (A : Option Addr) (c m n : Nat) (hm : 0 < m) (hn : n + m ≤ 1000000) :
    (Builtin.append_ #[t, tn] ty #[.slice A n c, .int .i64 m]).run P w = (Builtin.append_ #[t, u] ty #[.slice A n c, .string (zeroStr m)]).run P w := by
  have hw : IntKind.i64.wrap (m : Int) = m := by rw [IntKind.wrap_i64]; omega
  have hneg : ¬ ((m : Int) < 0) := by omega
  have h48i : ¬ (281474976710656 < (m : Int)) := by omega
  have h63' : ¬ (9223372036854775807 < ((n : Int) + (m : Int))) := by omega
  have hm0 : ¬ m = 0 := by omega
  have hf : ∀ w, (Builtin.firstCells 1 m (.string (zeroStr m))).run P w = .ok (Array.replicate m (.int .u8 0)) w := by
    intro w
    have := run_firstCells_string (P := P) w 1 (zeroStr m)
    rw [zeroStr_size, zeroStr_cells] at this
    simpa using this
  by_cases hroom : n + m ≤ c
  · simp [Builtin.append_, run_underlying ht, run_underlying htn, run_underlying hu, sizeOf, typeInfo, zeroValue, hi, hz, hsize, hby, Builtin.lenOf, asInt, asIntOf, hw, hneg, h48i, hm0, hroom, hf, zeroStr_size, zeroCells_byte]
  · have hfit : ¬ (281474976710656 < Builtin.nextslicecap (n + m) c * i.bytes) := by
      have := growslice_fits (need := n + m) (old := c) (bytes := i.bytes) (by omega) (by rw [hby]; omega); omega
    rw [hby, Nat.mul_one] at hfit
    simp [Builtin.append_, run_underlying ht, run_underlying htn, run_underlying hu, sizeOf, typeInfo, zeroValue, hi, hz, hsize, hby, Builtin.lenOf, asInt, asIntOf, hw, hneg, h48i, hm0, hroom, hf, zeroStr_size, zeroCells_byte, h63', hfit]
/-- append of zeros to bytes of one's own. -/
theorem step_append_zeros {ok : Nat → Prop} (hgd : Region.wanted op (yielded ops a.tmps) = true) (s x : Operand) (t tn u : TypeId) (ho : op.op = .call { callee := .builtin .append, args := #[s, x], argTypes := #[t, tn] })
    (e : TypeId) (kn : IntKind) (ht : P.underlying t = some (.slice e)) (htn : P.underlying tn = some (.int kn)) (hu : P.underlying u = some .string) (hi : (P.info? e).map (fun i => (i.zero, i.size, i.bytes)) = some (some (.int .u8 0), 1, 1))
    (v : Value) (n : Nat) (xs : List Value) (hs : a.eval s = v) (hown : OwnRow w ok e 1 v n xs) (m : Nat) (hx : a.eval x = .int .i64 (m : Int)) (hm : 0 < m) (hn : n + m ≤ 1000000)
    (h : ∀ v' w', OwnRow w' (fun k => ok k ∨ w.heap.size ≤ k) e 1 v' (n + m) (xs ++ List.replicate m (.int .u8 0)) → Keeps (fun k => v.ownBlock = some k) w w' → wpList P ops Q rest (a.put op.dst v') w') : wpList P ops Q (op :: rest) a w := by
  cases hq : P.info? e with
  | none => simp [hq] at hi
  | some i =>
    obtain ⟨e1, e2, e3⟩ : i.zero = some (.int .u8 0) ∧ i.size = 1 ∧ i.bytes = 1 := by simpa [hq] using hi
    obtain ⟨A, c, rfl, _⟩ := hown.slice
    obtain ⟨v', w', hr, h2, h3⟩ := run_str_own t u op.type e i ht hu hq e1 e2 e3 _ n xs hown (zeroStr m) (by rw [zeroStr_size]; simp only [maxLen]; omega) (by rw [zeroStr_size]; omega)
    rw [← run_zeros (P := P) (w := w) t tn u op.type e kn i ht htn hu hq e1 e2 e3 A c m n hm hn] at hr
    rw [zeroStr_size, zeroStr_cells] at h2
    refine plain_ hgd fun K hK => ?_
    unfold Oper.wp execOp
    simp only [ho, resolve, invoke, builtin, Sem.run_bind, Sem.run_pure, Result.andThen_ok, List.map_toArray, List.map_cons, List.map_nil, hs, hx, hr]
    exact hK _ _ (h v' w' h2 h3)
end
/-! ### blocks by colour: one map in place of many sets apart -/
/-- The block has this colour, and is no older than W, and there in w. -/
def At (W w : World) (col : Nat → Nat) (c : Nat) (k : Nat) : Prop := col k = c ∧ W.heap.size ≤ k ∧ k < w.heap.size
/-- What is new has a colour of its own. -/
def recol (col : Nat → Nat) (n c : Nat) (k : Nat) : Nat := if k < n then col k else c
theorem At.old {W w w' : World} {col : Nat → Nat} {c d k : Nat} (h : At W w col c k) (hs : w.heap.size ≤ w'.heap.size) : At W w' (recol col w.heap.size d) c k := ⟨by unfold recol; rw [if_pos h.2.2]; exact h.1, h.2.1, Nat.lt_of_lt_of_le h.2.2 hs⟩
theorem At.new {W w w' : World} {col : Nat → Nat} {d k : Nat} (hW : W.heap.size ≤ w.heap.size) (h1 : w.heap.size ≤ k) (h2 : k < w'.heap.size) : At W w' (recol col w.heap.size d) d k := ⟨by unfold recol; rw [if_neg (Nat.not_lt.2 h1)], Nat.le_trans hW h1, h2⟩
theorem At.ne {W w : World} {col : Nat → Nat} {c d k : Nat} (h : At W w col c k) (hcd : c ≠ d) : ¬ At W w col d k := fun h' => hcd (h.1.symm.trans h'.1)
theorem At.wide {W w w' : World} {col : Nat → Nat} {c k : Nat} (h : At W w col c k) (hs : w.heap.size ≤ w'.heap.size) : At W w' col c k := ⟨h.1, h.2.1, Nat.lt_of_lt_of_le h.2.2 hs⟩
end Go.Mem
