/-
  Layer 9: the calls of a statement's input; few, kept, made, all, same.
-/
import Derived.Test.YtbiohidelhfaiaaLit
import Derived.Test.YtbiohidelhfaiaaDiskL
namespace Go.Proofs.Ytbiohidelhfaiaa
open Go.RowKit Go.Canon Go.Mem Go.Args
set_option linter.unusedVariables false
set_option linter.unusedSimpArgs false
/-- A call of the input, plainly. -/
structure Do9 where
  kind : Int
  at_ : Int
  b : List Int
  keep : List Bool
def toDo (d : KDo.Dat) : Do9 := ⟨d.1, d.2.1, d.2.2.1, d.2.2.2.1⟩
/-- The cells of a call. -/
def DoCells (W : World) (b o : Nat) (d : Do9) : Prop :=
  ∃ vB vK, W.cell? ⟨b, o, none⟩ = some (.int .i64 d.kind) ∧ W.cell? ⟨b, o + 1, none⟩ = some (.int .i64 d.at_) ∧ W.cell? ⟨b, o + 2, none⟩ = some vB ∧ W.cell? ⟨b, o + 3, none⟩ = some vK ∧
    Rd W (fun k => k < W.heap.size) vB d.b.length (Disk.bytes8 d.b) ∧ d.b.length ≤ maxLen ∧ Rd W (fun k => k < W.heap.size) vK d.keep.length (bools d.keep) ∧ d.keep.length ≤ maxLen ∧ (-9223372036854775808 ≤ d.at_ ∧ d.at_ ≤ 9223372036854775807)
/-- The calls lie there. -/
def Dos (W : World) (v : Value) (l : List Do9) : Prop := ∃ A c, v = .slice A l.length c ∧ l.length ≤ c ∧ c ≤ maxLen ∧ (A = none → c = 0) ∧ ∀ (i : Nat) (d : Do9), l[i]? = some d → ∃ b o, A = some ⟨b, o, none⟩ ∧ b < W.heap.size ∧ DoCells W b (o + i * 4) d
theorem Dos.of {W : World} {v : Value} {l : List KDo.Dat} (h : Has W (.slice KDo) [v] l) : Dos W v (l.map toDo) := by
  obtain ⟨A, c, rfl, h2, h3, h4⟩ := h.len
  refine ⟨A, c, by rw [List.length_map], by rw [List.length_map]; exact h2, h3, h4, fun i d hi => ?_⟩
  rw [List.getElem?_map] at hi
  cases hx : l[i]? with
  | none => rw [hx] at hi; cases hi
  | some x =>
    rw [hx] at hi
    obtain rfl : toDo x = d := by simpa using hi
    have hil : i < l.length := (List.getElem?_eq_some_iff.1 hx).1
    obtain ⟨b, o, c', e, _, _, hb⟩ := h.plain (by decide) (by omega)
    cases e
    obtain ⟨es, h5, h6, h7⟩ := h.elem hx
    obtain ⟨vB, vK, rfl, hB, hK, hw⟩ := do_cells h7
    have hB := hB.bytes
    have hK := hK.bools
    refine ⟨b, o, rfl, hb, vB, vK, ?_, ?_, ?_, ?_, hB.1, hB.2, hK.1, hK.2, i64_le hw⟩
    · have := h6 0 _ rfl; simpa [Kd.sz, toDo] using this
    · have := h6 1 _ rfl; simpa [Kd.sz, Nat.add_assoc, toDo] using this
    · have := h6 2 _ rfl; simpa [Kd.sz, Nat.add_assoc] using this
    · have := h6 3 _ rfl; simpa [Kd.sz, Nat.add_assoc] using this
theorem DoCells.kept {W w : World} {b o : Nat} {d : Do9} (h : DoCells W b o d) (hk : Keeps (fun _ => False) W w) : DoCells w b o d := by
  obtain ⟨vB, vK, h1, h2, h3, h4, h5, h6, h7, h8, h9⟩ := h
  have hs := hk.size
  exact ⟨vB, vK, hk.cell h1 (fun h => h), hk.cell h2 (fun h => h), hk.cell h3 (fun h => h), hk.cell h4 (fun h => h), (h5.kept hk (fun _ _ h => h)).mono (fun k hk => by omega), h6, (h7.kept hk (fun _ _ h => h)).mono (fun k hk => by omega), h8, h9⟩
theorem Dos.kept {W w : World} {v : Value} {l : List Do9} (h : Dos W v l) (hk : Keeps (fun _ => False) W w) : Dos w v l := by
  obtain ⟨A, c, h1, h2, h3, h4, h5⟩ := h
  refine ⟨A, c, h1, h2, h3, h4, fun i d hi => ?_⟩
  obtain ⟨b, o, e, hb, hc⟩ := h5 i d hi
  exact ⟨b, o, e, by have := hk.size; omega, hc.kept hk⟩
theorem Dos.front {W : World} {A : Option Addr} {n c : Nat} {l : List Do9} (h : Dos W (.slice A n c) l) (m : Nat) (hm : m ≤ l.length) : Dos W (.slice A m c) (l.take m) := by
  obtain ⟨A', c', h1, h2, h3, h4, h5⟩ := h
  cases h1
  refine ⟨A, c, by rw [List.length_take, Nat.min_eq_left hm], by rw [List.length_take]; omega, h3, h4, fun i d hi => h5 i d ?_⟩
  rw [List.getElem?_take] at hi
  split at hi
  · exact hi
  · cases hi
/-- The value's calls; the world as it was. -/
def IsDos (W : World) (l : List Do9) (w : World) : Value → World → Prop := fun v' w' => w = w' ∧ Dos W v' l
theorem Rd.front1 {w : World} {ok : Nat → Prop} {A : Option Addr} {n c : Nat} {cs : List Value} (h : Rd w ok (.slice A n c) n cs) (hl : cs.length = n) (m : Nat) (hm : m ≤ n) : Rd w ok (.slice A m c) m (cs.take m) := by
  have := Rd.front h m 1 hm (by rw [hl, Nat.mul_one]); rwa [Nat.mul_one] at this
/-- What a call does to a disk. -/
def call1 (s : Disk.St) (d : Do9) : Disk.St :=
  if d.kind = 0 then (s.write (least d.at_ 0 7) (d.b.take 64)).2 else if d.kind = 1 then s.sync.2 else if d.kind = 3 then s.crash [] else s
def run (s : Disk.St) (l : List Do9) : Disk.St := l.foldl call1 s
theorem write_few (s : Disk.St) (i : Int) (b : List Int) : (s.write i b).2.opn.length ≤ s.opn.length + 1 := by
  unfold Disk.St.write Disk.St.step
  split
  · simp
  · split
    · simp
    · split <;> split <;> (try split) <;> simp_all
theorem sync_few (s : Disk.St) : s.sync.2.opn.length ≤ s.opn.length := by
  unfold Disk.St.sync Disk.St.step
  split
  · simp
  · split <;> split <;> (try split) <;> simp_all
theorem call1_few (s : Disk.St) (d : Do9) : (call1 s d).opn.length ≤ s.opn.length + 1 := by
  unfold call1
  split
  · exact write_few _ _ _
  · split
    · have := sync_few s; omega
    · split
      · simp [Disk.St.crash]
      · omega
theorem run_few (s : Disk.St) (l : List Do9) : (run s l).opn.length ≤ s.opn.length + l.length := by
  unfold run
  induction l generalizing s with
  | nil => simp
  | cons x r ih => rw [List.foldl_cons, List.length_cons]; have := ih (call1 s x); have := call1_few s x; omega
theorem run_take (s : Disk.St) (l : List Do9) (k : Nat) (d : Do9) (h : l[k]? = some d) : run s (l.take (k + 1)) = call1 (run s (l.take k)) d := by
  unfold run
  rw [List.take_add_one, h, List.foldl_append]; rfl
/-- A new disk that the calls have been done at. -/
def Made (W : World) (l : List Do9) : Value → World → Prop := fun v w => Keeps (fun _ => False) W w ∧ ∃ g, v = .pointer (some ⟨g, 0, none⟩) ∧ DIs w (fun k => W.heap.size ≤ k ∧ k < w.heap.size) g (run (fresh 8) l)
/-- The disk, on its way. -/
def MadeAt (W : World) (g : Nat) (s : Disk.St) (wr : World) : Prop := Keeps (fun _ => False) W wr ∧ DIs wr (fun k => W.heap.size ≤ k) g s
theorem MadeAt.post {W wr w' : World} {g : Nat} {s s' : Disk.St} {v v' : Value} (h : MadeAt W g s wr) (hp : DPost wr (fun k => W.heap.size ≤ k) g v s' v' w') : v' = v ∧ MadeAt W g s' w' :=
  ⟨hp.1, h.1.trans hp.2.2 (fun k hk hh => by omega), hp.2.1.wide (fun k hk => by have := h.1.size; omega)⟩
theorem least_in (n : Int) : 0 ≤ least n 0 7 ∧ least n 0 7 ≤ 7 := by unfold least; split <;> (try split) <;> omega
theorem row_bytes : (Try.prog.info? 23).map (fun i => (i.zero, i.size, i.bytes)) = some (some (.slice none 0 0), 1, 24) := by kernel_rfl
theorem row2_bytes : (Try.prog.info? 23).map (fun i => (i.zero, i.size)) = some (some (.slice none 0 0), 1) := by kernel_rfl
/-- Rows of bytes, each in a block of its own or none's. -/
def BytesRows (W w : World) (v : Value) (ls : List (List Int)) : Prop := ∃ vs, OwnRow w (fun k => W.heap.size ≤ k) 23 1 v ls.length vs ∧ ∀ (i : Nat) (l : List Int), ls[i]? = some l → ∃ u, vs[i]? = some u ∧ Rd w (fun k => W.heap.size ≤ k ∧ k < w.heap.size ∧ v.ownBlock ≠ some k) u l.length (Disk.bytes8 l)
/-- A read, as bytes that are read. -/
def ReadRow (w : World) (s : Disk.St) (i : Int) : Value → World → Prop := fun v w' => Keeps (fun _ => False) w w' ∧ ∃ u, v = .tuple #[u, .int .i64 (s.read i).2] ∧ Rd w' (fun k => w.heap.size ≤ k) u (s.read i).1.length (Disk.bytes8 (s.read i).1)
theorem dReadRow_c {w : World} {S : Nat → Prop} {g : Nat} {s : Disk.St} (h : DIs w S g s) (i : Int) : Calls Try.prog 81 #[.pointer (some ⟨g, 0, none⟩), .int .i64 i] w (Rets (ReadRow w s i)) :=
  Rets.use (dRead_c h i) fun v w' ⟨hk, hp⟩ => by
    refine ⟨hk, ?_⟩
    rcases hp with ⟨h1, h2, rfl⟩ | ⟨h1, h2, b, hb, rfl, hB⟩
    · refine ⟨_, rfl, ?_⟩; rw [h2]; exact Rd.nil _ _
    · refine ⟨_, by rw [h1], ?_⟩
      rw [h2]
      exact ⟨_, _, rfl, Nat.le_refl _, fun h => (by cases h), .inr ⟨b, 0, rfl, hb, fun j u hu => by rw [cell_of_row w' _ _ _ _ _ hB, Nat.zero_add]; simpa using hu⟩⟩
/-- The rows that a disk's first sectors are read as. -/
def rows (s : Disk.St) (n : Nat) : List (List Int) := (List.range n).map fun (i : Nat) => (s.read (i : Int)).1
theorem rows_len (s : Disk.St) (n : Nat) : (rows s n).length = n := by simp [rows]
theorem rows_succ (s : Disk.St) (n : Nat) : rows s (n + 1) = rows s n ++ [(s.read n).1] := by simp [rows, List.range_succ]
theorem BytesRows.nil (W w : World) : BytesRows W w (.slice none 0 0) [] := ⟨[], OwnRow.nil _ _ _ _, fun i l h => by simp at h⟩
def AllPost (W : World) (ls : List (List Int)) : Value → World → Prop := fun v w => Keeps (fun _ => False) W w ∧ BytesRows W w v ls
/-- One more row. -/
theorem BytesRows.push {W wr w w' : World} {v v' : Value} {ls : List (List Int)} {l : List Int} {vs : List Value} {u : Value} (hw : W.heap.size ≤ wr.heap.size) (hV : ∀ (i : Nat) (l : List Int), ls[i]? = some l → ∃ u, vs[i]? = some u ∧ Rd wr (fun k => W.heap.size ≤ k ∧ k < wr.heap.size ∧ v.ownBlock ≠ some k) u l.length (Disk.bytes8 l))
    (hl : vs.length = ls.length) (hv : ∀ k, v.ownBlock = some k → W.heap.size ≤ k ∧ k < wr.heap.size) (hk : Keeps (fun _ => False) wr w) (hr : Rd w (fun k => wr.heap.size ≤ k ∧ k < w.heap.size) u l.length (Disk.bytes8 l)) (hk' : Keeps (fun k => v.ownBlock = some k) w w')
    (ho : OwnRow w' (fun k => v.ownBlock = some k ∨ w.heap.size ≤ k) 23 1 v' (ls.length + 1) (vs ++ [u])) : BytesRows W w' v' (ls ++ [l]) := by
  have h1 := hk.size
  have h2 := hk'.size
  refine ⟨vs ++ [u], by rw [List.length_append]; exact ho.mono (fun k _ h => by rcases h with h | h; exact (hv k h).1; omega), fun i x hx => ?_⟩
  by_cases hi : i < ls.length
  · rw [List.getElem?_append_left hi] at hx
    obtain ⟨y, h3, h4⟩ := hV i x hx
    refine ⟨y, by rw [List.getElem?_append_left (by omega)]; exact h3, ?_⟩
    refine ((h4.kept hk (fun _ _ h => h)).kept hk' (fun k hk h => hk.2.2 h)).mono fun k h => ⟨h.1, by omega, fun he => ?_⟩
    rcases ho.2 k he with h5 | h5
    · exact h.2.2 h5
    · omega
  · rw [List.getElem?_append_right (by omega)] at hx
    obtain rfl : i = ls.length := by have := (List.getElem?_eq_some_iff.1 hx).1; simp at this; omega
    obtain rfl : l = x := by simpa using hx
    refine ⟨u, by rw [List.getElem?_append_right (by omega), hl]; simp, ?_⟩
    refine (hr.kept hk' (fun k hk h => by have := (hv k h).2; omega)).mono fun k h => ⟨by omega, by omega, fun he => ?_⟩
    rcases ho.2 k he with h5 | h5
    · have := (hv k h5).2; omega
    · omega
/-- Rows of bytes that are read. -/
def RowsRd (w : World) (ok : Nat → Prop) (v : Value) (ls : List (List Int)) : Prop := ∃ vs, Rd w ok v ls.length vs ∧ vs.length = ls.length ∧ ∀ (i : Nat) (l : List Int), ls[i]? = some l → ∃ u, vs[i]? = some u ∧ Rd w ok u l.length (Disk.bytes8 l)
theorem BytesRows.rd {W w : World} {v : Value} {ls : List (List Int)} (h : BytesRows W w v ls) : RowsRd w (fun k => W.heap.size ≤ k ∧ k < w.heap.size) v ls := by
  obtain ⟨vs, h1, h2⟩ := h
  have hl := h1.len
  refine ⟨vs, h1.rd.lt, by omega, fun i l hi => ?_⟩
  obtain ⟨u, h3, h4⟩ := h2 i l hi
  exact ⟨u, h3, h4.mono (fun k h => ⟨h.1, h.2.1⟩)⟩
theorem RowsRd.kept {w w' : World} {ok S : Nat → Prop} {v : Value} {ls : List (List Int)} (h : RowsRd w ok v ls) (hk : Keeps S w w') (hn : ∀ k, ok k → ¬ S k) : RowsRd w' ok v ls := by
  obtain ⟨vs, h1, h2, h3⟩ := h
  refine ⟨vs, h1.kept hk hn, h2, fun i l hi => ?_⟩
  obtain ⟨u, h4, h5⟩ := h3 i l hi
  exact ⟨u, h4, h5.kept hk hn⟩
def good (xs ys : List (List Int)) (j : Nat) : Bool := (xs.getD j []).length == 64 && decide (xs.getD j [] = ys.getD j [])
def sameTo (xs ys : List (List Int)) (k : Nat) : Bool := (List.range k).all (good xs ys)
theorem sameTo_succ (xs ys : List (List Int)) (k : Nat) : sameTo xs ys (k + 1) = (sameTo xs ys k && good xs ys k) := by simp [sameTo, List.range_succ]
theorem sameTo_false {xs ys : List (List Int)} {k n : Nat} (h : k < n) (hg : good xs ys k = false) : sameTo xs ys n = false := by
  unfold sameTo
  rw [List.all_eq_false]
  exact ⟨k, List.mem_range.2 h, by simp [hg]⟩
end Go.Proofs.Ytbiohidelhfaiaa
