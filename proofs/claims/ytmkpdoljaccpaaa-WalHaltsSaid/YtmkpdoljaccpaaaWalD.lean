/-
  Layer 10: the calls of a statement's input; text, few.
-/
import Derived.Test.YtmkpdoljaccpaaaWalJ
namespace Go.Proofs.Ytmkpdoljaccpaaa
open Go.RowKit Go.Canon Go.Mem Go.Args
open Go.Disk (St)
set_option linter.unusedVariables false
set_option linter.unusedSimpArgs false
section
variable {P : Program} {w : World}
theorem run_zero0 (t tn ty e : TypeId) (kn : IntKind) (i : TypeInfo) (ht : P.underlying t = some (.slice e)) (htn : P.underlying tn = some (.int kn)) (hi : P.info? e = some i) (hsize : i.size = 1) (hby : i.bytes = 1) (A : Option Addr) (n c : Nat) (hn : n ≤ c) :
    (Builtin.append_ #[t, tn] ty #[.slice A n c, .int .i64 0]).run P w = .ok (.slice A n c) w := by
  have hw : IntKind.i64.wrap (0 : Int) = 0 := by rw [IntKind.wrap_i64]; decide
  cases A <;> simp [Builtin.append_, run_underlying ht, run_underlying htn, sizeOf, typeInfo, hi, hsize, hby, asInt, asIntOf, hw, hn, storeCells]
end
section
variable {P : Program} {ops : Array Oper} {op : Oper} {rest : List Oper} {a : Act} {w : World} {Q : Exit → Act → World → Prop}
/-- append of no zeros. -/
theorem step_append_zero0 (hgd : Region.wanted op (yielded ops a.tmps) = true) (s x : Operand) (t tn : TypeId) (ho : op.op = .call { callee := .builtin .append, args := #[s, x], argTypes := #[t, tn] })
    (e : TypeId) (kn : IntKind) (ht : P.underlying t = some (.slice e)) (htn : P.underlying tn = some (.int kn)) (hi : (P.info? e).map (fun i => (i.zero, i.size, i.bytes)) = some (some (.int .u8 0), 1, 1))
    (A : Option Addr) (n c : Nat) (hn : n ≤ c) (hs : a.eval s = .slice A n c) (hx : a.eval x = .int .i64 0)
    (h : wpList P ops Q rest (a.put op.dst (.slice A n c)) w) : wpList P ops Q (op :: rest) a w := by
  cases hq : P.info? e with
  | none => simp [hq] at hi
  | some i =>
    obtain ⟨e1, e2, e3⟩ : i.zero = some (.int .u8 0) ∧ i.size = 1 ∧ i.bytes = 1 := by simpa [hq] using hi
    have hr := run_zero0 (P := P) (w := w) t tn op.type e kn i ht htn hq e2 e3 A n c hn
    refine plain_ hgd fun K hK => ?_
    unfold Oper.wp execOp
    simp only [ho, resolve, invoke, builtin, Sem.run_bind, Sem.run_pure, Result.andThen_ok, List.map_toArray, List.map_cons, List.map_nil, hs, hx, hr]
    exact hK _ _ h
end
abbrev KDo10 : Kd := .st (.fld (.int .i64) (.fld (.int .i64) (.fld (.int .i64) (.fld (.slice (.int .u8)) (.fld (.slice .bool) .fin)))))
/-- A call of the input, plainly. -/
structure Do10 where
  kind : Int
  n : Int
  long : Int
  b : List Int
  keep : List Bool
def toDo10 (d : KDo10.Dat) : Do10 := ⟨d.1, d.2.1, d.2.2.1, d.2.2.2.1, d.2.2.2.2.1⟩
theorem do10_cells {W : World} {cs : List Value} {x : KDo10.Dat} (H : Has W KDo10 cs x) : ∃ vB vK, cs = [.int .i64 x.1, .int .i64 x.2.1, .int .i64 x.2.2.1, vB, vK] ∧ Has W (.slice (.int .u8)) [vB] x.2.2.2.1 ∧ Has W (.slice .bool) [vK] x.2.2.2.2.1 ∧ (Lit.int .i64 x.2.1).wf = true ∧ (Lit.int .i64 x.2.2.1).wf = true := by
  obtain ⟨c1, r1, rfl, _, ⟨rfl, _⟩, c2, r2, rfl, _, ⟨rfl, w2⟩, c3, r3, rfl, _, ⟨rfl, w3⟩, c4, r4, rfl, _, h4, c5, r5, rfl, _, h5, h6⟩ := H
  obtain ⟨A, c, e4, h4'⟩ := h4
  obtain ⟨B, d, e5, h5'⟩ := h5
  have h6' : r5 = [] := h6
  subst e4; subst e5; subst h6'
  exact ⟨_, _, rfl, ⟨A, c, rfl, h4'⟩, ⟨B, d, rfl, h5'⟩, w2, w3⟩
theorem u8_byte {w : World} {v : Value} {l : List Int} (h : Has w (.slice (.int .u8)) [v] l) : IsB l := by
  obtain ⟨A, c, _, _, _, _, h5⟩ := h
  intro x hx
  obtain ⟨i, hi, rfl⟩ := List.getElem_of_mem hx
  obtain ⟨a, es, _, _, _, h6⟩ := h5 i l[i] (List.getElem?_eq_getElem hi)
  have := h6.2
  simp [Lit.wf, IntKind.min, IntKind.max, IntKind.signed, IntKind.bits] at this
  omega
/-- The cells of a call. -/
def DoCells10 (W : World) (b o : Nat) (d : Do10) : Prop :=
  ∃ vB vK, W.cell? ⟨b, o, none⟩ = some (.int .i64 d.kind) ∧ W.cell? ⟨b, o + 1, none⟩ = some (.int .i64 d.n) ∧ W.cell? ⟨b, o + 2, none⟩ = some (.int .i64 d.long) ∧ W.cell? ⟨b, o + 3, none⟩ = some vB ∧ W.cell? ⟨b, o + 4, none⟩ = some vK ∧
    Rd W (fun k => k < W.heap.size) vB d.b.length (Disk.bytes8 d.b) ∧ d.b.length ≤ maxLen ∧ IsB d.b ∧ Rd W (fun k => k < W.heap.size) vK d.keep.length (bools d.keep) ∧ d.keep.length ≤ maxLen ∧ (-9223372036854775808 ≤ d.n ∧ d.n ≤ 9223372036854775807)
/-- The calls lie there. -/
def Dos10 (W : World) (v : Value) (l : List Do10) : Prop := ∃ A c, v = .slice A l.length c ∧ l.length ≤ c ∧ c ≤ maxLen ∧ (A = none → c = 0) ∧ ∀ (i : Nat) (d : Do10), l[i]? = some d → ∃ b o, A = some ⟨b, o, none⟩ ∧ b < W.heap.size ∧ DoCells10 W b (o + i * 5) d
theorem Dos10.of {W : World} {v : Value} {l : List KDo10.Dat} (h : Has W (.slice KDo10) [v] l) : Dos10 W v (l.map toDo10) := by
  obtain ⟨A, c, rfl, h2, h3, h4⟩ := h.len
  refine ⟨A, c, by rw [List.length_map], by rw [List.length_map]; exact h2, h3, h4, fun i d hi => ?_⟩
  rw [List.getElem?_map] at hi
  cases hx : l[i]? with
  | none => rw [hx] at hi; cases hi
  | some x =>
    rw [hx] at hi
    obtain rfl : toDo10 x = d := by simpa using hi
    have hil : i < l.length := (List.getElem?_eq_some_iff.1 hx).1
    obtain ⟨b, o, c', e, _, _, hb⟩ := h.plain (by decide) (by omega)
    cases e
    obtain ⟨es, h5, h6, h7⟩ := h.elem hx
    obtain ⟨vB, vK, rfl, hB, hK, hw, hw2⟩ := do10_cells h7
    have hIB := u8_byte hB
    have hB := hB.bytes
    have hK := hK.bools
    refine ⟨b, o, rfl, hb, vB, vK, ?_, ?_, ?_, ?_, ?_, hB.1, hB.2, hIB, hK.1, hK.2, i64_le hw⟩
    · have := h6 0 _ rfl; simpa [Kd.sz, toDo10] using this
    · have := h6 1 _ rfl; simpa [Kd.sz, Nat.add_assoc, toDo10] using this
    · have := h6 2 _ rfl; simpa [Kd.sz, Nat.add_assoc, toDo10] using this
    · have := h6 3 _ rfl; simpa [Kd.sz, Nat.add_assoc] using this
    · have := h6 4 _ rfl; simpa [Kd.sz, Nat.add_assoc] using this
theorem DoCells10.kept {W w : World} {b o : Nat} {d : Do10} (h : DoCells10 W b o d) (hk : Keeps (fun _ => False) W w) : DoCells10 w b o d := by
  obtain ⟨vB, vK, h1, h2, h3, h4, h5, h6, h7, h8, h9, h10, h11⟩ := h
  have hs := hk.size
  exact ⟨vB, vK, hk.cell h1 (fun h => h), hk.cell h2 (fun h => h), hk.cell h3 (fun h => h), hk.cell h4 (fun h => h), hk.cell h5 (fun h => h), (h6.kept hk (fun _ _ h => h)).mono (fun k hk => by omega), h7, h8, (h9.kept hk (fun _ _ h => h)).mono (fun k hk => by omega), h10, h11⟩
theorem Dos10.kept {W w : World} {v : Value} {l : List Do10} (h : Dos10 W v l) (hk : Keeps (fun _ => False) W w) : Dos10 w v l := by
  obtain ⟨A, c, h1, h2, h3, h4, h5⟩ := h
  refine ⟨A, c, h1, h2, h3, h4, fun i d hi => ?_⟩
  obtain ⟨b, o, e, hb, hc⟩ := h5 i d hi
  exact ⟨b, o, e, by have := hk.size; omega, hc.kept hk⟩
theorem Dos10.front {W : World} {A : Option Addr} {n c : Nat} {l : List Do10} (h : Dos10 W (.slice A n c) l) (m : Nat) (hm : m ≤ l.length) : Dos10 W (.slice A m c) (l.take m) := by
  obtain ⟨A', c', h1, h2, h3, h4, h5⟩ := h
  cases h1
  refine ⟨A, c, by rw [List.length_take, Nat.min_eq_left hm], by rw [List.length_take]; omega, h3, h4, fun i d hi => h5 i d ?_⟩
  rw [List.getElem?_take] at hi
  split at hi
  · exact hi
  · cases hi
/-- What is appended. -/
def textF (d : Do10) : List Int := d.b.take 600 ++ List.replicate (least d.long 0 17000).toNat 0
theorem textF_len (d : Do10) : (textF d).length ≤ 17600 := by
  have : least d.long 0 17000 ≤ 17000 := by unfold least; split <;> (try split) <;> omega
  unfold textF
  rw [List.length_append, List.length_take, List.length_replicate]
  omega
theorem textF_byte {d : Do10} (h : IsB d.b) : IsB (textF d) := by
  intro x hx
  rcases List.mem_append.1 hx with hx | hx
  · exact h x (List.mem_of_mem_take hx)
  · rw [List.eq_of_mem_replicate hx]; decide
theorem bytes8_zeros (n : Nat) : Disk.bytes8 (List.replicate n 0) = List.replicate n (Value.int .u8 0) := by simp [Disk.bytes8]
set_option maxHeartbeats 1600000 in
set_option maxRecDepth 100000 in
theorem text_c {w : World} {ok : Nat → Prop} (d : Do10) (vB vK : Value) (hB : Rd w ok vB d.b.length (Disk.bytes8 d.b)) : Calls Try.prog 38 #[.agg #[.int .i64 d.kind, .int .i64 d.n, .int .i64 d.long, vB, vK]] w (Rets (NewRow 5 1 (textF d).length (Disk.bytes8 (textF d)) w)) := by
  obtain ⟨w1, hw1⟩ : ∃ w1, w1 = w.alloc (Obj.cells #[.int .i64 d.kind, .int .i64 d.n, .int .i64 d.long, vB, vK] 72) := ⟨_, rfl⟩
  have hk1 : Keeps (fun _ => False) w w1 := by rw [hw1]; exact (Keeps.refl _ w).alloc _
  have hb1 : w1.heap[w.heap.size]? = some (.cells #[.int .i64 d.kind, .int .i64 d.n, .int .i64 d.long, vB, vK] 72 (0, 0)) := by rw [hw1]; exact heap_alloc_new w _
  have c2 : w1.cell? ⟨w.heap.size, 2, none⟩ = some (.int .i64 d.long) := cell_of_row w1 _ _ _ _ _ hb1
  have c3 : w1.cell? ⟨w.heap.size, 3, none⟩ = some vB := cell_of_row w1 _ _ _ _ _ hb1
  have hl := textF_len d
  obtain ⟨m, hm⟩ : ∃ m : Nat, least d.long 0 17000 = m := ⟨(least d.long 0 17000).toNat, by unfold least; split <;> (try split) <;> omega⟩
  have hm2 : m ≤ 17000 := by unfold least at hm; split at hm <;> (try split at hm) <;> omega
  have HT := Lib.hid (show textF d = d.b.take 600 ++ List.replicate m 0 by unfold textF; rw [hm]; rfl)
  have hbl : (d.b.take 600).length ≤ 600 := by rw [List.length_take]; omega
  have HRB := Lib.hid (hB.kept (hk1.drew) (fun _ _ h => h))
  have HLe := Lib.hid (fun w => (show Calls Try.prog 22 #[.int .i64 d.long, .int .i64 0, .int .i64 17000] w (Rets (Only (.int .i64 m) w)) by rw [← hm]; exact least_c d.long 0 17000 w))
  have HK1 := Lib.hid hk1
  have HW := Lib.hid hw1
  have c2d := ((Keeps.refl (fun _ => False) w1).drew).cell c2 (fun h => h)
  have c3d := ((Keeps.refl (fun _ => False) w1).drew).cell c3 (fun h => h)
  clear hw1 hb1 hB hk1 hm hl c2 c3
  go_enter Try.func38, Try.ntmps38
  go_wp2
  rw [← HW.out]
  refine Canon.region [2, 3] [(⟨w.heap.size, 2, none⟩, .int .i64 d.long)] [(5, 0)] (.hold [0, 4, 1, 5] (.loud 2 (.loud 3 (.seg [6, 7, 8] .stop)))) (by kernel_rfl) (by kernel_rfl) (by repeat (first | (with_reducible exact Safe.body) | (with_reducible apply Safe.then) | (with_reducible apply Safe.inBlock) | (dsimp +zetaDelta only))) ?_
  simp only [Canon.pick, Canon.wpPlan, List.getElem?_toArray, List.getElem?_cons_zero, List.getElem?_cons_succ]
  have HKd := Lib.hid (HK1.out.drew)
  clear HK1 HW
  generalize w1.drew = wd at *
  have HC := Lib.hid (cut_c vB d.b HRB.out 600)
  generalize d.b.take 600 = bb at *
  have HX := Lib.hid (show ∀ p ∈ [((⟨w.heap.size, 2, none⟩ : Addr), Value.int .i64 d.long)], wd.cell? p.1 = some p.2 by
    intro p hp; rw [List.mem_singleton] at hp; subst hp; exact c2d)
  refine ⟨HX.out, ?_⟩
  go_wp2_with (go_at_call 24; go_loud (refine Rets.use HC.out ?_); rintro vC w2 ⟨hC, rfl⟩)
  refine ⟨HX.out, ?_⟩
  go_wp2_with (go_at_call 23; go_loud (refine Rets.use (copy_c vC bb hC (by omega)) ?_); rintro v3 w3 ⟨hO3, hk3⟩; obtain ⟨A3, c3', rfl, hc3, _⟩ := hO3.slice; have c2e := hk3.cell c2d (fun h => h))
  refine ⟨fun p hp => by rw [List.mem_singleton] at hp; subst hp; exact c2e, ?_⟩
  have HO3 := Lib.hid hO3
  have HK3 := Lib.hid hk3
  have z3 := hk3.size
  have zd := HKd.out.size
  clear hO3 hk3
  by_cases hm0 : m = 0
  · subst hm0
    go_wp2_with (first
      | ((with_reducible refine at_ 10 rfl ?_); go_must (refine step_append_zero0 rfl _ _ _ _ rfl 5 _ Try.underlying38 Try.underlying3 row_byte A3 bb.length c3' hc3 rfl rfl ?_))
      | (go_at_call 22; go_loud (refine Rets.use (HLe.out _) ?_); rintro _ _ ⟨rfl, rfl⟩))
    refine ⟨by rfl, ⟨fun _ => rfl, trivial⟩, ?_⟩
    go_wp2
    go_ret
    rw [HT.out, List.replicate_zero, List.append_nil]
    exact ⟨HO3.out.mono (fun k _ h => by omega), HKd.out.trans HK3.out (fun _ _ h => h)⟩
  · go_wp2_with (first
      | ((with_reducible refine at_ 10 rfl ?_); go_must (refine step_append_zeros rfl _ _ _ _ 9 rfl 5 _ Try.underlying38 Try.underlying3 Try.underlying9 row_byte (.slice A3 bb.length c3') bb.length (Disk.bytes8 bb) rfl HO3.out m rfl (by omega) (by omega) ?_); intro v8 w8 hO8 hk8)
      | (go_at_call 22; go_loud (refine Rets.use (HLe.out _) ?_); rintro _ _ ⟨rfl, rfl⟩))
    refine ⟨by rfl, ⟨fun _ => rfl, trivial⟩, ?_⟩
    go_wp2
    go_ret
    rw [HT.out, List.length_append, List.length_replicate, Disk.bytes8_append, bytes8_zeros]
    exact ⟨hO8.mono (fun k _ h => by rcases h with h | h <;> omega), (HKd.out.trans HK3.out (fun _ _ h => h)).trans hk8 (fun k hk h => by have := HO3.out.2 k h; omega)⟩
def FewPost (w : World) (v0 : Value) (l : List Do10) : Value → World → Prop := fun v w' => Keeps (fun _ => False) w w' ∧ ∃ (m : Nat) (A : Option Addr) (c : Nat), v0 = .slice A l.length c ∧ v = .slice A m c ∧ m ≤ l.length ∧ m ≤ 40
theorem info_do10 : (Try.prog.info? 72).map (·.size) = some 5 := by kernel_rfl
set_option maxHeartbeats 1600000 in
set_option maxRecDepth 100000 in
theorem few10_c {w : World} {v : Value} {l : List Do10} (h : Dos10 w v l) : Calls Try.prog 35 #[v] w (Rets (FewPost w v l)) := by
  have HD := Lib.hid h
  obtain ⟨A, c, rfl, h2, h3, h4, hin⟩ := id h
  have HIn := Lib.hid hin
  clear h hin
  go_enter Try.func35, Try.ntmps35
  go_wp2
  go_loopw [3, 4] (fun nv iv wr => ∃ (k : Nat) (n : Nat), k ≤ l.length ∧ k ≤ 40 ∧ iv = .int .i64 k ∧ nv = .int .i64 n ∧ n ≤ 60000 ∧ Keeps (fun _ => False) w wr) (fun _ iv _ => l.length - (intOf iv).toNat)
  case atStart => exact ⟨0, 0, Nat.zero_le _, Nat.zero_le _, rfl, rfl, Nat.zero_le _, Keeps.refl _ _⟩
  case round =>
    obtain ⟨k, n, hk, hk40, rfl, rfl, hn, hK⟩ := hrel
    have HK := Lib.hid hK
    by_cases hlt : k < l.length
    · by_cases h40 : k < 40
      · have hd : (k : Int) < 40 := by omega
        obtain ⟨b, o, e, hb, vB, vK, c0, c1, c2, c3, c4, rB, _⟩ := HIn.out k _ (List.getElem?_eq_getElem hlt)
        cases e
        generalize l[k] = d at *
        have c0 := hK.cell c0 (fun h => h)
        have c1 := hK.cell c1 (fun h => h)
        have c2 := hK.cell c2 (fun h => h)
        have c3 := hK.cell c3 (fun h => h)
        have c4 := hK.cell c4 (fun h => h)
        have HCC := Lib.hid (show ∀ j u, [Value.int .i64 d.kind, .int .i64 d.n, .int .i64 d.long, vB, vK][j]? = some u → wr.cell? ⟨b, o + k * 5 + j, none⟩ = some u by
          intro j u hj
          match j, hj with
          | 0, hj => cases hj; exact c0
          | 1, hj => cases hj; exact c1
          | 2, hj => cases hj; exact c2
          | 3, hj => cases hj; exact c3
          | 4, hj => cases hj; exact c4)
        have HTx := Lib.hid (text_c (w := wr) d vB vK (rB.kept hK (fun _ _ h => h)))
        have htl := textF_len d
        generalize textF d = t at *
        clear c0 c1 c2 c3 c4 rB hK
        obtain ⟨nn, hnn⟩ : ∃ nn, nn = n + t.length := ⟨_, rfl⟩
        have enn : (n : Int) + t.length = (nn : Int) := by omega
        have hnn2 : nn ≤ 80000 := by omega
        clear hnn
        by_cases hbig : 60000 < nn
        · have hbi : 60000 < (nn : Int) := by omega
          go_wp2_with (first
            | (go_at_call 38; go_loud (refine Rets.use HTx.out ?_); rintro v5 w5 ⟨hO5, hk5⟩; obtain ⟨A5, c5, rfl, _⟩ := hO5.slice)
            | ((with_reducible refine at_ 19 rfl ?_); go_must (refine step_load_cells rfl 72 _ rfl b (o + k * 5) [.int .i64 d.kind, .int .i64 d.n, .int .i64 d.long, vB, vK] _ rfl HCC.out Try.underlying72 rfl info_do10 ?_)))
          go_ret
          have kk := HK.out.trans hk5 (fun _ _ h => h)
          exact ⟨kk, k, _, _, rfl, rfl, hk, hk40⟩
        · have hbi : ¬ 60000 < (nn : Int) := by omega
          go_wp2_with (first
            | (go_at_call 38; go_loud (refine Rets.use HTx.out ?_); rintro v5 w5 ⟨hO5, hk5⟩; obtain ⟨A5, c5, rfl, _⟩ := hO5.slice)
            | ((with_reducible refine at_ 19 rfl ?_); go_must (refine step_load_cells rfl 72 _ rfl b (o + k * 5) [.int .i64 d.kind, .int .i64 d.n, .int .i64 d.long, vB, vK] _ rfl HCC.out Try.underlying72 rfl info_do10 ?_)))
          go_roundw
          case rel => exact ⟨k + 1, nn, hlt, by omega, by go_num, rfl, by omega, HK.out.trans hk5 (fun _ _ h => h)⟩
          case measure => simp [intOf]; omega
      · obtain rfl : k = 40 := by omega
        have hd : ¬ ((40 : Nat) : Int) < 40 := by omega
        go_wp2
        go_ret
        exact ⟨HK.out, 40, _, _, rfl, rfl, hk, Nat.le_refl _⟩
    · obtain rfl : k = l.length := by omega
      go_wp2
      go_ret
      exact ⟨HK.out, l.length, _, _, rfl, rfl, Nat.le_refl _, hk40⟩
end Go.Proofs.Ytmkpdoljaccpaaa
