/-
  store.do.
-/
import Derived.Test.YtbiohidelhfaiaaStoM
namespace Go.Proofs.Ytbiohidelhfaiaa
open Go.RowKit Go.Canon Go.Mem Go.ChangeMaps Go.MapKept
open Go.Proofs.Ytbiohidelhfaiaa.Sto (Chg)
set_option linter.unusedVariables false
set_option linter.unusedSimpArgs false
namespace Sto
/-- A change is done: what is held, what is used. -/
def step (s : Mp × Int) (c : Chg) : Mp × Int := (do1 s.1 c, s.2 - costF s.1 c.key + costF (do1 s.1 c) c.key)
def doF (s : Mp × Int) (l : List Chg) : Mp × Int := l.foldl step s
theorem doF_next (s : Mp × Int) {l : List Chg} {k : Nat} (h : k < l.length) : doF s (l.take (k + 1)) = step (doF s (l.take k)) l[k] := by
  unfold doF
  rw [List.take_add_one, List.getElem?_eq_getElem h, List.foldl_append]; rfl
end Sto
theorem MapIs.kept {w w' : World} {bm n : Nat} {R S : Nat → Prop} {M : Sto.Mp} (h : MapIs w bm R n M) (hk : Keeps S w w') (hb : ¬ S bm) (hR : ∀ j, R j → ¬ S j) : MapIs w' bm R n M := by
  obtain ⟨D, ⟨es, clock, h1, h2⟩, hin⟩ := h
  refine ⟨D, ⟨es, clock, hk.heap h1 hb, h2⟩, fun k hB => ?_⟩
  have := hin k hB
  cases hL : Sto.look M k with
  | none => rw [hL] at this; exact this
  | some val =>
    rw [hL] at this
    obtain ⟨a, v, b, hO, c⟩ := this
    exact ⟨a, v, b, hO.kept hk hR, c⟩
theorem MapIs.mono {w : World} {bm n n' : Nat} {R R' : Nat → Prop} {M : Sto.Mp} (h : MapIs w bm R n M) (hn : n ≤ n') (hR : ∀ j, j < w.heap.size → R j → R' j) : MapIs w bm R' n' M := by
  obtain ⟨D, h1, hin⟩ := h
  refine ⟨D, h1.mono hn, fun k hB => ?_⟩
  have := hin k hB
  cases hL : Sto.look M k with
  | none => rw [hL] at this; exact this
  | some val =>
    rw [hL] at this
    obtain ⟨a, v, b, hO, c⟩ := this
    exact ⟨a, v, b, hO.mono hR, c⟩
theorem MapIs.lt {w : World} {bm n : Nat} {R : Nat → Prop} {M : Sto.Mp} (h : MapIs w bm R n M) : bm < w.heap.size := by
  obtain ⟨D, h1, _⟩ := h
  exact h1.lt
theorem MapIs.cost {w : World} {bm n : Nat} {R : Nat → Prop} {M : Sto.Mp} (h : MapIs w bm R n M) {k : List Int} (hB : IsB k) (hl : k.length ≤ 1000000) : 0 ≤ Sto.costF M k ∧ Sto.costF M k ≤ 2000000 := by
  obtain ⟨D, h1, hin⟩ := h
  have := hin k hB
  unfold Sto.costF
  cases hL : Sto.look M k with
  | none => simp
  | some val =>
    rw [hL] at this
    obtain ⟨a, v, b, hO, c⟩ := this
    simp only
    omega
theorem turned_keeps {w w' : World} {b : Nat} (h : w.mapTurned w' b) : Keeps (· = b) w w' ∧ w'.heap.size = w.heap.size := by
  have h2 := h.grown
  obtain ⟨es, clock, es', clock', hb, rfl⟩ := h
  exact ⟨⟨rfl, rfl, rfl, by simp [setBlock], fun k _ hn => heap_setBlock_other hb _ hn⟩, by simp [setBlock]⟩
section
variable {ops : Array Oper} {op : Oper} {rest : List Oper} {a : Act} {w : World} {Q : Exit → Act → World → Prop}
/-- For arms of a walk: at delete, at m[k] = v. -/
theorem at_del (m x : Operand) (_ : op.op = Op.call { callee := Callee.builtin Builtin.delete, args := #[m, x], argTypes := #[80, 9] }) (k : wpList Try.prog ops Q (op :: rest) a w) : wpList Try.prog ops Q (op :: rest) a w := k
theorem at_put (m x y : Operand) (_ : op.op = Op.mapUpdate 80 m x y) (k : wpList Try.prog ops Q (op :: rest) a w) : wpList Try.prog ops Q (op :: rest) a w := k
/-- m[k] = v. -/
theorem step_put {R R2 : Nat → Prop} (hgd : Region.wanted op (yielded ops a.tmps) = true) (m x y : Operand) (ho : op.op = Op.mapUpdate 80 m x y) (bm n : Nat) (M : Sto.Mp) (hm : a.eval m = .map (some bm)) (h : MapIs w bm R n M) (hR : ¬ R bm) (hn : n < 1000000000)
    (s : ByteArray) (k : List Int) (hx : a.eval x = .string s) (hs : s = str k) (hB : IsB k) (hl : k.length ≤ 1000000) (v : Value) (val : List Int) (hy : a.eval y = v) (hO : OwnRow w R2 5 1 v val.length (Disk.bytes8 val)) (hR2 : ¬ R2 bm) (hv : val.length ≤ 1000000)
    (hK : ∀ w', MapIs w' bm (fun j => R j ∨ R2 j) (n + 1) (Sto.put M k val) → Keeps (· = bm) w w' → w'.heap.size = w.heap.size → wpList Try.prog ops Q rest (a.put op.dst undef) w') : wpList Try.prog ops Q (op :: rest) a w := by
  subst hs
  refine plain_ hgd fun K' hK' => ?_
  obtain ⟨D, hown, hin⟩ := h
  obtain ⟨w', hrun, r1, r2⟩ := hown.store strLaw Try.underlying80 (by simp only [maxLen]; omega) (keyLit_of k hl) (show Rv v = some (.held v, []) from rfl)
  obtain ⟨k1, k2⟩ := turned_keeps r2
  unfold Oper.wp execOp
  simp only [ho, hm, hx, hy, Sem.run_bind, hrun, Result.andThen_ok, Sem.run_pure]
  refine hK' _ _ (hK w' ⟨_, r1, fun q hq => ?_⟩ k1 k2)
  by_cases e : q = k
  · subst e
    rw [Sto.look_put]
    exact ⟨Maps.has_put_same hown.isMap (show WideAt.IsKeyLit (keyLit q) from by simp [keyLit, WideAt.IsKeyLit]) _, v, Maps.atKey_put_same hown.isMap (show WideAt.IsKeyLit (keyLit q) from by simp [keyLit, WideAt.IsKeyLit]) _ _, (hO.kept k1 (fun j hj e => hR2 (e ▸ hj))).mono (fun _ _ h => .inr h), hv⟩
  · rw [Sto.look_put_other M val e]
    have hne := keyLit_ne hq hB e
    have := hin q hq
    rw [Maps.has_put_other hne, Maps.atKey_put_other hne]
    cases hL : Sto.look M q with
    | none => rw [hL] at this; exact this
    | some u =>
      rw [hL] at this
      obtain ⟨h1, u2, h2, h3, h4⟩ := this
      exact ⟨h1, u2, h2, (h3.kept k1 (fun j hj e => hR (e ▸ hj))).mono (fun _ _ h => .inl h), h4⟩
/-- delete(m, k). -/
theorem step_del {R : Nat → Prop} (hgd : Region.wanted op (yielded ops a.tmps) = true) (m x : Operand) (ho : op.op = Op.call { callee := Callee.builtin Builtin.delete, args := #[m, x], argTypes := #[80, 9] }) (bm n : Nat) (M : Sto.Mp) (hm : a.eval m = .map (some bm)) (h : MapIs w bm R n M) (hR : ¬ R bm)
    (s : ByteArray) (k : List Int) (hx : a.eval x = .string s) (hs : s = str k) (hB : IsB k) (hl : k.length ≤ 1000000)
    (hK : ∀ w', MapIs w' bm R n (Sto.del M k) → Keeps (· = bm) w w' → w'.heap.size = w.heap.size → wpList Try.prog ops Q rest (a.put op.dst (.tuple #[])) w') : wpList Try.prog ops Q (op :: rest) a w := by
  subst hs
  refine plain_ hgd fun K' hK' => ?_
  obtain ⟨D, hown, hin⟩ := h
  obtain ⟨w', hrun, r1, r2⟩ := hown.drop strLaw Try.underlying80 (keyLit_of k hl) op.type
  obtain ⟨k1, k2⟩ := turned_keeps r2
  unfold Oper.wp execOp
  simp [ho, resolve, invoke, builtin, hm, hx, hrun, Result.andThen]
  refine hK' _ _ (hK w' ⟨_, r1, fun q hq => ?_⟩ k1 k2)
  by_cases e : q = k
  · subst e
    rw [Sto.look_del]
    exact Maps.has_del_same
  · rw [Sto.look_del_other M e]
    have hne := keyLit_ne hq hB e
    have := hin q hq
    rw [Maps.has_del_other hne, Maps.atKey_del_other hne]
    cases hL : Sto.look M q with
    | none => rw [hL] at this; exact this
    | some u =>
      rw [hL] at this
      obtain ⟨h1, u2, h2, h3, h4⟩ := this
      exact ⟨h1, u2, h2, h3.kept k1 (fun j hj e => hR (e ▸ hj)), h4⟩
end
/-! ### a store in memory -/
def stoC (lv : Value) (q u : Int) (bm : Nat) : List Value := [lv, .int .i64 q, .int .i64 u, .map (some bm)]
/-- A store lies in block x, its map in bm, the values in R. -/
structure SIs (w : World) (x bm : Nat) (R : Nat → Prop) (lv : Value) (q : Int) (n : Nat) (s : Sto.Mp × Int) : Prop where
  blk : w.heap[x]? = some (.cells (stoC lv q s.2 bm).toArray 82 (0, 0))
  map : MapIs w bm R n s.1
  r1 : ¬ R x
  r2 : ¬ R bm
  ne : x ≠ bm
theorem SIs.kept {w w' : World} {x bm n : Nat} {R S : Nat → Prop} {lv : Value} {q : Int} {s : Sto.Mp × Int} (h : SIs w x bm R lv q n s) (hk : Keeps S w w') (hx : ¬ S x) (hb : ¬ S bm) (hR : ∀ j, R j → ¬ S j) : SIs w' x bm R lv q n s :=
  ⟨hk.heap h.blk hx, h.map.kept hk hb hR, h.r1, h.r2, h.ne⟩
theorem SIs.kept0 {w w' : World} {x bm n : Nat} {R : Nat → Prop} {lv : Value} {q : Int} {s : Sto.Mp × Int} (h : SIs w x bm R lv q n s) (hk : Keeps (fun _ => False) w w') : SIs w' x bm R lv q n s := h.kept hk (fun h => h) (fun h => h) (fun _ _ h => h)
theorem SIs.lt {w : World} {x bm n : Nat} {R : Nat → Prop} {lv : Value} {q : Int} {s : Sto.Mp × Int} (h : SIs w x bm R lv q n s) : x < w.heap.size ∧ bm < w.heap.size := ⟨lt_of h.blk, h.map.lt⟩
theorem SIs.c2 {w : World} {x bm n : Nat} {R : Nat → Prop} {lv : Value} {q : Int} {s : Sto.Mp × Int} (h : SIs w x bm R lv q n s) : w.cell? ⟨x, 2, none⟩ = some (.int .i64 s.2) := (cell_of_row w _ 2 _ _ _ h.blk).trans rfl
theorem SIs.c3 {w : World} {x bm n : Nat} {R : Nat → Prop} {lv : Value} {q : Int} {s : Sto.Mp × Int} (h : SIs w x bm R lv q n s) : w.cell? ⟨x, 3, none⟩ = some (.map (some bm)) := (cell_of_row w _ 3 _ _ _ h.blk).trans rfl
theorem SIs.setU {w w' : World} {x bm n : Nat} {R : Nat → Prop} {lv : Value} {q u : Int} {s : Sto.Mp × Int} (h : SIs w x bm R lv q n s) (hk : Keeps (· = x) w w') (hb : w'.heap[x]? = some (.cells ((stoC lv q s.2 bm).set 2 (.int .i64 u)).toArray 82 (0, 0))) : SIs w' x bm R lv q n (s.1, u) :=
  ⟨hb, h.map.kept hk (fun e => h.ne e.symm) (fun j hj e => h.r1 (e ▸ hj)), h.r1, h.r2, h.ne⟩
theorem info_int : (Try.prog.info? 3).map (·.size) = some 1 := by kernel_rfl
end Go.Proofs.Ytbiohidelhfaiaa
