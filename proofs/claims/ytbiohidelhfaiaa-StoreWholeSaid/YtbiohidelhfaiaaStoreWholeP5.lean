/-
  Several texts in one:
  Changes in memory of one's own.
  The walk of Decode.
  store.Open.
  A new disk, a new log: plainly.
  A store lives.
  A log, plainly: frames on sectors are read as they were laid.
  A log, plainly: what Open finds, what Append leaves.
  A log, plainly: what Append leaves.
  All keys and values, in no order: the iterator.
  All keys and values: what is collected.
  A range over all keys and values.
  The library's contracts at this program's numbers (printed by wip/tools/lay.py).
  Pairs, sorted by the library.
  The walk of All.
  Lists of pairs in memory.
  A change done on a list by rising keys, plainly.
-/
import Derived.Lib.SlBytesConst
import Derived.RangeFuncNested
import Derived.RangeFuncBound
import Derived.RangeFuncCalls
import Derived.RangeFuncLeaves
import Derived.Shelf.Abstract
import Derived.OwnWalkIn
import Derived.TacticsInMore
import Derived.LoopNIn
import Derived.LoopIn
import Derived.RegionIn
import Derived.Sort.MapsRangeIn
import Derived.Sort.KeysCollected
import Derived.Maps.AppendAt
import Derived.Shelf.SlSortCmp.WholeK
import Derived.Shelf.SlSortCmp.NoneTotal
import Derived.Shelf.Small.Strs
import Derived.Test.YtbiohidelhfaiaaStoreWholeP0
import Derived.Test.YtbiohidelhfaiaaStoreWholeP1
import Derived.Test.YtbiohidelhfaiaaStoreWholeP2
import Derived.Test.YtbiohidelhfaiaaStoreWholeP3
import Derived.Test.YtbiohidelhfaiaaStoreWholeP4
section
namespace Go.Proofs.Ytbiohidelhfaiaa
open Go.RowKit Go.Canon Go.Mem
open Go.Proofs.Ytbiohidelhfaiaa.Sto (Chg)
set_option linter.unusedVariables false
set_option linter.unusedSimpArgs false
def chgCells (l : List Chg) (vs : List Value) : List Value := (l.zip vs).flatMap fun p => chgC p.1 p.2
theorem chgCells_snoc (l : List Chg) (vs : List Value) (c : Chg) (u : Value) (h : vs.length = l.length) : chgCells (l ++ [c]) (vs ++ [u]) = chgCells l vs ++ chgC c u := by
  unfold chgCells
  rw [List.zip_append h.symm, List.flatMap_append]; simp
theorem chgCells_at : ∀ (l : List Chg) (vs : List Value) (i : Nat) (c : Chg) (u : Value), l[i]? = some c → vs[i]? = some u → ∀ j, j < 3 → (chgCells l vs)[i * 3 + j]? = (chgC c u)[j]? := by
  intro l
  induction l with
  | nil => intro vs i c u h; simp at h
  | cons d l ih =>
    intro vs i c u h1 h2 j hj
    cases vs with
    | nil => simp at h2
    | cons v vs =>
      have e : chgCells (d :: l) (v :: vs) = chgC d v ++ chgCells l vs := by simp [chgCells]
      rw [e]
      cases i with
      | zero =>
        simp only [List.getElem?_cons_zero, Option.some.injEq] at h1 h2
        subst h1 h2
        rw [Nat.zero_mul, Nat.zero_add, List.getElem?_append_left (by simp [chgC]; omega)]
      | succ i =>
        simp only [List.getElem?_cons_succ] at h1 h2
        rw [List.getElem?_append_right (by simp [chgC]; omega), ← ih vs i c u h1 h2 j hj]
        congr 1
        simp [chgC]; omega
/-- The changes lie in memory of one's own: the row, the values; no value lies in the row's block. -/
def ChgOwn (w : World) (ok : Nat → Prop) (v : Value) (l : List Chg) : Prop := ∃ vs : List Value, vs.length = l.length ∧ OwnRow w ok 41 3 v l.length (chgCells l vs) ∧ (∀ (i : Nat) (c : Chg) (u : Value), l[i]? = some c → vs[i]? = some u → OwnRow w ok 5 1 u c.val.length (Disk.bytes8 c.val)) ∧ ∀ u ∈ vs, ∀ k, v.ownBlock = some k → u.ownBlock ≠ some k
theorem ChgOwn.nil (w : World) (ok : Nat → Prop) : ChgOwn w ok (.slice none 0 0) [] := ⟨[], rfl, OwnRow.nil _ _ _ _, fun i c u h => by simp at h, fun u h => by cases h⟩
theorem ChgOwn.kept {w w' : World} {ok S : Nat → Prop} {v : Value} {l : List Chg} (h : ChgOwn w ok v l) (hk : Keeps S w w') (hn : ∀ k, ok k → ¬ S k) : ChgOwn w' ok v l := by
  obtain ⟨vs, h1, h2, h3, h4⟩ := h
  exact ⟨vs, h1, h2.kept hk hn, fun i c u hc hu => (h3 i c u hc hu).kept hk hn, h4⟩
theorem ChgOwn.mono {w : World} {ok ok' : Nat → Prop} {v : Value} {l : List Chg} (h : ChgOwn w ok v l) (ho : ∀ k, k < w.heap.size → ok k → ok' k) : ChgOwn w ok' v l := by
  obtain ⟨vs, h1, h2, h3, h4⟩ := h
  exact ⟨vs, h1, h2.mono ho, fun i c u hc hu => (h3 i c u hc hu).mono ho, h4⟩
theorem ChgOwn.slice {w : World} {ok : Nat → Prop} {v : Value} {l : List Chg} (h : ChgOwn w ok v l) : ∃ A c, v = .slice A l.length c ∧ l.length ≤ c := by
  obtain ⟨vs, h1, h2, h3, h4⟩ := h
  obtain ⟨A, c, e, h, _⟩ := h2.slice
  exact ⟨A, c, e, h⟩
theorem ChgOwn.chgs {w : World} {ok : Nat → Prop} {v : Value} {l : List Chg} (h : ChgOwn w ok v l) : Chgs w ok v l := by
  obtain ⟨vs, h1, h2, h3, h4⟩ := h
  obtain ⟨A, c, rfl, hc, _, hz⟩ := h2.slice
  refine ⟨A, c, rfl, hc, fun e => (hz e).2, fun i d hi => ?_⟩
  have hil : i < l.length := (List.getElem?_eq_some_iff.1 hi).1
  obtain ⟨u, hu⟩ : ∃ u, vs[i]? = some u := ⟨vs[i], List.getElem?_eq_getElem (by omega)⟩
  obtain ⟨g, cap, cur, e, hg, hb, _⟩ := h2.form (by omega)
  cases e
  have hcell := fun j (hj : j < 3) (x : Value) (hx : (chgC d u)[j]? = some x) => h2.cells (g := g) (m := l.length) (c := c) rfl (i * 3 + j) x (by rw [chgCells_at l vs i d u hi hu j hj]; exact hx)
  refine ⟨g, 0, rfl, hg, u, ?_, ?_, ?_, (h3 i d u hi hu).rd⟩
  · have := hcell 0 (by decide) _ rfl
    rwa [Nat.add_zero, ← Nat.zero_add (i * 3)] at this
  · have := hcell 1 (by decide) _ rfl
    rwa [← Nat.zero_add (i * 3)] at this
  · have := hcell 2 (by decide) _ rfl
    rwa [← Nat.zero_add (i * 3)] at this
theorem row3_chg : (Try.prog.info? 41).map (fun i => (i.zero, i.size, i.bytes)) = some (some (.agg #[.string ⟨#[]⟩, .bool false, .slice none 0 0]), 3, 48) := by kernel_rfl
section
variable {ops : Array Oper} {op : Oper} {rest : List Oper} {a : Act} {w : World} {Q : Exit → Act → World → Prop}
/-- append(l, c): the change lies in a block by itself. -/
theorem step_push {ok : Nat → Prop} (hgd : Region.wanted op (yielded ops a.tmps) = true) (s x : Operand) (ho : op.op = .call { callee := .builtin .append, args := #[s, x], argTypes := #[22, 22] })
    (v : Value) (l : List Chg) (hs : a.eval s = v) (h : ChgOwn w ok v l) (c : Chg) (u : Value) (b : Nat) (hx : a.eval x = .slice (some ⟨b, 0, none⟩) 1 1) (hb : w.heap[b]? = some (.cells (chgC c u).toArray 41 (0, 0))) (hu : OwnRow w ok 5 1 u c.val.length (Disk.bytes8 c.val)) (hun : ∀ k, v.ownBlock = some k → u.ownBlock ≠ some k) (hn : l.length ≤ 1000000)
    (k : ∀ v' w', ChgOwn w' (fun j => ok j ∨ w.heap.size ≤ j) v' (l ++ [c]) → Keeps (fun j => v.ownBlock = some j) w w' → wpList Try.prog ops Q rest (a.put op.dst v') w') : wpList Try.prog ops Q (op :: rest) a w := by
  obtain ⟨vs, h1, h2, h3, h4⟩ := h
  have h2' : OwnRow w (fun j => v.ownBlock = some j) 41 3 v l.length (chgCells l vs) := ⟨h2.1, fun j hj => hj⟩
  have hone : u.oneCell' = true := Rd.one hu.rd
  refine step_append hgd s x 22 ho 41 _ 3 48 Try.underlying22 row3_chg rfl (by decide) v l.length (chgCells l vs) hs h2' b 0 1 1 (chgC c u) hx rfl (fun j y hy => by rw [cell_of_row w b _ _ _ _ hb, Nat.zero_add]; simpa using hy) (by intro y hy; simp only [chgC, List.mem_cons, List.not_mem_nil, or_false] at hy; rcases hy with rfl | rfl | rfl; rfl; rfl; exact hone) (by simp only [maxLen]; omega) (by omega) (fun v' w' h5 h6 _ => k v' w' ⟨vs ++ [u], by rw [List.length_append, List.length_append, h1]; rfl, ?_, ?_, ?_⟩ h6)
  · rw [chgCells_snoc l vs c u h1, List.length_append]
    exact h5.mono (fun j _ e => e.elim (fun e => .inl (h2.2 j e)) .inr)
  · intro i d y hd hy
    by_cases hi : i < l.length
    · rw [List.getElem?_append_left hi] at hd
      rw [List.getElem?_append_left (by omega)] at hy
      have hmem : y ∈ vs := List.mem_of_getElem? hy
      have h7 := h3 i d y hd hy
      have h8 : OwnRow w (fun j => ok j ∧ y.ownBlock = some j) 5 1 y d.val.length (Disk.bytes8 d.val) := ⟨h7.1, fun j hj => ⟨h7.2 j hj, hj⟩⟩
      exact (h8.kept h6 (fun j hj e => h4 y hmem j e hj.2)).mono (fun j _ e => .inl e.1)
    · rw [List.getElem?_append_right (by omega)] at hd
      rw [List.getElem?_append_right (by omega)] at hy
      have hi0 : i - l.length = 0 := by have := (List.getElem?_eq_some_iff.1 hd).1; simp at this; omega
      have hi1 : i - vs.length = 0 := by omega
      rw [hi0] at hd
      rw [hi1] at hy
      simp only [List.getElem?_cons_zero, Option.some.injEq] at hd hy
      subst hd hy
      have h8 : OwnRow w (fun j => ok j ∧ u.ownBlock = some j) 5 1 u c.val.length (Disk.bytes8 c.val) := ⟨hu.1, fun j hj => ⟨hu.2 j hj, hj⟩⟩
      exact (h8.kept h6 (fun j hj e => hun j e hj.2)).mono (fun j _ e => .inl e.1)
  · intro y hy j hj e
    have hlt : j < w.heap.size := by
      rcases List.mem_append.1 hy with hy | hy
      · obtain ⟨i, hi⟩ := List.mem_iff_getElem?.1 hy
        have hil : i < l.length := by have := (List.getElem?_eq_some_iff.1 hi).1; omega
        exact (h3 i l[i] y (List.getElem?_eq_getElem hil) hi).lt j e
      · rw [List.mem_singleton] at hy; subst hy; exact hu.lt j e
    rcases h5.2 j hj with h | h
    · rcases List.mem_append.1 hy with hy | hy
      · exact h4 y hy j h e
      · rw [List.mem_singleton] at hy; subst hy; exact hun j h e
    · omega
end
end Go.Proofs.Ytbiohidelhfaiaa
end

section
namespace Go.Proofs.Ytbiohidelhfaiaa
open Go.RowKit Go.Canon Go.Mem
open Go.Proofs.Ytbiohidelhfaiaa.Sto (Chg)
set_option linter.unusedVariables false
set_option linter.unusedSimpArgs false
theorem change_sub {b r : List Int} {c : Chg} (hB : IsB b) (h : Sto.change b = some (c, r)) : IsB c.key ∧ IsB c.val ∧ c.key.length ≤ b.length ∧ c.val.length ≤ b.length ∧ IsB r ∧ r.length ≤ b.length := by
  unfold Sto.change at h
  cases b with
  | nil => cases h
  | cons t s =>
    simp only at h
    split at h
    · cases h
    · have hs : IsB s := fun x hx => hB x (List.mem_cons_of_mem _ hx)
      cases hp : Sto.piece s with
      | none => rw [hp] at h; cases h
      | some q =>
        obtain ⟨k, r2⟩ := q
        rw [hp] at h
        simp only at h
        obtain ⟨h1, h2, h3, h4⟩ := piece_sub hs hp
        rw [List.length_cons]
        split at h
        · simp only [Option.some.injEq, Prod.mk.injEq] at h
          obtain ⟨rfl, rfl⟩ := h
          exact ⟨h1, fun x hx => by simp at hx, by simp only; omega, by simp, h2, by omega⟩
        · cases hp2 : Sto.piece r2 with
          | none => rw [hp2] at h; cases h
          | some q =>
            obtain ⟨v, r3⟩ := q
            rw [hp2] at h
            simp only [Option.some.injEq, Prod.mk.injEq] at h
            obtain ⟨rfl, rfl⟩ := h
            obtain ⟨h5, h6, h7, h8⟩ := piece_sub h2 hp2
            exact ⟨h1, h5, by simp only; omega, by simp only; omega, h6, by omega⟩
def decEnd (m : Option (List Chg × List Int)) : List Chg × Int := match m with
  | none => ([], 4)
  | some (l, r) => if r ≠ [] ∨ Sto.chk l ≠ 0 then ([], 4) else (l, 0)
def decMore (x : Nat) (m : Option (Chg × List Int)) : Option (List Chg × List Int) := match m with
  | none => none
  | some (c, r) => match Sto.changes x r with
    | none => none
    | some (l, r2) => some (c :: l, r2)
def decPre (lk : List Chg) (m : Option (List Chg × List Int)) : Option (List Chg × List Int) := match m with
  | none => none
  | some (l, r) => some (lk ++ l, r)
theorem dec_eq (b : List Int) : Sto.dec b = if (Sto.rdF b).2.2 ≠ 0 ∨ 16 < (Sto.rdF b).1 then ([], 4) else decEnd (Sto.changes (Sto.rdF b).1 (b.drop (Sto.rdF b).2.1)) := by
  unfold Sto.dec decEnd
  rfl
theorem changes_eq (n : Nat) (b : List Int) : Sto.changes (n + 1) b = decMore n (Sto.change b) := by
  unfold decMore
  rw [Sto.changes]
  rfl
theorem decPre_more (lk : List Chg) (x : Nat) (c : Chg) (r : List Int) : decPre lk (decMore x (some (c, r))) = decPre (lk ++ [c]) (Sto.changes x r) := by
  unfold decPre decMore
  simp only
  cases Sto.changes x r with
  | none => rfl
  | some q => obtain ⟨l, r2⟩ := q; simp
theorem ChgOwn.blk {w : World} {ok : Nat → Prop} {v : Value} {l : List Chg} (h : ChgOwn w ok v l) : ∀ k, v.ownBlock = some k → ok k := by
  obtain ⟨vs, h1, h2, h3, h4⟩ := h
  exact h2.2
/-- Changes that were read, an error. -/
def DecIs (w : World) (p : List Chg × Int) : Value → World → Prop := fun v w' => Keeps (fun _ => False) w w' ∧ ∃ u, v = .tuple #[u, .int .i64 p.2] ∧ ChgOwn w' (fun j => w.heap.size ≤ j) u p.1
theorem decIs_no (w w' : World) (hk : Keeps (fun _ => False) w w') : DecIs w ([], 4) (.tuple #[.slice none 0 0, .int .i64 4]) w' := ⟨hk, _, rfl, ChgOwn.nil _ _⟩
theorem row2_chg : (Try.prog.info? 41).map (fun i => (i.zero, i.size)) = some (some (.agg #[.string ⟨#[]⟩, .bool false, .slice none 0 0]), 3) := by kernel_rfl
theorem cells_one {v : Value} (h : v.oneCell' = true) : v.cells = #[v] := by cases v <;> first | rfl | (simp [Value.oneCell'] at h)
theorem chgC_list (d : Chg) (u : Value) (h : u.oneCell' = true) : (Value.agg (chgC d u).toArray).cells = (chgC d u).toArray := by
  simp [Value.cells, chgC, cells_one h]
theorem chgC_cells (d : Chg) (u : Value) (h : u.oneCell' = true) : (Value.agg (chgC d u).toArray).cells.size = 3 := by
  rw [chgC_list d u h]; rfl
theorem chgC_flat (d : Chg) (u : Value) (h : u.oneCell' = true) : ([Value.agg (chgC d u).toArray].flatMap fun v => v.cells.toList).toArray = (chgC d u).toArray := by
  rw [List.flatMap_cons, List.flatMap_nil, List.append_nil, chgC_list d u h]
set_option maxHeartbeats 6400000 in
set_option maxRecDepth 100000 in
theorem decode_c {ok : Nat → Prop} {w : World} (v : Value) (b : List Int) (hr : Rd w ok v b.length (Disk.bytes8 b)) (hB : IsB b) (hl : b.length ≤ 1000000) (hok : ∀ j, ok j → j < w.heap.size) : Calls Try.prog 14 #[v] w (Rets (DecIs w (Sto.dec b))) := by
  obtain ⟨A, c, rfl, _⟩ := hr.slice
  have HR := Lib.hid hr
  have HB := Lib.hid hB
  have HV := Lib.hid (rdvar_c _ b hr hB hl)
  have HD := Lib.hid (dec_eq b)
  have hle := rd_le b
  have hx := rdF_lt b hB
  clear hr hB
  generalize Sto.rdF b = q at *
  obtain ⟨x, n, e⟩ := q
  simp only at HD HV hle hx
  by_cases he : e = 0
  · subst he
    obtain ⟨hn1, hn2⟩ := hle rfl
    clear hle
    by_cases h16 : 16 < x
    · have HE := Lib.hid (show Sto.dec b = ([], 4) by rw [HD.out, if_pos (.inr h16)])
      go_enter Try.func14, Try.ntmps14
      go_wp2_with (go_at_call 43; refine Rets.use HV.out ?_; rintro _ _ ⟨rfl, rfl⟩)
      go_ret2
      rw [HE.out]
      exact decIs_no _ _ (Keeps.refl _ _)
    · have HD2 := Lib.hid (show Sto.dec b = decEnd (Sto.changes x (b.drop n)) by rw [HD.out, if_neg (by rintro (h | h); exact h rfl; exact h16 h)])
      have hx16 : x ≤ 16 := by omega
      have HB0 := Lib.hid (show IsB (b.drop n) from fun y hy => HB.out y (List.drop_subset _ _ hy))
      have hbl : (b.drop n).length ≤ 1000000 := by rw [List.length_drop]; omega
      have hnl : b.length - n = (b.drop n).length := by rw [List.length_drop]
      go_enter Try.func14, Try.ntmps14
      go_wp2_with (first
        | (go_at_call 43; refine Rets.use HV.out ?_; rintro _ _ ⟨rfl, rfl⟩)
        | ((with_reducible refine at_ 25 rfl ?_); go_loud (refine step_slice_from rfl _ _ _ rfl 5 under_elem info_elem A b.length c n .i64 _ rfl rfl hn2 HR.out (Disk.bytes8_len b) ?_); intro v3 hr3))
      rw [drop8, hnl] at hr3
      generalize b.drop n = b0 at *
      have HR3 := Lib.hid hr3
      clear hr3
      go_loopw [0, 7, 27] (fun bv lv iv wr => ∃ (k : Nat) (rb : List Int) (lk : List Chg), k ≤ x ∧ iv = .int .u64 k ∧ Keeps (fun _ => False) w wr ∧ Rd wr ok bv rb.length (Disk.bytes8 rb) ∧ Hid (IsB rb ∧ ChgB lk) ∧ rb.length ≤ 1000000 ∧ lk.length = k ∧ ChgOwn wr (fun j => w.heap.size ≤ j) lv lk ∧ Hid (Sto.changes x b0 = decPre lk (Sto.changes (x - k) rb))) (fun _ _ iv _ => x - (intOf iv).toNat)
      case atStart => exact ⟨0, b0, [], Nat.zero_le _, rfl, Keeps.refl _ _, HR3.out, Lib.hid ⟨HB0.out, fun c hc => by cases hc⟩, hbl, rfl, ChgOwn.nil _ _, Lib.hid (by rw [Nat.sub_zero]; unfold decPre; cases Sto.changes x b0 <;> rfl)⟩
      case round =>
        obtain ⟨k, rb, lk, hk, rfl, hkr, hrb, HBB, hrl, hlk, hO, HC⟩ := hrel
        subst hlk
        have HKr := Lib.hid hkr
        have HRb := Lib.hid hrb
        have HO := Lib.hid hO
        have hwr := hkr.size
        obtain ⟨Al, cl, rfl, _⟩ := hO.slice
        obtain ⟨Ab, cb, rfl, _⟩ := hrb.slice
        by_cases hlt : lk.length < x
        · have HCh := Lib.hid (change_c _ rb hrb HBB.out.1 hrl (fun j hj => by have := hok j hj; omega))
          have HC2 := Lib.hid (show Sto.changes x b0 = decPre lk (decMore (x - (lk.length + 1)) (Sto.change rb)) by rw [HC.out, show x - lk.length = x - (lk.length + 1) + 1 by omega, changes_eq])
          clear hkr hrb hO HC
          cases hch : Sto.change rb with
          | none =>
            rw [hch] at HCh HC2
            have HE := Lib.hid (show Sto.dec b = ([], 4) by rw [HD2.out, HC2.out]; rfl)
            clear HC2
            go_wp2_with (first
              | (go_at_call 44; refine Rets.use HCh.out ?_; rintro _ w4 ⟨hk4, ch, vV, a4, rfl, hone⟩)
              | ((with_reducible refine at_ 8 rfl ?_); go_must (refine step_alloc rfl _ rfl _ chgZ row_chg rfl ?_); intro w5 hb5 hk5 hs5)
              | ((with_reducible refine at_store 41 (.tmp 8) (.tmp 32) rfl ?_); go_must (refine step_store rfl _ _ _ rfl w4.heap.size 0 (chgC ch vV) _ _ rfl rfl hb5 (by simp [chgZ, chgC]) (info_chgC ch vV) (by simp [Value.oneCell', chgC]; exact hone) ?_); intro w6 hb6 hk6 hs6))
            go_ret2
            rw [HE.out]
            exact decIs_no _ _ (((HKr.out.trans hk4 (fun _ _ h => h)).trans hk5 (fun _ _ h => h)).mono (S' := fun j => w.heap.size ≤ j) (fun _ _ h => h.elim) |>.trans hk6 (fun j _ h => by have := hk4.size; omega) |>.mono (fun j hj h => by omega))
          | some q =>
            obtain ⟨d, r2⟩ := q
            obtain ⟨hs1, hs2, hs3, hs4, hs5, hs6⟩ := change_sub HBB.out.1 hch
            rw [hch] at HCh HC2
            have HC3 := Lib.hid (show Sto.changes x b0 = decPre (lk ++ [d]) (Sto.changes (x - (lk.length + 1)) r2) by rw [HC2.out, decPre_more])
            have HBB2 := Lib.hid (show IsB r2 ∧ ChgB (lk ++ [d]) from ⟨hs5, fun c hc => by
              rcases List.mem_append.1 hc with hc | hc
              · exact HBB.out.2 c hc
              · rw [List.mem_singleton] at hc; subst hc; exact ⟨hs1, hs2, by omega, by omega⟩⟩)
            clear HC2 hch hs1 hs2 hs5
            go_wp2_with (first
              | (go_at_call 44; refine Rets.use HCh.out ?_; rintro _ w4 ⟨hk4, vV, a4, rfl, hOv, hra⟩; have hone := Rd.one hOv.rd; have hz4 := hk4.size)
              | ((with_reducible refine at_ 8 rfl ?_); go_must (refine step_alloc rfl _ rfl _ chgZ row_chg rfl ?_); intro w5 hb5 hk5 hs5)
              | ((with_reducible refine at_store 41 (.tmp 8) (.tmp 32) rfl ?_); go_must (refine step_store rfl _ _ _ rfl w4.heap.size 0 (chgC d vV) _ _ rfl rfl hb5 (by simp [chgZ, chgC]) (info_chgC d vV) (by simp [Value.oneCell', chgC]; exact hone) ?_); intro w6 hb6 hk6 hs6; rw [put_whole (by rfl)] at hb6; have HK6 := Lib.hid (((HKr.out.trans hk4 (fun _ _ h => h)).trans hk5 (fun _ _ h => h)).mono (S' := fun j => w.heap.size ≤ j) (fun _ _ h => h.elim) |>.trans hk6 (fun j _ h => by omega) |>.mono (S' := fun _ => False) (fun j hj h => by omega)); have HO6 := Lib.hid ((((HO.out.mono (ok' := fun j => w.heap.size ≤ j ∧ j < wr.heap.size) (fun j hj h => ⟨h, hj⟩)).kept hk4 (fun _ _ h => h)).kept hk5 (fun _ _ h => h)).kept hk6 (fun j h e => by omega)); have HV6 := Lib.hid ((((hOv.mono (ok' := fun j => wr.heap.size ≤ j ∧ j < w4.heap.size) (fun j hj h => ⟨h, hj⟩)).kept hk5 (fun _ _ h => h)).kept hk6 (fun j h e => by omega))); have HA6 := Lib.hid (((hra.kept hk5 (fun _ _ h => h))).kept hk6 (fun j h e => by have := hok j h; omega)))
              | ((with_reducible refine at_ 38 rfl ?_); go_must (refine step_load rfl _ _ rfl w4.heap.size 0 (chgC d vV) _ _ _ _ rfl hb6 rfl Try.underlying41 rfl (info_chgC d vV) ?_))
              | ((with_reducible refine at_ 39 rfl ?_); go_must (refine step_lit rfl 22 _ 1 rfl [.agg (chgC d vV).toArray] rfl rfl (by decide) 41 _ 3 Try.underlying22 row2_chg (by decide) (by decide) (by intro v hv; rw [List.mem_singleton] at hv; subst hv; exact chgC_cells d vV hone) ?_); intro w7 hb7 hk7 hs7)
              | ((with_reducible refine at_ 40 rfl ?_); go_must (refine step_push (ok := fun j => w.heap.size ≤ j) rfl _ _ rfl (.slice Al lk.length cl) lk rfl ((HO6.out.mono (fun j _ h => h.1)).kept hk7 (fun _ _ h => h)) d vV w6.heap.size rfl (by rw [hb7]; exact congrArg _ (congrArg (fun z => Obj.cells z _ _) (chgC_flat d vV hone))) ((HV6.out.mono (fun j _ h => Nat.le_trans hwr h.1)).kept hk7 (fun _ _ h => h)) (fun j h e => by have h1 := (HO6.out.blk j h).2; have h2 := (HV6.out.2 j e).1; omega) (by omega) ?_); intro v8 w8 hO8 hk8; have HK8 := Lib.hid ((HK6.out.trans hk7 (fun _ _ h => h)).mono (S' := fun j => w.heap.size ≤ j) (fun _ _ h => h.elim) |>.trans hk8 (fun j _ h => (HO6.out.blk j h).1) |>.mono (S' := fun _ => False) (fun j hj h => by omega))))
            go_roundw
            case rel => exact ⟨lk.length + 1, r2, lk ++ [d], hlt, by go_num, HK8.out, (HA6.out.kept hk7 (fun _ _ h => h)).kept hk8 (fun j h e => by have h1 := (HO6.out.blk j e).1; have := hok j h; omega), HBB2, by omega, by rw [List.length_append]; rfl, hO8.mono (fun j _ h => h.elim (fun h => h) (fun h => by have := hk7.size; omega)), HC3⟩
            case measure => simp [intOf]; omega
        · obtain rfl : lk.length = x := by omega
          have HE1 := Lib.hid (show Sto.dec b = if rb ≠ [] ∨ Sto.chk lk ≠ 0 then ([], 4) else (lk, 0) by
            rw [HD2.out, HC.out, Nat.sub_self]
            show decEnd (some (lk ++ [], rb)) = _
            rw [List.append_nil]; rfl)
          clear hkr hrb hO HC
          by_cases hrb0 : rb = []
          · subst hrb0
            have HCk := Lib.hid (fun (w' : World) (h : Chgs w' (fun j => w.heap.size ≤ j ∧ j < w'.heap.size) (.slice Al lk.length cl) lk) => check_c lk HBB.out.2 (by omega) _ h (fun j h => h.2))
            have HCs := Lib.hid ((HO.out.mono (ok' := fun j => w.heap.size ≤ j ∧ j < wr.heap.size) (fun j hj h => ⟨h, hj⟩)).chgs)
            by_cases hc0 : Sto.chk lk = 0
            · have HE := Lib.hid (show Sto.dec b = (lk, 0) by rw [HE1.out, if_neg (by rintro (h | h); exact h rfl; exact h hc0)])
              rw [hc0] at HCk
              go_wp2_with (go_at_call 18; refine Rets.use (HCk.out _ HCs.out) ?_; rintro _ w2 ⟨rfl, hk2⟩)
              go_ret2
              rw [HE.out]
              exact ⟨HKr.out.trans hk2 (fun _ _ h => h), _, rfl, HO.out.kept hk2 (fun _ _ h => h)⟩
            · have HE := Lib.hid (show Sto.dec b = ([], 4) by rw [HE1.out, if_pos (.inr hc0)])
              have hq : (Sto.chk lk != 0) = true := by simpa using hc0
              generalize Sto.chk lk = e at *
              go_wp2_with (go_at_call 18; refine Rets.use (HCk.out _ HCs.out) ?_; rintro _ w2 ⟨rfl, hk2⟩)
              go_ret2
              rw [HE.out]
              exact decIs_no _ _ (HKr.out.trans hk2 (fun _ _ h => h))
          · have HE := Lib.hid (show Sto.dec b = ([], 4) by rw [HE1.out, if_pos (.inl hrb0)])
            have hpos : 0 < rb.length := List.length_pos_iff.2 hrb0
            go_wp2
            go_ret2
            rw [HE.out]
            exact decIs_no _ _ HKr.out
  · have HE := Lib.hid (show Sto.dec b = ([], 4) by rw [HD.out, if_pos (.inl he)])
    have hq : (e != 0) = true := by simpa using he
    go_enter Try.func14, Try.ntmps14
    go_wp2_with (go_at_call 43; refine Rets.use HV.out ?_; rintro _ _ ⟨rfl, rfl⟩)
    go_ret2
    rw [HE.out]
    exact decIs_no _ _ (Keeps.refl _ _)
end Go.Proofs.Ytbiohidelhfaiaa
end

section
namespace Go.Proofs.Ytbiohidelhfaiaa
open Go.RowKit Go.Canon Go.Mem Go.Args
open Go.Disk (St)
open Go.Proofs.Ytbiohidelhfaiaa.Sto (Chg)
set_option linter.unusedVariables false
set_option linter.unusedSimpArgs false
namespace Sto
/-- The changes of texts, one text behind the other; how many they are. -/
def loadP : (Mp × Int) × Nat → List (List Int) → Int × (Mp × Int) × Nat
  | s, [] => (0, s)
  | s, t :: r => if (dec t).2 ≠ 0 then ((dec t).2, s) else loadP (doF s.1 (dec t).1, s.2 + (dec t).1.length) r
end Sto
def openS (s : St) (q : Int) : Int × Option StoS × St :=
  if q < 0 then (2, none, s)
  else match openP s with
    | (e, none, s') => (e, none, s')
    | (_, some L, s') => if (Sto.loadP (([], 0), 0) L.texts).1 ≠ 0 then ((Sto.loadP (([], 0), 0) L.texts).1, none, s')
      else (0, some ⟨L, q, (Sto.loadP (([], 0), 0) L.texts).2.1.1, (Sto.loadP (([], 0), 0) L.texts).2.1.2, (Sto.loadP (([], 0), 0) L.texts).2.2⟩, s')
theorem openP_err (s : St) : ((openP s).2.1 = none → (openP s).1 ≠ 0) ∧ ∀ L, (openP s).2.1 = some L → (openP s).1 = 0 := by
  unfold openP
  split
  · exact ⟨fun _ h => (by cases h), fun L h => by cases h⟩
  · cases scan (flatS s.now) s.now.length (s.now.length + 1) [] 0 with
    | none => exact ⟨fun _ h => (by cases h), fun L h => by cases h⟩
    | some q =>
      obtain ⟨ls, nx⟩ := q
      simp only
      split
      · exact ⟨fun h => (by cases h), fun L _ => rfl⟩
      · rename_i h
        exact ⟨fun _ => h, fun L h => by cases h⟩
/-- A disk in memory, apart. -/
def DL (W w : World) (g : Nat) (s : St) : Prop := Keeps (fun _ => False) W w ∧ ∃ P : Nat → Prop, DIs w P g s ∧ ∀ k, P k → W.heap.size ≤ k ∧ k < w.heap.size
theorem keyB {k : List Int} (h : Sto.keyF k = true) : IsB k := by
  unfold Sto.keyF at h
  simp only [Bool.and_eq_true, decide_eq_true_eq, List.all_eq_true] at h
  intro x hx
  have := h.1 x hx
  unfold Sto.keyC at this
  simp only [Bool.and_eq_true, decide_eq_true_eq] at this
  omega
theorem dec_chgB {b : List Int} (hB : IsB b) : ChgB (Sto.dec b).1 ∧ (Sto.dec b).1.length ≤ 16 ∧ ((Sto.dec b).2 = 0 ∨ (Sto.dec b).2 = 4) := by
  rcases Sto.dec_cases b hB with h | ⟨l, h, e, hc⟩
  · rw [h]; exact ⟨fun c hc => (by cases hc), by decide, .inr rfl⟩
  · rw [h]
    obtain ⟨h1, h2, h3⟩ := Sto.chk_good hc
    refine ⟨fun c hc => ?_, h3, .inl rfl⟩
    obtain ⟨h4, h5, h6⟩ := h1 c hc
    have hk := h5
    unfold Sto.keyF at hk
    simp only [Bool.and_eq_true, decide_eq_true_eq] at hk
    refine ⟨keyB h5, fun y hy => ?_, by omega, by omega⟩
    apply hB y
    rw [e]
    unfold Sto.encL
    refine List.mem_append_right _ (List.mem_flatMap.2 ⟨c, hc, ?_⟩)
    unfold Sto.enc1
    cases hd : c.del with
    | true => rw [h4.d hd] at hy; cases hy
    | false => simp [Sto.counted, hy]
section
variable {ops : Array Oper} {op : Oper} {rest : List Oper} {a : Act} {w : World} {Q : Exit → Act → World → Prop}
/-- map[..]..{}. -/
theorem step_makeMap (hgd : Region.wanted op (yielded ops a.tmps) = true) (ho : op.op = Op.makeMap 80 none)
    (h : ∀ w', MapIs w' w.heap.size (fun _ => False) 0 [] → Keeps (fun _ => False) w w' → w'.heap.size = w.heap.size + 1 → wpList Try.prog ops Q rest (a.put op.dst (.map (some w.heap.size))) w') : wpList Try.prog ops Q (op :: rest) a w := by
  refine plain_ hgd fun K hK => ?_
  unfold Oper.wp execOp
  simp only [ho, Option.map_none, Sem.run_bind, run_makeMap, Result.andThen_ok, Sem.run_pure]
  exact hK _ _ (h _ ⟨_, World.ownsMap_made w Try.prog 9 Rv, fun k _ => rfl⟩ ((Keeps.refl _ w).alloc _) (by simp))
end
def OpnPost (W : World) (g : Nat) (r : Int × Option StoS × St) : Value → World → Prop := fun v w' => match r.2.1 with
  | none => v = .tuple #[.pointer none, .int .i64 r.1] ∧ DL W w' g r.2.2
  | some S => ∃ x, v = .tuple #[.pointer (some ⟨x, 0, none⟩), .int .i64 0] ∧ SL W w' g x r.2.2 S
set_option maxHeartbeats 12800000 in
set_option maxRecDepth 100000 in
theorem open_c {W w : World} {g : Nat} {s : St} (h : DL W w g s) (q : Int) (few : s.opn.length ≤ 900000) (hB : IsB (flatS s.now)) (hL : ∀ L, (openP s).2.1 = some L → L.texts.length ≤ 4096 ∧ ∀ t ∈ L.texts, IsB t ∧ t.length ≤ 1000000) : Calls Try.prog 24 #[.pointer (some ⟨g, 0, none⟩), .int .i64 q] w (Rets (OpnPost W g (openS s q))) := by
  have HD := Lib.hid h
  obtain ⟨h0, P, hd, hP⟩ := h
  have hz0 := h0.size
  have HW := Lib.hid h0
  have HP := Lib.hid hP
  have HO := Lib.hid (wopen_c hd few hB)
  have HL := Lib.hid hL
  clear h0 hd hP hL hB
  by_cases hq : q < 0
  · have HE := Lib.hid (show openS s q = (2, none, s) by unfold openS; rw [if_pos hq])
    go_enter Try.func24, Try.ntmps24
    go_wp2
    go_ret2
    rw [HE.out]
    exact ⟨rfl, HD.out⟩
  · have HE0 := Lib.hid (show openS s q = match openP s with
      | (e, none, s') => (e, none, s')
      | (_, some L, s') => if (Sto.loadP (([], 0), 0) L.texts).1 ≠ 0 then ((Sto.loadP (([], 0), 0) L.texts).1, none, s')
        else (0, some ⟨L, q, (Sto.loadP (([], 0), 0) L.texts).2.1.1, (Sto.loadP (([], 0), 0) L.texts).2.1.2, (Sto.loadP (([], 0), 0) L.texts).2.2⟩, s') by unfold openS; rw [if_neg hq])
    have HE4 := Lib.hid (openP_err s)
    generalize openP s = r at *
    obtain ⟨e, oL, s'⟩ := r
    cases oL with
    | none =>
      have HE := Lib.hid (show openS s q = (e, none, s') from HE0.out)
      have hqe : (e != 0) = true := by simpa using (HE4.out.1 rfl : e ≠ 0)
      go_enter Try.func24, Try.ntmps24
      go_wp2_with (go_at_call 50; refine Rets.use HO.out ?_; rintro v2 w2 ⟨hk2, Q2, hQ2, hd2, hv2⟩; obtain ⟨_, rfl⟩ := hv2.resolve_right (fun ⟨_, _, h, _⟩ => by cases h))
      go_ret2
      rw [HE.out]
      have hz2 := hk2.size
      exact ⟨rfl, HW.out.trans hk2 (fun k hk h => by have := HP.out k h; omega), _, hd2.bound, fun k hk => ⟨hk.1.1.elim (fun h => (HP.out k h).1) (fun h => by omega), hk.2⟩⟩
    | some L =>
      obtain ⟨hL1, hL2⟩ := HL.out L rfl
      have HL2 := Lib.hid hL2
      have he0 : e = 0 := HE4.out.2 L rfl
      subst he0
      have HE1 := Lib.hid (show openS s q = if (Sto.loadP (([], 0), 0) L.texts).1 ≠ 0 then ((Sto.loadP (([], 0), 0) L.texts).1, none, s')
        else (0, some ⟨L, q, (Sto.loadP (([], 0), 0) L.texts).2.1.1, (Sto.loadP (([], 0), 0) L.texts).2.1.2, (Sto.loadP (([], 0), 0) L.texts).2.2⟩, s') from HE0.out)
      clear hL2 HE0 HL
      go_enter Try.func24, Try.ntmps24
      go_wp2_with (first
        | (go_at_call 50; refine Rets.use HO.out ?_; rintro v2 w2 ⟨hk2, Q2, hQ2, hd2, hv2⟩; obtain ⟨L2, y, e2, rfl, hm2⟩ := hv2.resolve_left (fun h => by cases h.1); cases e2; have hz2 := hk2.size)
        | ((with_reducible refine at_ 25 rfl ?_); go_must (refine step_makeMap rfl rfl ?_); intro w3 hM3 hk3 hs3)
        | ((with_reducible refine at_ 27 rfl ?_); go_must (refine step_box rfl 82 _ rfl _ rfl (stoC (.pointer (some ⟨y, 0, none⟩)) q 0 w2.heap.size) rfl ?_); intro w4 hb4 hk4 hs4)
        | (go_at_call 51; go_loud (refine Rets.use (texts_c ((hm2.kept hk3 (fun _ _ h => h)).kept hk4 (fun _ _ h => h)) hL1 (fun t ht => (HL2.out t ht).2)) ?_); rintro v5 w5 ⟨hk5, vs, hO5, hr5⟩; obtain ⟨A5, c5, rfl, _⟩ := hO5.slice))
      have hkk : Keeps (fun _ => False) w2 w5 := (hk3.trans hk4 (fun _ _ h => h)).trans hk5 (fun _ _ h => h)
      have hz5 := hk5.size
      have HS5 := Lib.hid (show SIs w5 (w2.heap.size + 1) w2.heap.size (fun j => w5.heap.size ≤ j) (.pointer (some ⟨y, 0, none⟩)) q 0 ([], 0) from ⟨hs3 ▸ hk5.heap hb4 (fun h => h), ((hM3.kept hk4 (fun h => h) (fun _ h _ => h)).kept hk5 (fun h => h) (fun _ h _ => h)).mono (Nat.le_refl _) (fun _ _ h => h.elim), by omega, by omega, by omega⟩)
      have HM5 := Lib.hid (hm2.kept hkk (fun _ _ h => h))
      have HD5 := Lib.hid (hd2.bound.kept hkk (fun _ _ h => h))
      have HW5 := Lib.hid ((HW.out.trans hk2 (fun k hk h => by have := HP.out k h; omega)).trans hkk (fun _ _ h => h))
      have HR5 := Lib.hid hr5
      have HO5 := Lib.hid hO5
      have HQ2 := Lib.hid hQ2
      have hx5 : w2.heap.size + 2 ≤ w5.heap.size := by omega
      have hw2 : w.heap.size ≤ w2.heap.size := hz2
      have hw4 : w4.heap.size = w2.heap.size + 2 := by omega
      rw [hw4] at HR5 HO5
      generalize hbmx : w2.heap.size = bm at *
      clear hk2 hQ2 hd2 hv2 hm2 hM3 hk3 hs3 hb4 hk4 hs4 hk5 hO5 hr5 hkk
      go_loopw [31] (fun i wr => ∃ (k : Nat) (st : (Sto.Mp × Int) × Nat), k ≤ L.texts.length ∧ i = .int .i64 k ∧ Keeps (fun j => j = bm + 1 ∨ j = bm) w5 wr ∧ SIs wr (bm + 1) bm (fun j => w5.heap.size ≤ j ∧ j < wr.heap.size) (.pointer (some ⟨y, 0, none⟩)) q st.2 st.1 ∧ -(64000000 * (k : Int)) ≤ st.1.2 ∧ st.1.2 ≤ 64000000 * k ∧ st.2 ≤ 16 * k ∧ Hid (Sto.loadP (([], 0), 0) L.texts = Sto.loadP st (L.texts.drop k))) (fun i _ => L.texts.length - (intOf i).toNat)
      case atStart => exact ⟨0, (([], 0), 0), Nat.zero_le _, rfl, Keeps.refl _ _, ⟨HS5.out.blk, HS5.out.map.mono (Nat.le_refl _) (fun j hj h => ⟨h, hj⟩), fun h => by omega, fun h => by omega, by omega⟩, by simp, by simp, by simp, Lib.hid rfl⟩
      case round =>
        obtain ⟨k, st, hk, rfl, hkr, hSr, hu1, hu2, hn, HF⟩ := hrel
        have HKr := Lib.hid hkr
        have HSr := Lib.hid hSr
        have hwr := hkr.size
        by_cases hlt : k < L.texts.length
        · obtain ⟨u, hu, hru⟩ := HR5.out k _ (List.getElem?_eq_getElem hlt)
          obtain ⟨hBt, hlt2⟩ := HL2.out _ (List.getElem_mem hlt)
          obtain ⟨g5, cap5, cur5, e5, hg5, hb5, _⟩ := HO5.out.form (by omega)
          cases e5
          have cu := hkr.cell (HO5.out.cells rfl k u hu) (fun e => by rcases e with e | e <;> (simp only at e; omega))
          have hru2 := ((hru.mono (ok' := fun j => bm + 2 ≤ j ∧ j < wr.heap.size) (fun j h => ⟨h.1, by omega⟩)).kept hkr (fun j h e => by omega))
          have HDc := Lib.hid (decode_c u L.texts[k] hru2 hBt hlt2 (fun j h => h.2))
          obtain ⟨hCB, hC16, hCe⟩ := dec_chgB hBt
          have HN := Lib.hid (show Sto.loadP (([], 0), 0) L.texts = if (Sto.dec L.texts[k]).2 ≠ 0 then ((Sto.dec L.texts[k]).2, st) else Sto.loadP (Sto.doF st.1 (Sto.dec L.texts[k]).1, st.2 + (Sto.dec L.texts[k]).1.length) (L.texts.drop (k + 1)) by rw [HF.out, List.drop_eq_getElem_cons hlt, Sto.loadP])
          generalize Sto.dec L.texts[k] = d at *
          obtain ⟨l, e⟩ := d
          simp only at hCB hC16 hCe HN
          obtain ⟨Au, cu', rfl, _⟩ := hru.slice
          have HCB := Lib.hid hCB
          clear hu hru hru2 hBt hb5 hkr hSr HF hCB
          by_cases he : e = 0
          · subst he
            have HN2 := Lib.hid (HN.out.trans (if_neg (fun h => h rfl)))
            clear hCe HN
            go_wp2_with (first
              | (go_at_call 14; refine Rets.use HDc.out ?_; rintro v6 w6 ⟨hk6, u6, rfl, hO6⟩; have hz6 := hk6.size; have HO6 := Lib.hid (hO6.mono (ok' := fun j => wr.heap.size ≤ j ∧ j < w6.heap.size) (fun j hj h => ⟨h, hj⟩)))
              | (go_at_call 52; refine Rets.use (do_b (HSr.out.kept0 hk6) (fun j h => by omega) l HCB.out (by omega) (by omega) ⟨by omega, by omega⟩ _ HO6.out.chgs (fun j h => ⟨h.2, by omega, by omega⟩)) ?_; rintro _ w7 ⟨⟨rfl, hk7, hS7⟩, hu7, hu8⟩))
            have hz7 := hk7.size
            go_roundw
            case rel => exact ⟨k + 1, (Sto.doF st.1 l, st.2 + l.length), hlt, by go_num, (HKr.out.trans hk6 (fun _ _ h => h.elim)).trans hk7 (fun _ _ h => h), ⟨hS7.blk, hS7.map.mono (Nat.le_refl _) (fun j hj h => ⟨h.elim (fun h => h.1) (fun h => by omega), hj⟩), fun h => by omega, fun h => by omega, hS7.ne⟩, by simp only; omega, by simp only; omega, by simp only; omega, HN2⟩
            case measure => simp [intOf]; omega
          · have HN2 := Lib.hid (HN.out.trans (if_pos he))
            have hqe : (e != 0) = true := by simpa using he
            go_wp2_with (first
              | (go_at_call 14; refine Rets.use HDc.out ?_; rintro v6 w6 ⟨hk6, u6, rfl, hO6⟩; have hz6 := hk6.size))
            go_ret2
            have HE := Lib.hid (show openS s q = (e, none, s') by rw [HE1.out, HN2.out]; exact if_pos he)
            rw [HE.out]
            have hk56 := HKr.out.trans hk6 (fun _ _ h => h.elim)
            exact ⟨rfl, HW5.out.trans hk56 (fun j hj h => by omega), _, HD5.out.kept hk56 (fun j h e => by omega), fun j h => ⟨h.1.1.elim (fun h => (HP.out j h).1) (fun h => by omega), by omega⟩⟩
        · obtain rfl : k = L.texts.length := by omega
          have HE := Lib.hid (show openS s q = (0, some ⟨L, q, st.1.1, st.1.2, st.2⟩, s') by
            rw [HE1.out, HF.out, List.drop_length]
            simp [Sto.loadP])
          go_wp2
          go_ret2
          rw [HE.out]
          have hW' := HW5.out.trans HKr.out (fun j hj h => by omega)
          refine ⟨bm + 1, rfl, hW', y, bm, _, Q2, _, HD5.out.kept HKr.out (fun j h e => by omega), HM5.out.kept HKr.out (fun j h e => by have := HQ2.out j h; omega), HSr.out, ?_, ?_, fun j h => ⟨by omega, h.2⟩, by omega, by omega⟩
          · intro j h
            exact ⟨h.1.1.elim (fun h => (HP.out j h).1) (fun h => by omega), by omega, h.1.2, fun e => by omega, by omega, by omega⟩
          · intro j h
            have := HQ2.out j h
            exact ⟨by omega, by omega, fun e => by omega, by omega, by omega⟩
end Go.Proofs.Ytbiohidelhfaiaa
end

section
namespace Go.Proofs.Ytbiohidelhfaiaa
open Go.RowKit Go.Canon Go.Mem Go.Args
open Go.Disk (St)
set_option linter.unusedVariables false
set_option linter.unusedSimpArgs false
theorem write_quiet {s : St} (ho : s.off = false) (ha : s.armed = false) (i : Int) (b : List Int) (h1 : 0 ≤ i) (h2 : i < s.now.length) (hb : b.length ≤ 64) : s.write i b = (0, { s with now := s.now.set i.toNat (Disk.pad b), opn := s.opn ++ [(i, Disk.pad b)] }) := by
  unfold St.write St.step
  simp [ho, ha]
  omega
theorem sync_quiet {s : St} (ho : s.off = false) (ha : s.armed = false) : s.sync.1 = 0 := by
  unfold St.sync St.step
  simp [ho, ha]
theorem sec_mem {l : List Int} {j : Nat} {x : Int} (h : x ∈ secF l j) : x ∈ l := List.mem_of_mem_drop (List.mem_of_mem_take h)
theorem blank_zero {l : List Int} (h : ∀ x ∈ l, x = 0) : blankF l = true := by
  unfold blankF
  rw [List.all_eq_true]
  intro x hx
  simpa using h x hx
theorem wipe_zero {all : List Int} (h : ∀ x ∈ all, x = 0) (frm : Nat) : ∀ (m : Nat) (s : St), wipeGo all frm m false s = (0, false, s) := by
  intro m
  induction m with
  | zero => intro s; rfl
  | succ m ih => intro s; rw [wipeGo, if_pos (blank_zero (fun x hx => h x (sec_mem hx))), ih]
theorem zero_flat (n : Nat) : ∀ x ∈ flatS (fresh n).now, x = 0 := by
  intro x hx
  unfold flatS fresh at hx
  obtain ⟨z, hz, hx⟩ := List.mem_flatten.1 hx
  have h1 := List.eq_of_mem_replicate hz
  subst h1
  unfold Disk.zsec at hx
  exact List.eq_of_mem_replicate hx
theorem openP_fresh (n : Nat) : openP (fresh n) = (0, some ⟨[], 0, false⟩, fresh n) := by
  have hz := zero_flat n
  have hs : scan (flatS (fresh n).now) (fresh n).now.length ((fresh n).now.length + 1) [] 0 = some ([], 0) := by
    rw [scan, if_neg (fun h => by rw [blank_zero (fun x hx => hz x (sec_mem hx))] at h; cases h.2)]
  have hw : wipeP (fresh n) (flatS (fresh n).now) 0 = (0, fresh n) := by
    unfold wipeP
    rw [wipe_zero hz]
    rfl
  unfold openP
  rw [if_neg (by simp [fresh]), hs]
  simp only [hw]
  rfl
theorem openP_two : openP (fresh 2) = (0, some ⟨[], 0, false⟩, fresh 2) := openP_fresh 2
theorem lay_two (f : List Int) (h1 : 1 ≤ f.length) (h2 : f.length ≤ 64) : (layP (fresh 2) 0 f).1 = 0 := by
  have e : spanF f.length - 1 = 0 := by unfold spanF; omega
  unfold layP
  rw [e]
  have e2 : layGo f 0 0 1 (fresh 2) = (0, fresh 2) := rfl
  rw [e2, if_pos rfl]
  unfold layMid
  rw [if_neg (by omega)]
  unfold layEnd
  have hw := write_quiet (s := fresh 2) rfl rfl ((0 : Nat) : Int) (f.take 64) (by decide) (by simp [fresh]) (by rw [List.length_take]; omega)
  rw [hw, if_pos rfl]
  exact sync_quiet rfl rfl
theorem append_two : (appendP (fresh 2) ⟨[], 0, false⟩ [97]).1 = 0 ∧ (appendP (fresh 2) ⟨[], 0, false⟩ [97]).2.2 = ⟨[[97]], 1, false⟩ := by
  have hl := lay_two (putF ((([] : List (List Int)).length : Int) + 1) [97]) (by rw [putF_len]; decide) (by rw [putF_len]; decide)
  unfold appendP
  rw [if_neg (by simp), if_neg (by simp), if_neg (by simp [fresh, spanF]), if_pos hl]
  exact ⟨rfl, rfl⟩
theorem flat_fresh (n : Nat) : IsB (flatS (fresh n).now) := fun x hx => by rw [zero_flat n x hx]; decide
end Go.Proofs.Ytbiohidelhfaiaa
end

section
namespace Go.Proofs.Ytbiohidelhfaiaa
open Go.RowKit Go.Canon Go.Mem Go.Args
open Go.Disk (St)
open Go.Proofs.Ytbiohidelhfaiaa.Sto (Chg)
set_option linter.unusedVariables false
set_option linter.unusedSimpArgs false
def s0 : StoS := ⟨⟨[], 0, false⟩, 9, [], 0, 0⟩
theorem openS_two : openS (fresh 2) 9 = (0, some s0, fresh 2) := by
  unfold openS
  rw [if_neg (by decide), openP_two]
  rfl
def c0 : Chg := ⟨[97], false, [49]⟩
theorem chk_c0 : Sto.chk [c0] = 0 := by decide
theorem enc_c0 : Sto.encL [c0] = [1, 0, 1, 97, 1, 49] := by decide
theorem commit_two : (commitP (fresh 2) s0 [c0]).1 = 0 ∧ (commitP (fresh 2) s0 [c0]).2.2.u = 2 := by
  have h1 : ¬ (s0.q < Sto.thenGo s0.M s0.u [c0] ∧ s0.u < Sto.thenGo s0.M s0.u [c0]) := by decide
  have h2 : (appendP (fresh 2) s0.L (Sto.encL [c0])).1 = 0 := by
    rw [enc_c0]
    have hl := lay_two (putF ((([] : List (List Int)).length : Int) + 1) [1, 0, 1, 97, 1, 49]) (by rw [putF_len]; decide) (by rw [putF_len]; decide)
    unfold appendP
    rw [if_neg (by simp [s0]), if_neg (by simp), if_neg (by simp [fresh, spanF, s0])]
    rw [show s0.L.texts.length = ([] : List (List Int)).length from rfl, show s0.L.next = 0 from rfl, if_pos hl]
  unfold commitP
  rw [if_neg (fun h => h chk_c0), if_neg h1, if_neg (fun h => h h2)]
  exact ⟨rfl, by decide⟩
section
variable {w : World} {x bm n : Nat} {R : Nat → Prop} {lv : Value} {q : Int} {s : Sto.Mp × Int}
theorem used_c (h : SIs w x bm R lv q n s) : Calls Try.prog 35 #[.pointer (some ⟨x, 0, none⟩)] w (Rets (Only (.int .i64 s.2) w)) := by
  have c2 := h.c2
  clear h
  go_enter Try.func35, Try.ntmps35
  go_wp2
  go_ret
  exact ⟨rfl, rfl⟩
theorem used_nil (w : World) : Calls Try.prog 35 #[.pointer none] w (Rets (Only (.int .i64 0) w)) := by
  go_enter Try.func35, Try.ntmps35
  go_wp2
  go_ret
  exact ⟨rfl, rfl⟩
end
theorem c0B : ChgB [c0] := fun c hc => by
  rw [List.mem_singleton] at hc
  subst hc
  exact ⟨fun x hx => by rw [show c0.key = [97] from rfl, List.mem_singleton] at hx; subst hx; decide, fun x hx => by rw [show c0.val = [49] from rfl, List.mem_singleton] at hx; subst hx; decide, by decide, by decide⟩
theorem one_chg {w2 w3 : World} {b : Nat} {fr : Nat × Nat} (hb : w3.heap[b]? = some (.cells (chgC c0 (.slice (some ⟨w2.heap.size, 0, none⟩) 1 1)).toArray 41 (0, 0))) (hbb : b = w2.heap.size + 1) (h : w3.heap[w2.heap.size]? = some (.cells #[.int .u8 49] 5 fr)) : Chgs w3 (fun j => w2.heap.size ≤ j ∧ j < w3.heap.size) (.slice (some ⟨b, 0, none⟩) 1 1) [c0] := by
  have h1 := lt_of hb
  have h2 := lt_of h
  refine ⟨some ⟨b, 0, none⟩, 1, rfl, Nat.le_refl _, fun h => (by cases h), fun i d hi => ?_⟩
  obtain rfl : i = 0 := by have := (List.getElem?_eq_some_iff.1 hi).1; simp at this; omega
  simp only [List.getElem?_cons_zero, Option.some.injEq] at hi
  subst hi
  refine ⟨b, 0, rfl, ⟨by omega, h1⟩, .slice (some ⟨w2.heap.size, 0, none⟩) 1 1, (cell_of_row w3 b 0 _ _ _ hb).trans rfl, (cell_of_row w3 b 1 _ _ _ hb).trans rfl, (cell_of_row w3 b 2 _ _ _ hb).trans rfl, ?_⟩
  exact ⟨_, _, rfl, Nat.le_refl _, fun h => (by cases h), .inr ⟨_, _, rfl, ⟨Nat.le_refl _, h2⟩, fun j u hu => by rw [cell_of_row _ _ _ _ _ _ h, Nat.zero_add]; simpa [Disk.bytes8, c0] using hu⟩⟩
set_option maxHeartbeats 3200000 in
set_option maxRecDepth 100000 in
theorem lives11_c (w : World) : Calls Try.prog 20 #[] w (Rets (Yes w)) := by
  have HO := Lib.hid openS_two
  have HC := Lib.hid commit_two
  have HB := Lib.hid (flat_fresh 2)
  obtain ⟨r, hr⟩ : ∃ r, r = commitP (fresh 2) s0 [c0] := ⟨_, rfl⟩
  have HR := Lib.hid hr
  rw [← hr] at HC
  clear hr
  have HP2 := Lib.hid (show ∀ L, (openP (fresh 2)).2.1 = some L → L.texts.length ≤ 4096 ∧ ∀ t ∈ L.texts, IsB t ∧ t.length ≤ 1000000 from fun L h => by
    rw [openP_two] at h
    cases h
    exact ⟨by decide, fun t ht => by cases ht⟩)
  have kc := fun (w : World) (C : Array Value) (n c : Nat) => Lib.run_convert_bytes_const (P := Try.prog) w 23 5 C n c Try.underlying23 Try.underlying5
  go_enter Try.func20, Try.ntmps20
  go_wp2_with (first
    | (go_at_call 23; go_loud (refine Rets.use (dNew_c 2 (by decide) (by decide) _) ?_); rintro v1 w1 ⟨hk1, g, rfl, hd1⟩)
    | (go_at_call 24; go_loud (refine Rets.use (open_c (W := w) (w := w1) (g := g) (s := fresh 2) ⟨hk1, _, hd1, fun k h => h⟩ 9 (by decide) HB.out HP2.out) ?_); intro v2 w2 hp2; rw [HO.out] at hp2; obtain ⟨x, rfl, hS2⟩ := hp2)
    | ((with_reducible refine at_ 21 rfl ?_); go_must (refine step_lit rfl 22 _ 1 rfl [.agg (chgC c0 (.slice (some ⟨w2.heap.size, 0, none⟩) 1 1)).toArray] rfl rfl (by decide) 41 _ 3 Try.underlying22 row2_chg (by decide) (by decide) (by intro v hv; rw [List.mem_singleton] at hv; subst hv; exact chgC_cells _ _ rfl) ?_); intro w3 hb3 hk3 hs3; go_loud (rw [chgC_flat _ _ rfl, show (w2.alloc (.cells #[.int .u8 49] 5 (1, 2))).heap.size = w2.heap.size + 1 by simp] at hb3); have hk23 : Keeps (fun _ => False) w2 w3 := ((Keeps.refl _ w2).alloc _).trans hk3 (fun _ _ h => h); go_loud (have hc3 := (one_chg hb3 rfl (hk3.heap (heap_alloc_new w2 _) (fun h => h)) : Chgs w3 (fun j => w2.heap.size ≤ j ∧ j < w3.heap.size) _ [c0])))
    | (go_at_call 26; go_loud (refine Rets.use (commit_c hS2 hk23 (by decide) (by decide) (by decide) (by decide) ⟨by decide, by decide⟩ [c0] c0B (by decide) _ hc3 (fun k h => ⟨.inr h.1, h.2⟩)) ?_); rintro v4 w4 hp4; rw [← HR.out] at hp4; obtain ⟨rfl, hS4, hk4⟩ := hp4; rw [HC.out.1])
    | (go_at_call 35; go_loud (refine Rets.use (used_c hS4.2.choose_spec.choose_spec.choose_spec.choose_spec.choose_spec.s) ?_); rintro _ _ ⟨rfl, rfl⟩; simp only [HC.out.2]))
  go_ret
  exact ⟨rfl, hS4.1⟩
end Go.Proofs.Ytbiohidelhfaiaa
end

section
namespace Go.Proofs.Ytbiohidelhfaiaa
open Go.Disk (St)
set_option linter.unusedVariables false
set_option linter.unusedSimpArgs false
theorem pow4 : (256 : Int) ^ 4 = 4294967296 := by decide
theorem pow8 : (256 : Int) ^ 8 = 18446744073709551616 := by decide
/-- What is written is read. -/
theorem readF_put {seq : Int} {b : List Int} (hs : 1 ≤ seq) (hs2 : seq < 18446744073709551616) (hb : b.length ≤ 16384) (tail : List Int) : readF (putF seq b ++ tail) = (seq, b, (b.length : Int) + 20, 0) := by
  have hh : (headF (b.length : Int) seq).length = 12 := headF_len _ _
  have e0 : putF seq b ++ tail = headF b.length seq ++ (lowB (sumF (headF b.length seq)) ++ (b ++ (lowB (sumF b) ++ tail))) := by simp [putF, List.append_assoc]
  have t12 : (putF seq b ++ tail).take 12 = headF b.length seq := by rw [e0, List.take_append_of_le_length (by omega), List.take_of_length_le (by omega)]
  have d12 : (putF seq b ++ tail).drop 12 = lowB (sumF (headF b.length seq)) ++ (b ++ (lowB (sumF b) ++ tail)) := by rw [e0, List.drop_append_of_le_length (by omega), List.drop_of_length_le (by omega), List.nil_append]
  have d16 : (putF seq b ++ tail).drop 16 = b ++ (lowB (sumF b) ++ tail) := by
    rw [show (16 : Nat) = 12 + 4 from rfl, ← List.drop_drop, d12, List.drop_append_of_le_length (by simp [lowB]), List.drop_of_length_le (by simp [lowB]), List.nil_append]
  have h12 : standsF (putF seq b ++ tail) 12 (sumF ((putF seq b ++ tail).take 12)) = true := by
    unfold standsF
    rw [t12, d12]
    simp [lowB]
  have t4 : (putF seq b ++ tail).take 4 = wput 4 (b.length : Int) := by
    rw [e0, headF, List.append_assoc, List.take_append_of_le_length (by rw [wput_len]; decide), List.take_of_length_le (by rw [wput_len]; decide)]
  have t8 : ((putF seq b ++ tail).drop 4).take 8 = wput 8 seq := by
    rw [e0, headF, List.append_assoc, List.drop_append_of_le_length (by rw [wput_len]; decide), List.drop_of_length_le (by rw [wput_len]; decide), List.nil_append, List.take_append_of_le_length (by rw [wput_len]; decide), List.take_of_length_le (by rw [wput_len]; decide)]
  have w4 : wget (wput 4 (b.length : Int)) = b.length := wget_put 4 _ (by omega) (by rw [pow4]; omega)
  have w8 : wget (wput 8 seq) = seq := wget_put 8 _ (by omega) (by rw [pow8]; omega)
  have tb : ((putF seq b ++ tail).drop 16).take b.length = b := by rw [d16, List.take_append_of_le_length (Nat.le_refl _), List.take_length]
  have db : (putF seq b ++ tail).drop (16 + b.length) = lowB (sumF b) ++ tail := by
    rw [← List.drop_drop, d16, List.drop_append_of_le_length (Nat.le_refl _), List.drop_length, List.nil_append]
  have hlen : (putF seq b ++ tail).length = b.length + 20 + tail.length := by rw [List.length_append, putF_len]
  unfold readF
  rw [if_neg (by rw [hlen]; omega), if_neg (by rw [h12]; simp), t8, w8, if_neg (by omega), t4, w4, if_neg (by omega), if_neg (by rw [hlen]; omega), Int.toNat_natCast, tb, if_neg]
  unfold standsF
  rw [db]
  simp [lowB]
/-- A frame's sectors. -/
def secs (f : List Int) : List (List Int) := (List.range (spanF f.length)).map fun i => Disk.pad (secF f i)
theorem secs_len (f : List Int) : (secs f).length = spanF f.length := by simp [secs]
theorem pad_len {b : List Int} (h : b.length ≤ 64) : (Disk.pad b).length = 64 := pad_64 h
theorem secs_64 (f : List Int) : ∀ x ∈ secs f, x.length = 64 := by
  intro x hx
  obtain ⟨i, _, rfl⟩ := List.mem_map.1 hx
  exact pad_64 (by unfold secF; rw [List.length_take]; omega)
theorem pad_full {b : List Int} (h : b.length = 64) : Disk.pad b = b := by
  unfold Disk.pad
  rw [h, List.drop_of_length_le (by rw [Disk.zsec_len]; exact Nat.le_refl _), List.append_nil]
theorem zsec_rep : Disk.zsec = List.replicate 64 0 := by unfold Disk.zsec; rfl
theorem secs_flat : ∀ (n : Nat) (f : List Int), f.length ≤ n → ∃ z, flatS (secs f) = f ++ List.replicate z 0 := by
  intro n
  induction n with
  | zero =>
    intro f h
    have : f = [] := List.eq_nil_of_length_eq_zero (by omega)
    subst this
    exact ⟨0, rfl⟩
  | succ n ih =>
    intro f h
    by_cases h0 : f.length = 0
    · have : f = [] := List.eq_nil_of_length_eq_zero h0
      subst this
      exact ⟨0, rfl⟩
    · by_cases h64 : f.length ≤ 64
      · have hs : spanF f.length = 1 := by unfold spanF; omega
        refine ⟨64 - f.length, ?_⟩
        unfold secs
        rw [hs]
        show flatS [Disk.pad (secF f 0)] = _
        have : secF f 0 = f := by unfold secF; rw [Nat.mul_zero, List.drop_zero, List.take_of_length_le (by omega)]
        rw [this]
        unfold flatS Disk.pad
        rw [zsec_rep, List.drop_replicate]
        simp
      · obtain ⟨z, hz⟩ := ih (f.drop 64) (by rw [List.length_drop]; omega)
        refine ⟨z, ?_⟩
        have hs : spanF f.length = spanF (f.drop 64).length + 1 := by rw [List.length_drop]; unfold spanF; omega
        have e : secs f = f.take 64 :: secs (f.drop 64) := by
          unfold secs
          rw [hs, List.range_succ_eq_map, List.map_cons, List.map_map]
          congr 1
          · have : secF f 0 = f.take 64 := by unfold secF; simp
            rw [this, pad_full (by rw [List.length_take]; omega)]
          · apply List.map_congr_left
            intro i _
            show Disk.pad (secF f (i + 1)) = Disk.pad (secF (f.drop 64) i)
            unfold secF
            rw [List.drop_drop]
            congr 3
            omega
        rw [e]
        show f.take 64 ++ flatS (secs (f.drop 64)) = _
        rw [hz, ← List.append_assoc, List.take_append_drop]
/-- Texts' sectors, numbered from i. -/
def laid : Nat → List (List Int) → List (List Int)
  | _, [] => []
  | i, t :: r => secs (putF (i : Int) t) ++ laid (i + 1) r
theorem laid_snoc (t : List Int) : ∀ (ts : List (List Int)) (i : Nat), laid i (ts ++ [t]) = laid i ts ++ secs (putF ((i + ts.length : Nat) : Int) t) := by
  intro ts
  induction ts with
  | nil => intro i; simp [laid]
  | cons x r ih =>
    intro i
    rw [List.cons_append, laid, ih, laid, List.append_assoc, List.length_cons, show i + (r.length + 1) = i + 1 + r.length by omega]
theorem laid_64 : ∀ (ts : List (List Int)) (i : Nat), ∀ x ∈ laid i ts, x.length = 64 := by
  intro ts
  induction ts with
  | nil => intro i x hx; cases hx
  | cons t r ih =>
    intro i x hx
    rcases List.mem_append.1 hx with hx | hx
    · exact secs_64 _ x hx
    · exact ih _ x hx
theorem flatS_app (a b : List (List Int)) : flatS (a ++ b) = flatS a ++ flatS b := by simp [flatS]
theorem flat_drop {now : List (List Int)} (h : ∀ x ∈ now, x.length = 64) (k : Nat) : (flatS now).drop (64 * k) = flatS (now.drop k) := by
  induction now generalizing k with
  | nil => simp [flatS]
  | cons x r ih =>
    cases k with
    | zero => rfl
    | succ k =>
      have hx := h x (List.mem_cons_self ..)
      show (x ++ flatS r).drop (64 * (k + 1)) = flatS (r.drop k)
      rw [← ih (fun y hy => h y (List.mem_cons_of_mem _ hy)), List.drop_append]
      rw [List.drop_of_length_le (by omega), List.nil_append]
      congr 1
      omega
/-- A frame does not begin with noughts alone. -/
theorem put_blank {seq : Int} {b : List Int} (hs : 1 ≤ seq) (hs2 : seq < 18446744073709551616) (tail : List Int) (h : blankF ((putF seq b ++ tail).take 64) = true) : False := by
  have w8 : wget (wput 8 seq) = seq := wget_put 8 _ (by omega) (by rw [pow8]; omega)
  have hz : ∀ x ∈ wput 8 seq, x = 0 := by
    intro x hx
    unfold blankF at h
    rw [List.all_eq_true] at h
    have hm : x ∈ (putF seq b ++ tail).take 64 := by
      have e0 : putF seq b ++ tail = headF b.length seq ++ (lowB (sumF (headF b.length seq)) ++ (b ++ (lowB (sumF b) ++ tail))) := by simp [putF, List.append_assoc]
      rw [e0, List.take_append, List.take_of_length_le (by rw [headF_len]; decide)]
      exact List.mem_append_left _ (List.mem_append_right _ hx)
    simpa using h x hm
  have h0 : ∀ (l : List Int) (c : Int), c = 0 → (∀ x ∈ l, x = 0) → l.foldl (fun x c => x * 256 + c) c = 0 := by
    intro l
    induction l with
    | nil => intro c hc _; exact hc
    | cons x r ih => intro c hc hl; exact ih _ (by show c * 256 + x = 0; rw [hc, hl x (List.mem_cons_self ..)]; rfl) (fun y hy => hl y (List.mem_cons_of_mem _ hy))
  have : wget (wput 8 seq) = 0 := h0 _ 0 rfl hz
  omega
end Go.Proofs.Ytbiohidelhfaiaa
end

section
namespace Go.Proofs.Ytbiohidelhfaiaa
open Go.Disk (St)
set_option linter.unusedVariables false
set_option linter.unusedSimpArgs false
theorem sec_flat {now : List (List Int)} (h : ∀ x ∈ now, x.length = 64) {j : Nat} {x : List Int} (hx : now[j]? = some x) : secF (flatS now) j = x := by
  unfold secF
  rw [flat_drop h]
  obtain ⟨hj, rfl⟩ := List.getElem?_eq_some_iff.1 hx
  rw [List.drop_eq_getElem_cons hj]
  show (now[j] ++ flatS (now.drop (j + 1))).take 64 = now[j]
  rw [List.take_append_of_le_length (by rw [h _ (List.getElem_mem _)]; exact Nat.le_refl _), List.take_of_length_le (by rw [h _ (List.getElem_mem _)]; exact Nat.le_refl _)]
theorem blank_zsec : blankF Disk.zsec = true := blank_zero (by intro x hx; unfold Disk.zsec at hx; exact List.eq_of_mem_replicate hx)
theorem scan_laid {all : List Int} {N : Nat} : ∀ (ts pre : List (List Int)) (ls : List (List Int)) (k f : Nat), all = flatS (pre ++ (laid (ls.length + 1) ts ++ List.replicate k Disk.zsec)) → N = (pre ++ (laid (ls.length + 1) ts ++ List.replicate k Disk.zsec)).length → (∀ x ∈ pre, x.length = 64) → ts.length < f → (∀ t ∈ ts, t.length ≤ 16384) → ls.length + ts.length < 1000000 → scan all N f ls pre.length = some (ls ++ ts, pre.length + (laid (ls.length + 1) ts).length) := by
  intro ts
  induction ts with
  | nil =>
    intro pre ls k f ha hN h64 hf _ _
    obtain ⟨f', rfl⟩ : ∃ f', f = f' + 1 := ⟨f - 1, by simp at hf; omega⟩
    have hall : ∀ x ∈ pre ++ (laid (ls.length + 1) [] ++ List.replicate k Disk.zsec), x.length = 64 := by
      intro x hx
      rcases List.mem_append.1 hx with hx | hx
      · exact h64 x hx
      · rcases List.mem_append.1 hx with hx | hx
        · exact laid_64 _ _ x hx
        · rw [List.eq_of_mem_replicate hx]; exact Disk.zsec_len
    rw [scan, if_neg]
    · simp [laid]
    · rintro ⟨h1, h2⟩
      have hx : (pre ++ (laid (ls.length + 1) [] ++ List.replicate k Disk.zsec))[pre.length]? = some Disk.zsec := by
        rw [List.getElem?_append_right (Nat.le_refl _), Nat.sub_self]
        simp only [laid, List.nil_append]
        rw [hN] at h1
        simp [laid] at h1
        rw [List.getElem?_replicate, if_pos h1]
      rw [ha, sec_flat hall hx, blank_zsec] at h2
      cases h2
  | cons t r ih =>
    intro pre ls k f ha hN h64 hf hts hcnt
    obtain ⟨f', rfl⟩ : ∃ f', f = f' + 1 := ⟨f - 1, by simp at hf; omega⟩
    have ht := hts t (List.mem_cons_self ..)
    simp only [List.length_cons] at hf hcnt
    have h1 : (1 : Int) ≤ ((ls.length + 1 : Nat) : Int) := by omega
    have h2 : ((ls.length + 1 : Nat) : Int) < 18446744073709551616 := by omega
    obtain ⟨z, hz⟩ := secs_flat _ (putF ((ls.length + 1 : Nat) : Int) t) (Nat.le_refl _)
    have hspan : (secs (putF ((ls.length + 1 : Nat) : Int) t)).length = spanF (t.length + 20) := by rw [secs_len, putF_len]
    have hs1 : 1 ≤ spanF (t.length + 20) := by unfold spanF; omega
    have hall : ∀ x ∈ pre ++ (laid (ls.length + 1) (t :: r) ++ List.replicate k Disk.zsec), x.length = 64 := by
      intro x hx
      rcases List.mem_append.1 hx with hx | hx
      · exact h64 x hx
      · rcases List.mem_append.1 hx with hx | hx
        · exact laid_64 _ _ x hx
        · rw [List.eq_of_mem_replicate hx]; exact Disk.zsec_len
    have hdrop : all.drop (64 * pre.length) = putF ((ls.length + 1 : Nat) : Int) t ++ (List.replicate z 0 ++ flatS (laid (ls.length + 1 + 1) r ++ List.replicate k Disk.zsec)) := by
      rw [ha, flat_drop hall, List.drop_append_of_le_length (Nat.le_refl _), List.drop_length, List.nil_append, laid, List.append_assoc, flatS_app, hz, List.append_assoc]
    have hnN : pre.length < N := by
      rw [hN, List.length_append, List.length_append, laid, List.length_append, hspan]; omega
    have hbl : blankF (secF all pre.length) = false := by
      cases hb : blankF (secF all pre.length) with
      | false => rfl
      | true =>
        exfalso
        unfold secF at hb
        rw [hdrop] at hb
        exact put_blank h1 h2 _ hb
    rw [scan, if_pos ⟨hnN, hbl⟩, hdrop, readF_put h1 h2 ht]
    simp only
    rw [if_pos ⟨by trivial, by omega⟩]
    have e : ((t.length : Int) + 20).toNat = t.length + 20 := by omega
    rw [e]
    have key := ih (pre ++ secs (putF ((ls.length + 1 : Nat) : Int) t)) (ls ++ [t]) k f'
    rw [show (ls ++ [t]).length = ls.length + 1 by simp] at key
    have hpl : (pre ++ secs (putF ((ls.length + 1 : Nat) : Int) t)).length = pre.length + spanF (t.length + 20) := by rw [List.length_append, hspan]
    rw [← hpl, key]
    · rw [List.append_assoc, laid, List.length_append, List.length_append, Nat.add_assoc]
      rfl
    · rw [ha, laid, List.append_assoc, List.append_assoc]
    · rw [hN, laid, List.append_assoc, List.append_assoc]
    · intro x hx
      rcases List.mem_append.1 hx with hx | hx
      · exact h64 x hx
      · exact secs_64 _ x hx
    · omega
    · exact fun y hy => hts y (List.mem_cons_of_mem _ hy)
    · omega
theorem laid_count : ∀ (ts : List (List Int)) (i : Nat), ts.length ≤ (laid i ts).length := by
  intro ts
  induction ts with
  | nil => intro i; exact Nat.le_refl _
  | cons t r ih =>
    intro i
    have := ih (i + 1)
    rw [laid, List.length_append, secs_len, putF_len, List.length_cons]
    have : 1 ≤ spanF (t.length + 20) := by unfold spanF; omega
    omega
/-- A log as it lies on a disk. -/
structure WInv (s : St) (L : LogS) : Prop where
  off : s.off = false
  dead : L.dead = false
  now : ∃ k, s.now = laid 1 L.texts ++ List.replicate k Disk.zsec
  next : L.next = (laid 1 L.texts).length
  small : ∀ t ∈ L.texts, t.length ≤ 16384
  most : s.now.length ≤ 4096
theorem WInv.n64 {s : St} {L : LogS} (h : WInv s L) : ∀ x ∈ s.now, x.length = 64 := by
  obtain ⟨k, hk⟩ := h.now
  intro x hx
  rw [hk] at hx
  rcases List.mem_append.1 hx with hx | hx
  · exact laid_64 _ _ x hx
  · rw [List.eq_of_mem_replicate hx]; exact Disk.zsec_len
theorem WInv.nexts {s : St} {L : LogS} (h : WInv s L) : L.next ≤ s.now.length ∧ L.texts.length ≤ L.next := by
  obtain ⟨k, hk⟩ := h.now
  rw [h.next, hk, List.length_append]
  exact ⟨by omega, laid_count _ _⟩
theorem wipe_rest {all : List Int} {frm : Nat} : ∀ (m : Nat) (s : St), (∀ j, frm ≤ j → j < frm + m → blankF (secF all j) = true) → wipeGo all frm m false s = (0, false, s) := by
  intro m
  induction m with
  | zero => intro s _; rfl
  | succ m ih => intro s h; rw [wipeGo, if_pos (h _ (by omega) (by omega)), ih _ (fun j h1 h2 => h j h1 (by omega))]
/-- Open finds it. -/
theorem WInv.opens {s : St} {L : LogS} (h : WInv s L) : openP s = (0, some ⟨L.texts, L.next, false⟩, s) := by
  obtain ⟨k, hk⟩ := h.now
  have hc := h.nexts
  have hm := h.most
  have hs : scan (flatS s.now) s.now.length (s.now.length + 1) [] 0 = some (L.texts, L.next) := by
    have := scan_laid (all := flatS s.now) (N := s.now.length) L.texts [] [] k (s.now.length + 1) (by rw [hk]; rfl) (by rw [hk]; rfl) (fun x hx => by cases hx) (by omega) h.small (by simp; omega)
    simp only [List.length_nil, List.nil_append, Nat.zero_add] at this
    rw [this, h.next]
  have hw : wipeP s (flatS s.now) L.next = (0, s) := by
    unfold wipeP
    rw [wipe_rest]
    · rfl
    · intro j h1 h2
      have hj : s.now[j]? = some Disk.zsec := by
        rw [hk, List.getElem?_append_right (by rw [← h.next]; exact h1), List.getElem?_replicate, if_pos]
        have : s.now.length = (laid 1 L.texts).length + k := by rw [hk]; simp
        rw [← h.next] at this ⊢
        omega
      rw [sec_flat h.n64 hj]
      exact blank_zsec
  unfold openP
  rw [if_neg (by rw [h.off]; simp), hs]
  simp only [hw]
  rfl
end Go.Proofs.Ytbiohidelhfaiaa
end

section
namespace Go.Proofs.Ytbiohidelhfaiaa
open Go.Disk (St)
set_option linter.unusedVariables false
set_option linter.unusedSimpArgs false
/-- The power is on and stays so. -/
def Quiet (s : St) : Prop := s.off = false ∧ s.armed = false
theorem sync_on {s : St} (h : Quiet s) : s.sync.1 = 0 ∧ Quiet s.sync.2 ∧ s.sync.2.now = s.now ∧ s.sync.2.opn = [] := by
  unfold St.sync St.step
  simp [h.1, h.2, Quiet]
theorem write_on10 {s : St} (h : Quiet s) (i : Nat) (b : List Int) (hi : i < s.now.length) (hb : b.length ≤ 64) : (s.write i b).1 = 0 ∧ Quiet (s.write i b).2 ∧ (s.write i b).2.now = s.now.set i (Disk.pad b) ∧ (s.write i b).2.opn.length = s.opn.length + 1 := by
  rw [write_quiet h.1 h.2 (i : Int) b (by omega) (by omega) hb]
  exact ⟨rfl, h, by simp, by simp⟩
theorem layGo_on (f : List Int) (next : Nat) : ∀ (n i : Nat) (s : St), Quiet s → next + i + n ≤ s.now.length → (layGo f next n i s).1 = 0 ∧ Quiet (layGo f next n i s).2 ∧ (layGo f next n i s).2.now.length = s.now.length ∧ (∀ j, (layGo f next n i s).2.now[j]? = if next + i ≤ j ∧ j < next + i + n then some (Disk.pad (secF f (j - next))) else s.now[j]?) ∧ (layGo f next n i s).2.opn.length = s.opn.length + n := by
  intro n
  induction n with
  | zero => intro i s h _; exact ⟨rfl, h, rfl, fun j => by rw [if_neg (by omega)]; rfl, rfl⟩
  | succ n ih =>
    intro i s h hn
    have hsl : (secF f i).length ≤ 64 := by unfold secF; rw [List.length_take]; omega
    obtain ⟨w1, w2, w3, w4⟩ := write_on10 h (next + i) (secF f i) (by omega) hsl
    rw [layGo, if_pos w1]
    obtain ⟨g1, g2, g3, g4, g5⟩ := ih (i + 1) _ w2 (by rw [w3, List.length_set]; omega)
    refine ⟨g1, g2, by rw [g3, w3, List.length_set], fun j => ?_, by rw [g5, w4]; omega⟩
    rw [g4 j, w3]
    by_cases h1 : next + (i + 1) ≤ j ∧ j < next + (i + 1) + n
    · rw [if_pos h1, if_pos (by omega)]
    · rw [if_neg h1]
      by_cases h2 : j = next + i
      · subst h2
        rw [if_pos (by omega), List.getElem?_set_self (by omega)]
        congr 3
        omega
      · rw [if_neg (by omega), List.getElem?_set_ne (by omega)]
theorem layP_on {s : St} (h : Quiet s) (next : Nat) (f : List Int) (f1 : 1 ≤ f.length) (hn : next + spanF f.length ≤ s.now.length) : (layP s next f).1 = 0 ∧ Quiet (layP s next f).2 ∧ (layP s next f).2.now.length = s.now.length ∧ (∀ j, (layP s next f).2.now[j]? = if next ≤ j ∧ j < next + spanF f.length then some (Disk.pad (secF f (j - next))) else s.now[j]?) ∧ (layP s next f).2.opn = [] := by
  have hs1 : 1 ≤ spanF f.length := by unfold spanF; omega
  obtain ⟨g1, g2, g3, g4, g5⟩ := layGo_on f next (spanF f.length - 1) 1 s h (by omega)
  unfold layP
  rw [if_pos g1]
  generalize (layGo f next (spanF f.length - 1) 1 s).2 = s1 at *
  have hend : ∀ s2 : St, Quiet s2 → s2.now = s1.now → (layEnd s2 next f).1 = 0 ∧ Quiet (layEnd s2 next f).2 ∧ (layEnd s2 next f).2.now.length = s.now.length ∧ (∀ j, (layEnd s2 next f).2.now[j]? = if next ≤ j ∧ j < next + spanF f.length then some (Disk.pad (secF f (j - next))) else s.now[j]?) ∧ (layEnd s2 next f).2.opn = [] := by
    intro s2 q2 e2
    obtain ⟨w1, w2, w3, w4⟩ := write_on10 q2 next (f.take 64) (by rw [e2, g3]; omega) (by rw [List.length_take]; omega)
    unfold layEnd
    rw [if_pos w1]
    obtain ⟨y1, y2, y3, y4⟩ := sync_on w2
    refine ⟨y1, y2, by rw [y3, w3, List.length_set, e2, g3], fun j => ?_, y4⟩
    rw [y3, w3, e2]
    by_cases hj : j = next
    · subst hj
      rw [List.getElem?_set_self (by rw [g3]; omega), if_pos (by omega), Nat.sub_self]
      unfold secF
      simp
    · rw [List.getElem?_set_ne (by omega), g4 j]
      by_cases h1 : next + 1 ≤ j ∧ j < next + 1 + (spanF f.length - 1)
      · rw [if_pos h1, if_pos (by omega)]
      · rw [if_neg h1, if_neg (by omega)]
  unfold layMid
  split
  · obtain ⟨y1, y2, y3, y4⟩ := sync_on g2
    rw [if_pos y1]
    exact hend _ y2 y3
  · exact hend _ g2 rfl
/-- How an Append ends. -/
theorem WInv.append {s : St} {L : LogS} (h : WInv s L) (hq : s.armed = false) (t : List Int) (ho : s.opn = []) :
    ((appendP s L t).1 = 0 ∧ (t.length : Int) ≤ roomP s.now.length L.next ∧ WInv (appendP s L t).2.1 (appendP s L t).2.2 ∧ (appendP s L t).2.1.armed = false ∧ (appendP s L t).2.1.opn = [] ∧ (appendP s L t).2.1.now.length = s.now.length ∧ (appendP s L t).2.2.texts = L.texts ++ [t] ∧ roomP s.now.length (appendP s L t).2.2.next ≤ roomP s.now.length L.next) ∨
    (((appendP s L t).1 = 5 ∨ (appendP s L t).1 = 11) ∧ ¬ (t.length : Int) ≤ roomP s.now.length L.next ∧ (appendP s L t).2 = (s, L)) := by
  have hN := h.nexts
  have hm := h.most
  unfold appendP
  rw [if_neg (by rw [h.dead]; simp)]
  by_cases hb : 16384 < t.length
  · rw [if_pos hb]
    refine .inr ⟨.inl rfl, ?_, rfl⟩
    unfold roomP
    split
    · omega
    · split <;> omega
  · rw [if_neg hb]
    by_cases hf : s.now.length < L.next + spanF (t.length + 20)
    · rw [if_pos hf]
      refine .inr ⟨.inr rfl, ?_, rfl⟩
      unfold spanF at hf
      unfold roomP
      split
      · omega
      · split <;> omega
    · rw [if_neg hf]
      have hfl : (putF ((L.texts.length : Int) + 1) t).length = t.length + 20 := putF_len _ _
      obtain ⟨g1, g2, g3, g4, g5⟩ := layP_on (s := s) ⟨h.off, hq⟩ L.next (putF ((L.texts.length : Int) + 1) t) (by omega) (by rw [hfl]; omega)
      rw [if_pos g1]
      refine .inl ⟨rfl, ?_, ⟨g2.1, rfl, ?_, ?_, ?_, ?_⟩, g2.2, g5, g3, rfl, ?_⟩
      · unfold spanF at hf
        unfold roomP
        split
        · omega
        · split <;> omega
      · obtain ⟨k, hk⟩ := h.now
        have hlen : s.now.length = L.next + k := by rw [hk, List.length_append, List.length_replicate, h.next]
        refine ⟨k - spanF (t.length + 20), ?_⟩
        have e1 : putF ((1 + L.texts.length : Nat) : Int) t = putF ((L.texts.length : Int) + 1) t := by congr 1; omega
        simp only
        rw [laid_snoc, e1]
        apply List.ext_getElem?
        intro j
        rw [g4 j, hfl]
        by_cases j1 : j < L.next
        · rw [if_neg (by omega), hk, List.getElem?_append_left (by rw [← h.next]; exact j1), List.append_assoc, List.getElem?_append_left (by rw [← h.next]; exact j1)]
        · rw [List.append_assoc, List.getElem?_append_right (by rw [← h.next]; omega), ← h.next]
          by_cases j2 : j < L.next + spanF (t.length + 20)
          · rw [if_pos (by omega), List.getElem?_append_left (by rw [secs_len, hfl]; omega)]
            unfold secs
            rw [List.getElem?_map, List.getElem?_range (by rw [hfl]; omega)]
            rfl
          · rw [if_neg (by omega), List.getElem?_append_right (by rw [secs_len, hfl]; omega), secs_len, hfl, List.getElem?_replicate, hk, List.getElem?_append_right (by rw [← h.next]; omega), ← h.next, List.getElem?_replicate]
            by_cases j3 : j < s.now.length
            · rw [if_pos (by omega), if_pos (by omega)]
            · rw [if_neg (by omega), if_neg (by omega)]
      · simp only
        rw [laid_snoc, List.length_append, secs_len, putF_len, h.next]
      · intro x hx
        rcases List.mem_append.1 hx with hx | hx
        · exact h.small x hx
        · rw [List.mem_singleton] at hx; subst hx; omega
      · rw [g3]; exact hm
      · simp only
        unfold roomP
        split <;> split <;> (try split) <;> (try split) <;> omega
end Go.Proofs.Ytbiohidelhfaiaa
end

section
namespace Go.Proofs.Ytbiohidelhfaiaa
open Go.RowKit Go.Canon Go.Mem Go.Maps Go.Sort Go.Shelf
set_option linter.unusedVariables false
set_option linter.unusedSimpArgs false
theorem keeps_grown {w w' : World} {row : Option Nat} (h : w.grownBy w' row) : Keeps (fun k => row = some k) w w' := ⟨h.os, h.tape, h.output, h.size, fun k hk hn => h.block k hk (fun e => hn e.symm)⟩
theorem keeps_grown0 {w w' : World} (h : w.grownBy w' none) : Keeps (fun _ => False) w w' := (keeps_grown h).mono (fun _ _ e => by cases e)
theorem ranges_kept {w w' : World} {k : TypeId} {R : Value → Option (DataW Value × List MemPlace)} {b r n : Nat} {D : DataW Value} {left : Lit → Bool} {cnt : Nat} {S : Nat → Prop} (h : w.ranges Try.prog k R b r n D left cnt) (hk : Keeps S w w') (hb : ¬ S b) (hr : ¬ S r) : w'.ranges Try.prog k R b r n D left cnt := by
  obtain ⟨es, clock, since, seen, c0, h1, F, hs, hD, h2, rest⟩ := h
  exact ⟨es, clock, since, seen, c0, hk.heap h1 hb, F, hs, hD, hk.heap h2 hr, rest⟩
theorem encStr_str (x : List UInt8) : encStr x = .string (str (bytesOf ⟨x.toArray⟩)) := by
  rw [← str_of]
theorem keyLit_bytes (x : List UInt8) : keyLit (bytesOf ⟨x.toArray⟩) = .string x := by
  unfold keyLit
  rw [← str_of]
/-- All have come, each once, in some order. -/
def AllOf (M : Sto.Mp) (ps : List (List Int × List Int × Value)) : Prop := (ps.map (·.1)).Nodup ∧ (∀ k, IsB k → (k ∈ ps.map (·.1) ↔ ∃ v, Sto.look M k = some v)) ∧ ∀ p ∈ ps, IsB p.1 ∧ Sto.look M p.1 = some p.2.1 ∧ p.1.length ≤ maxLen
set_option maxRecDepth 100000 in
set_option maxHeartbeats 4000000 in
theorem pairs1_in (n : Nat) (hn : 1 ≤ n) (l Bs x bm nn B0 : Nat) (R : Nat → Prop) (M : Sto.Mp) (W : World) (J : List (List Int × List Int × Value) → World → Prop)
    (hbs : W.cell? ⟨Bs, 0, none⟩ = some (.pointer (some ⟨x, 0, none⟩))) (hm3 : W.cell? ⟨x, 3, none⟩ = some (.map (some bm))) (hM : MapIs W bm R nn M) (hB0 : B0 ≤ W.heap.size) (hR : ∀ j, R j → j < B0) (hbm : bm < B0) (hN : nn ≤ 1000000000)
    (hJ : ∀ pre A B, J pre A → Keeps (· = W.heap.size) A B → J pre B) (h0 : ∀ A, Keeps (fun _ => False) W A → W.heap.size < A.heap.size → J [] A)
    (hY : ∀ pre key val v A C, J pre A → W.heap.size < A.heap.size → Keeps (fun _ => False) A C → OwnRow C (fun j => A.heap.size ≤ j) 5 1 v val.length (Disk.bytes8 val) → IsB key → val.length ≤ 1000000 → pre.length < nn → YieldAt Fence.wide (n - 1) Try.prog l #[.string (str key), v] C fun e W' => e = .returned (.bool true) ∧ J (pre ++ [(key, val, v)]) W' ∧ Keeps (fun j => B0 ≤ j ∧ j ≠ W.heap.size) C W') :
    CallsIn Fence.wide n Try.prog 76 #[.func (.yield l) #[] #[], .pointer (some ⟨Bs, 0, none⟩)] W fun e W' => (∃ v, e = .returned v) ∧ ∃ ps, (ps.length ≤ nn ∧ AllOf M ps) ∧ J ps W' ∧ Keeps (fun j => B0 ≤ j) W W' := by
  obtain ⟨D, hown, hin⟩ := id hM
  have hsz : Maps.size D ≤ nn := hown.size_le
  refine callsIn_of_wp Try.func76 rfl trivial ?_ rfl
  simp only [Try.ntmps76, List.size_toArray, List.length_cons, List.length_nil, Nat.reduceAdd, Nat.reduceSub, Array.replicate_succ, Array.replicate_zero, List.push_toArray, List.append_toArray, List.nil_append, List.cons_append]
  gi_wp2_with (first
    | (gi_at_range; refine wpListIn_range_own _ rfl _ 80 rfl 9 23 strLaw Try.underlying80 Rv bm nn D rfl hown ?_; intro w0 hrg0 hg0 hs0)
    | gi_in)
  have hk0 := keeps_grown0 hg0
  have HIn := Lib.hid hin
  have HR := Lib.hid hR
  clear hin
  go_frame
  gi_loopw [3, 4] (fun _ _ wr => ∃ (left : Lit → Bool) (cnt : Nat) (cs : List (List UInt8)) (ps : List (List Int × List Int × Value)), wr.ranges Try.prog 9 Rv bm W.heap.size nn D left cnt ∧ ps.length + cnt ≤ nn ∧ Collected D left cs ∧ ps.map (·.1) = cs.map (fun c => bytesOf ⟨c.toArray⟩) ∧ (∀ p ∈ ps, IsB p.1 ∧ Sto.look M p.1 = some p.2.1 ∧ p.1.length ≤ maxLen) ∧ J ps wr ∧ Keeps (fun j => B0 ≤ j) W wr)
    (fun _ _ wr => wr.rangeLeft bm W.heap.size)
  case atStart =>
    exact ⟨_, _, [], [], hrg0, by simp; omega, Collected.start D, rfl, by simp, h0 _ hk0 (by omega), hk0.mono (fun _ _ h => h.elim)⟩
  case round =>
    obtain ⟨left, cnt, cs, ps, hrg, hcs, hC, hcp, hV, hJs, hkr⟩ := hrel
    have hrlt := hrg.lt
    gi_wp2_with (first
      | (gi_at_next; refine wpListIn_next_ranges _ rfl _ rfl 9 strLaw Rv encStr (fun v : Value => v) (fun key kl hk => by obtain ⟨x, hx, _⟩ := Maps.keyOf_str Try.underlying9 hk; exact ⟨x, hx⟩) (fun v y hv => ⟨v, rfl⟩) bm W.heap.size nn _ _ _ rfl hrg ?_ ?_)
      | gi_in)
    · intro hc0 hl0
      gi_wp2
      go_end0
      refine ⟨⟨_, rfl⟩, ps, ⟨by omega, ?_, ?_, hV⟩, hJs, hkr⟩
      · rw [hcp]
        exact hC.1.map _ (fun a b hne e => hne (by
          have h1 := keyLit_bytes a
          rw [e, keyLit_bytes b] at h1
          exact (Lit.string.inj h1).symm))
      · intro k hkB
        have hkl : keyLit k = .string (str k).data.toList := rfl
        have hf : bytesOf ⟨(str k).data.toList.toArray⟩ = k := by
          refine str_inj (bytesOf_byte _) hkB ?_
          rw [← str_of]
        have h1 := HIn.out k hkB
        have hc := hC.2 (str k).data.toList
        rw [hl0] at hc
        rw [hkl] at h1
        rw [hcp]
        constructor
        · intro hmem
          obtain ⟨c, hcm, hce⟩ := List.mem_map.1 hmem
          have h2 : c = (str k).data.toList := by
            have h3 := keyLit_bytes c
            rw [hce] at h3
            exact (Lit.string.inj h3).symm
          rw [h2] at hcm
          have h4 := (hc.1 hcm).1
          cases hL : Sto.look M k with
          | none => rw [hL] at h1; rw [h1] at h4; cases h4
          | some v => exact ⟨v, rfl⟩
        · rintro ⟨v, hL⟩
          rw [hL] at h1
          exact List.mem_map.2 ⟨_, hc.2 ⟨h1.1, rfl⟩, hf⟩
    · intro x c kl yd yp w2 cnt2 hkey hlk hv hat hrg2 hlt hg2 hs2 hen
      obtain ⟨x', ex, rfl, hxl⟩ := Maps.keyOf_str Try.underlying9 hkey
      obtain rfl : x = x' := encStr_inj ex
      obtain ⟨key, hkd⟩ : ∃ key, key = bytesOf ⟨x.toArray⟩ := ⟨_, rfl⟩
      have hkl : keyLit key = .string x := by rw [hkd]; exact keyLit_bytes x
      have hke : encStr x = .string (str key) := by rw [hkd]; exact encStr_str x
      have hkB : IsB key := by rw [hkd]; exact bytesOf_byte _
      have hklen : key.length ≤ maxLen := by
        have h1 := str_size key
        have h2 : (str key).data.toList = x := by have := hkl; unfold keyLit at this; exact Lit.string.inj this
        have h3 : (str key).size = x.length := by rw [← h2]; show (str key).data.size = _; rw [Array.length_toList]
        omega
      have HKd := Lib.hid hkd
      clear hkd
      have hhas := has_true_of_atKey hat
      have h1 := HIn.out key hkB
      rw [hkl, hhas] at h1
      cases hL : Sto.look M key with
      | none => rw [hL] at h1; cases h1
      | some val =>
        rw [hL] at h1
        obtain ⟨_, u, hu, hO, hvl⟩ := h1
        have hyd : yd = .held c := by simp only [Rv, Option.some.injEq, Prod.mk.injEq] at hv; exact hv.1.symm
        obtain rfl : u = c := by
          have := (hat (.held (.slice none 0 0))).symm.trans hu
          rw [hyd] at this
          simpa using this.symm
        have hk2 := (keeps_grown hg2).mono (S' := (· = W.heap.size)) (fun k _ e => by cases e; rfl)
        have hJ2 : J ps w2 := hJ ps wr w2 hJs hk2
        have hkr2 := hkr.trans (hk2.mono (S' := fun j => B0 ≤ j) (fun j _ e => by rw [e]; exact hB0)) (fun _ _ h => h)
        have hO2 := hO.kept hkr2 (fun j h e => by have := HR.out j h; omega)
        obtain ⟨A, cc, rfl, _⟩ := hO2.slice
        have HRd := Lib.hid hO2.rd
        rw [hke] at hen ⊢
        have hz2 := hs2
        have HCs := Lib.hid (hC.step hlk hat)
        have HK2 := Lib.hid hkr2
        have HJ2 := Lib.hid hJ2
        have HhY := Lib.hid hY
        have Hrg2 := Lib.hid hrg2
        have HkB := Lib.hid hkB
        clear hs2 hkr2 hJ2 hY hrg2 hO hO2 hu hhas hat hv hyd hk2 hg2 hJs hkr hJ h0 hM hown hk0 hg0 hrg0 hR ex hkey
        gi_wp2_with (first
          | (refine ⟨trivial, ?_⟩; gi_at_call 64; refine callsIn_wide.2 (Rets.use (clone_c _ val HRd.out (by omega)) ?_); go_loud (rintro v3 w3 ⟨hO3, hk3⟩; have hz3 := hk3.size; obtain ⟨fn, tmps, assign, body, hy, hRr⟩ := HhY.out ps key val v3 w2 w3 HJ2.out (by omega) hk3 hO3 HkB.out hvl (by omega)))
          | gi_in)
        refine hRr.mono ?_
        rintro e w4 ⟨rfl, hJ4, hk4⟩
        have hrg4 := ranges_kept (ranges_kept Hrg2.out hk3 (fun h => h) (fun h => h)) hk4 (fun h => by omega) (fun h => h.2 rfl)
        have hkr4 := (HK2.out.trans hk3 (fun _ _ h => h.elim)).trans hk4 (fun _ _ h => h.1)
        have hC4 : Collected D (fun z => left z && !z.sameKey (.string x)) (cs ++ [x]) := HCs.out
        clear hy
        gi_wp2
        go_roundw
        case rel => exact ⟨_, cnt2, cs ++ [x], ps ++ [(key, val, v3)], hrg4, by rw [List.length_append]; simp only [List.length_cons, List.length_nil]; omega, hC4, by rw [List.map_append, List.map_append, hcp, List.map_cons, List.map_cons, List.map_nil, List.map_nil, ← HKd.out], fun p hp => by
          rcases List.mem_append.1 hp with hp | hp
          · exact hV p hp
          · rw [List.mem_singleton] at hp; subst hp; exact ⟨HkB.out, hL, hklen⟩, hJ4, hkr4⟩
        case measure => rw [hrg4.left_eq, hrg.left_eq]; exact hlt
end Go.Proofs.Ytbiohidelhfaiaa
end

section
namespace Go.Proofs.Ytbiohidelhfaiaa
open Go.RowKit Go.Canon Go.Mem Go.Maps Go.Sort Go.Shelf
set_option linter.unusedVariables false
set_option linter.unusedSimpArgs false
abbrev PV := List Int × List Int × Value
def pairCells (ps : List PV) : List Value := ps.flatMap fun p => [.string (str p.1), p.2.2]
/-- The pairs lie in memory of one's own. -/
structure PairRow (w : World) (n0 : Nat) (v : Value) (ps : List PV) : Prop where
  row : w.ownsRow n0 60 2 v ps.length (pairCells ps)
  val : ∀ p ∈ ps, OwnRow w (fun j => n0 ≤ j) 5 1 p.2.2 p.2.1.length (Disk.bytes8 p.2.1)
theorem row_cells {w : World} {b n sz : Nat} {e : TypeId} {v : Value} {cs : List Value} (h : w.ownsRow b e sz v n cs) {k : Nat} (hk : v.ownBlock = some k) : ∃ cur, w.heap[k]? = some (.cells cur e (0, 0)) := by
  rcases h.2 with ⟨rfl, _⟩ | ⟨g, cap, cur, rfl, _, hg, _⟩
  · simp [Value.ownBlock] at hk
  · simp only [Value.ownBlock, Option.some.injEq] at hk
    subst hk
    exact ⟨cur, hg⟩
theorem own_ne {w : World} {b n m : Nat} {ok : Nat → Prop} {v u : Value} {cs ds : List Value} (h : w.ownsRow b 60 2 v n cs) (h2 : OwnRow w ok 5 1 u m ds) : ∀ k, v.ownBlock = some k → u.ownBlock ≠ some k := by
  intro k hk hu
  obtain ⟨c1, e1⟩ := row_cells h hk
  obtain ⟨c2, e2⟩ := row_cells h2.1 hu
  rw [e1] at e2
  simp at e2
theorem box_ne {w : World} {b n sz B : Nat} {e t : TypeId} {v u : Value} {cs : List Value} (h : w.ownsRow b e sz v n cs) (hb : Boxed w B t u) (hte : t ≠ e) : ∀ k, v.ownBlock = some k → k ≠ B := by
  rintro k hk rfl
  obtain ⟨c1, e1⟩ := row_cells h hk
  unfold Boxed at hb
  rw [hb] at e1
  simp at e1
  exact hte e1.2
theorem rowOwn {w : World} {n0 n sz : Nat} {e : TypeId} {v : Value} {cs : List Value} (h : w.ownsRow n0 e sz v n cs) : OwnRow w (fun j => n0 ≤ j) e sz v n cs := by
  refine ⟨⟨h.1, ?_⟩, fun k hk => (h.lt k hk).1⟩
  rcases h.2 with h1 | ⟨g, cap, cur, a1, _, a3⟩
  · exact .inl h1
  · exact .inr ⟨g, cap, cur, a1, Nat.zero_le _, a3⟩
theorem ownRow_base {w : World} {n0 n sz : Nat} {e : TypeId} {v : Value} {cs : List Value} (h : OwnRow w (fun j => n0 ≤ j) e sz v n cs) : w.ownsRow n0 e sz v n cs := by
  refine ⟨h.1.1, ?_⟩
  rcases h.1.2 with h1 | ⟨g, cap, cur, a1, _, a3⟩
  · exact .inl h1
  · exact .inr ⟨g, cap, cur, a1, h.2 g (by rw [a1]; rfl), a3⟩
theorem row_kept {w w' : World} {n0 n sz : Nat} {e : TypeId} {v : Value} {cs : List Value} {S : Nat → Prop} (h : w.ownsRow n0 e sz v n cs) (hk : Keeps S w w') (hn : ∀ k, v.ownBlock = some k → ¬ S k) : w'.ownsRow n0 e sz v n cs := by
  refine ⟨h.1, ?_⟩
  rcases h.2 with h1 | ⟨g, cap, cur, rfl, a2, a3, a4⟩
  · exact .inl h1
  · exact .inr ⟨g, cap, cur, rfl, a2, hk.heap a3 (hn g rfl), a4⟩
theorem PairRow.kept {w w' : World} {n0 : Nat} {v : Value} {ps : List PV} {S : Nat → Prop} (h : PairRow w n0 v ps) (hk : Keeps S w w') (hn : ∀ k, n0 ≤ k → ¬ S k) : PairRow w' n0 v ps :=
  ⟨row_kept h.row hk (fun k e => hn k (h.row.lt k e).1), fun p hp => (h.val p hp).kept hk hn⟩
theorem PairRow.nil (w : World) (n0 : Nat) : PairRow w n0 (.slice none 0 0) [] := ⟨World.ownsRow_nil w n0 _ _, fun p hp => by cases hp⟩
/-- One more. -/
theorem PairRow.push {w w1 : World} {n0 : Nat} {v v' u : Value} {ps : List PV} {key val : List Int} (h : PairRow w n0 v ps) (hu : OwnRow w (fun j => n0 ≤ j) 5 1 u val.length (Disk.bytes8 val)) (hk : Keeps (fun k => v.ownBlock = some k) w w1) (hown : w1.ownsRow n0 60 2 v' (ps.length + 1) (pairCells ps ++ [.string (str key), u])) : PairRow w1 n0 v' (ps ++ [(key, val, u)]) := by
  refine ⟨?_, fun p hp => ?_⟩
  · have e : pairCells (ps ++ [(key, val, u)]) = pairCells ps ++ [.string (str key), u] := by unfold pairCells; rw [List.flatMap_append]; simp
    rw [e, List.length_append]
    exact hown
  · have hgen : ∀ q : PV, OwnRow w (fun j => n0 ≤ j) 5 1 q.2.2 q.2.1.length (Disk.bytes8 q.2.1) → OwnRow w1 (fun j => n0 ≤ j) 5 1 q.2.2 q.2.1.length (Disk.bytes8 q.2.1) := fun q hq => by
      have h8 : OwnRow w (fun j => n0 ≤ j ∧ q.2.2.ownBlock = some j) 5 1 q.2.2 q.2.1.length (Disk.bytes8 q.2.1) := ⟨hq.1, fun j hj => ⟨hq.2 j hj, hj⟩⟩
      exact (h8.kept hk (fun j hj e => own_ne h.row hq j e hj.2)).mono (fun _ _ h => h.1)
    rcases List.mem_append.1 hp with hp | hp
    · exact hgen p (h.val p hp)
    · rw [List.mem_singleton] at hp; subst hp; exact hgen _ hu
theorem keeps_putObj (w : World) (r : Nat) (o : Obj) : Keeps (· = r) w (w.putObj r o) := ⟨rfl, rfl, rfl, by simp, fun k _ hn => World.putObj_heap_other hn⟩
theorem boxed_keeps {w w' : World} {B : Nat} {t : TypeId} {v : Value} {S : Nat → Prop} (h : Boxed w B t v) (hk : Keeps S w w') (hn : ¬ S B) : Boxed w' B t v := hk.heap h hn
set_option maxHeartbeats 1000000 in
/-- The receiver is boxed; the function value captures the box. -/
theorem pairs_in (n : Nat) (p : Option Addr) (w : World) : CallsIn Fence.wide n Try.prog 56 #[.pointer p] w fun e w' => e = .returned (.func (.func 76) #[] #[.pointer (some ⟨w.heap.size, 0, none⟩)]) ∧ w' = w.alloc (.cells #[.pointer p] 50) := by
  refine callsIn_of_wp Try.func56 rfl trivial ?_ rfl
  simp only [Try.ntmps56, List.size_toArray, List.length_cons, List.length_nil, Nat.reduceAdd, Nat.reduceSub, Array.replicate_succ, Array.replicate_zero, List.push_toArray, List.append_toArray, List.nil_append, List.cons_append]
  gi_wp2
  go_ret
  exact ⟨rfl, rfl⟩
end Go.Proofs.Ytbiohidelhfaiaa
end

section
namespace Go.Proofs.Ytbiohidelhfaiaa
open Go.RowKit Go.Canon Go.Mem Go.Maps Go.Sort Go.Shelf
set_option linter.unusedVariables false
set_option linter.unusedSimpArgs false
theorem wp_range_pairs {g : Operand} {assign body : Code} {Q : Exit → Act → World → Prop} {a : Act} {w2 : World} {n : Nat} (hn : 4 ≤ n) (Bs x bm nn B0 : Nat) (R : Nat → Prop) (M : Sto.Mp)
    (hg : a.eval g = .func (.func 76) #[] #[.pointer (some ⟨Bs, 0, none⟩)]) (hbs : w2.cell? ⟨Bs, 0, none⟩ = some (.pointer (some ⟨x, 0, none⟩))) (hm3 : w2.cell? ⟨x, 3, none⟩ = some (.map (some bm))) (hM : MapIs w2 bm R nn M) (hR : ∀ j, R j → j < B0) (hbm : bm < B0) (hB0 : B0 ≤ w2.heap.size) (hN : nn ≤ 1000000000)
    (I : List PV → World → Prop) (hI : ∀ pre A B, I pre A → Keeps (fun j => w2.heap.size ≤ j ∧ j ≤ w2.heap.size + 2) A B → I pre B) (h0 : I [] w2) (a₁ : List Int → Value → Act)
    (hassign : ∀ (l : Nat) (key : List Int) (v : Value) (W : World) (K : Act → World → Prop), K (a₁ key v) W → assign.wpIn (Fence.wide.inRound l) (n - 1 - 1) Try.prog (Exit.then K (fun _ _ _ => False)) { tmps := ((#[10, 11] : Array Tmp).zip #[.string (str key), v]).foldl (fun t (p, v) => t.setIfInBounds p v) a.tmps, defers := [] } W)
    (hbody : ∀ (l : Nat) (pre : List PV) (key val : List Int) (v : Value) (C : World) (b : Nat), I pre C → w2.heap.size + 2 < b → b ≤ C.heap.size → OwnRow C (fun j => b ≤ j) 5 1 v val.length (Disk.bytes8 val) → IsB key → val.length ≤ 1000000 → pre.length < nn → body.wpIn (Fence.wide.inRound l) (n - 1 - 1) Try.prog (fun e _ W' => e = .normal ∧ I (pre ++ [(key, val, v)]) W' ∧ Keeps (fun j => B0 ≤ j ∧ ¬ (w2.heap.size ≤ j ∧ j ≤ w2.heap.size + 2)) C W') (a₁ key v) C)
    (hdone : ∀ (ps : List PV) (W' : World), ps.length ≤ nn ∧ AllOf M ps → I ps W' → Keeps (fun j => B0 ≤ j) w2 W' → W'.heap[w2.heap.size]? = some (.deferred (some [])) → Q .normal { a with defers := { target := .collected w2.heap.size, args := #[] } :: a.defers } W') :
    (Code.rangeFunc g #[10, 11] assign body).wpIn Fence.wide n Try.prog Q a w2 := by
  refine wpIn_rangeFunc ?_
  intro fn hfn
  obtain ⟨rec, hrec⟩ : ∃ rec : LoopState → Option Code → Loop, rec = fun st pe => { state := st, pending := pe, fn, tmps := a.tmps, params := #[10, 11], assign, body, defers := w2.heap.size } := ⟨_, rfl⟩
  obtain ⟨W1, hW1⟩ : ∃ W1, (w2.alloc (.deferred (some []))).alloc (.loop (rec .ready none)) = W1 := ⟨_, rfl⟩
  have hz1 : W1.heap.size = w2.heap.size + 2 := by rw [← hW1]; simp
  have hk1 : Keeps (fun _ => False) w2 W1 := by rw [← hW1]; exact ((Keeps.refl _ w2).alloc _).alloc _
  have hL1 : W1.heap[w2.heap.size + 1]? = some (.loop (rec .ready none)) := by
    rw [← hW1]; have := World.alloc_heap_new (w2.alloc (.deferred (some []))) (.loop (rec .ready none)); rwa [World.size_alloc] at this
  have hD1 : W1.heap[w2.heap.size]? = some (.deferred (some [])) := by
    rw [← hW1]; exact (Below.heap_alloc _ _ _ (by simp)).trans (World.alloc_heap_new w2 _)
  have eg : ∀ args w, (callFunc 76 args).run Try.prog w = .ok (.enter 76 args) w := enters_of Try.func76 (by kernel_rfl) rfl
  refine ⟨w2.heap.size + 1, [{ target := .collected w2.heap.size, args := #[] }], W1, { target := .fn (.func 76) #[.pointer (some ⟨Bs, 0, none⟩)], args := #[.func (.yield (w2.heap.size + 1)) #[] #[]] }, W1, 76,
    #[.func (.yield (w2.heap.size + 1)) #[] #[]] ++ #[.pointer (some ⟨Bs, 0, none⟩)], W1, ?_, ?_, fun _ _ => trivial, ?_, fun _ => by omega, ?_⟩
  · rw [← hW1, hrec]; exact run_enterLoop_outer _ _ _ _ _
  · simp only [resolve, hg]
    simp [go_sem]
  · simp [invoke, go_sem, eg]
  · have hit := pairs1_in (n - 1) (by omega) (w2.heap.size + 1) Bs x bm nn B0 R M W1
      (fun pre A => I pre A ∧ A.heap[w2.heap.size + 1]? = some (.loop (rec .ready none)) ∧ A.heap[w2.heap.size]? = some (.deferred (some [])))
      (hk1.cell hbs (fun h => h)) (hk1.cell hm3 (fun h => h)) (hM.kept hk1 (fun h => h) (fun _ _ h => h)) (by omega) hR hbm hN
      (fun pre A B hJ hk => ⟨hI pre A B hJ.1 (hk.mono (fun j _ e => by omega)), hk.heap hJ.2.1 (fun e => by omega), hk.heap hJ.2.2 (fun e => by omega)⟩)
      (fun A hk hz => ⟨hI [] w2 A h0 ((hk1.trans hk (fun _ _ h => h)).mono (fun _ _ h => h.elim)), hk.heap hL1 (fun h => h), hk.heap hD1 (fun h => h)⟩)
      (fun pre key val v A C hJ hz hk hO hkB hvl hpl => by
        obtain ⟨hi, hl, hd⟩ := hJ
        have hl := hk.heap hl (fun h => h)
        have hd := hk.heap hd (fun h => h)
        have hi := hI pre A C hi (hk.mono (fun _ _ h => h.elim))
        have hzC := hk.size
        have hy := run_yield (P := Try.prog) (args := #[.string (str key), v]) hl (by rw [hrec]; rfl)
        rw [hrec] at hy
        refine ⟨fn, _, assign, body, hy, roundIn_of_wpIn hfn (hassign _ key v C _ ?_)⟩
        refine ⟨_, run_beginRound hl (by rw [hrec]), ?_⟩
        obtain ⟨Cb, hCb⟩ : ∃ Cb, C.putObj (w2.heap.size + 1) (.loop { rec .ready none with state := .busy }) = Cb := ⟨_, rfl⟩
        have hkb : Keeps (· = w2.heap.size + 1) C Cb := by rw [← hCb]; exact keeps_putObj _ _ _
        have hlb : Cb.heap[w2.heap.size + 1]? = some (.loop { rec .ready none with state := .busy }) := by rw [← hCb]; exact World.putObj_heap_same (by omega)
        have hdb : Cb.heap[w2.heap.size]? = some (.deferred (some [])) := hkb.heap hd (fun e => by omega)
        have hzb : C.heap.size ≤ Cb.heap.size := hkb.size
        rw [hCb]
        refine wpIn_mono (hbody _ pre key val v Cb A.heap.size (hI pre C Cb hi (hkb.mono (fun j _ e => by omega))) (by omega) (by omega) (hO.kept hkb (fun j h e => by omega)) hkB hvl hpl) ?_
        rintro e a3 W3 ⟨rfl, hi3, hk3⟩
        have hl3 := hk3.heap hlb (fun h => h.2 ⟨by omega, by omega⟩)
        have hd3 := hk3.heap hdb (fun h => h.2 ⟨by omega, by omega⟩)
        have hr3 := run_endRound (P := Try.prog) none hl3
        have hke := keeps_putObj W3 (w2.heap.size + 1) (.loop (rec .ready none))
        have he : ({ rec .ready none with state := .busy } : Loop) = rec .busy none := by rw [hrec]
        refine ⟨_, _, hr3, rfl, ⟨hI _ W3 _ hi3 ((keeps_putObj W3 (w2.heap.size + 1) _).mono (fun j _ e => by omega)), ?_, (keeps_putObj W3 (w2.heap.size + 1) _).heap hd3 (fun e => by omega)⟩, ?_⟩
        · have : W3.heap.size > w2.heap.size + 1 := (Array.getElem?_eq_some_iff.1 hl3).1
          rw [World.putObj_heap_same this, hrec]; rfl
        · exact ((hkb.mono (S' := fun j => B0 ≤ j ∧ j ≠ W1.heap.size) (fun j _ e => by omega)).trans (hk3.mono (S' := fun j => B0 ≤ j ∧ j ≠ W1.heap.size) (fun j _ h => by omega)) (fun _ _ h => h)).trans ((keeps_putObj W3 (w2.heap.size + 1) _).mono (S' := fun j => B0 ≤ j ∧ j ≠ W1.heap.size) (fun j _ e => by omega)) (fun _ _ h => h))
    refine hit.mono ?_
    rintro e W' ⟨⟨v, rfl⟩, ps, hA, ⟨hi, hl, hd⟩, hk⟩
    have hend : (Instr.endLoop (w2.heap.size + 1)).run Try.prog W' = .ok none (W'.putObj (w2.heap.size + 1) (.loop (rec .exhausted none))) := by
      have := run_endLoop (P := Try.prog) hl (by rw [hrec]; simp)
      rw [hrec] at this ⊢
      exact this
    refine ⟨none, _, hend, ?_⟩
    refine hdone ps _ hA (hI _ W' _ hi ((keeps_putObj W' (w2.heap.size + 1) _).mono (fun j _ e => by omega))) ?_ ((keeps_putObj W' (w2.heap.size + 1) _).heap hd (fun e => by omega))
    exact ((hk1.mono (S' := fun j => B0 ≤ j) (fun _ _ h => h.elim)).trans hk (fun _ _ h => h)).trans ((keeps_putObj W' (w2.heap.size + 1) _).mono (S' := fun j => B0 ≤ j) (fun j _ e => by omega)) (fun _ _ h => h)
end Go.Proofs.Ytbiohidelhfaiaa
end

section
namespace Go.Proofs.Ytbiohidelhfaiaa
open Go.Shelf Go.RowKit Go.Lib Go.Sort
def sortLayRen : Ren where
  f := fun
    | 6 => 57
    | 15 => 78
    | 14 => 77
    | 28 => 97
    | 29 => 98
    | 20 => 89
    | 21 => 90
    | 22 => 91
    | 23 => 92
    | 24 => 93
    | 25 => 94
    | 26 => 95
    | 27 => 96
    | 46 => 101
    | 47 => 102
    | 48 => 103
    | 49 => 104
    | 50 => 105
    | 57 => 106
    | n => n
  t := fun
    | 22 => 57
    | 24 => 60
    | 25 => 113
    | 3 => 3
    | 39 => 120
    | 0 => 0
    | 53 => 139
    | 55 => 85
    | 4 => 4
    | 46 => 148
    | 45 => 147
    | 50 => 152
    | 5 => 5
    | 9 => 9
    | 66 => 156
    | 70 => 159
    | 76 => 161
    | 77 => 162
    | n => n
  g := fun n => n

theorem sortLay : SlLaysF0.n6 Try.prog sortLayRen where
  mixed := rfl
  f6 := ⟨"slices.SortFunc[[]inquest/api.Pair,inquest/api.Pair]", of_decide_eq_true (by kernel_rfl), Try.func57.trans (by kernel_rfl)⟩
  f14 := ⟨"slices.pdqsortCmpFunc[inquest/api.Pair]", of_decide_eq_true (by kernel_rfl), Try.func77.trans (by kernel_rfl)⟩
  f15 := Try.func78.trans (by kernel_rfl)
  f20 := ⟨"slices.insertionSortCmpFunc[inquest/api.Pair]", of_decide_eq_true (by kernel_rfl), Try.func89.trans (by kernel_rfl)⟩
  f21 := ⟨"slices.heapSortCmpFunc[inquest/api.Pair]", of_decide_eq_true (by kernel_rfl), Try.func90.trans (by kernel_rfl)⟩
  f22 := ⟨"slices.breakPatternsCmpFunc[inquest/api.Pair]", of_decide_eq_true (by kernel_rfl), Try.func91.trans (by kernel_rfl)⟩
  f23 := ⟨"slices.choosePivotCmpFunc[inquest/api.Pair]", of_decide_eq_true (by kernel_rfl), Try.func92.trans (by kernel_rfl)⟩
  f24 := ⟨"slices.reverseRangeCmpFunc[inquest/api.Pair]", of_decide_eq_true (by kernel_rfl), Try.func93.trans (by kernel_rfl)⟩
  f25 := ⟨"slices.partialInsertionSortCmpFunc[inquest/api.Pair]", of_decide_eq_true (by kernel_rfl), Try.func94.trans (by kernel_rfl)⟩
  f26 := ⟨"slices.partitionEqualCmpFunc[inquest/api.Pair]", of_decide_eq_true (by kernel_rfl), Try.func95.trans (by kernel_rfl)⟩
  f27 := ⟨"slices.partitionCmpFunc[inquest/api.Pair]", of_decide_eq_true (by kernel_rfl), Try.func96.trans (by kernel_rfl)⟩
  f28 := Try.func97.trans (by kernel_rfl)
  f29 := Try.func98.trans (by kernel_rfl)
  f46 := ⟨"slices.siftDownCmpFunc[inquest/api.Pair]", of_decide_eq_true (by kernel_rfl), Try.func101.trans (by kernel_rfl)⟩
  f47 := Try.func102.trans (by kernel_rfl)
  f48 := Try.func103.trans (by kernel_rfl)
  f49 := ⟨"slices.medianAdjacentCmpFunc[inquest/api.Pair]", of_decide_eq_true (by kernel_rfl), Try.func104.trans (by kernel_rfl)⟩
  f50 := ⟨"slices.medianCmpFunc[inquest/api.Pair]", of_decide_eq_true (by kernel_rfl), Try.func105.trans (by kernel_rfl)⟩
  f57 := ⟨"slices.order2CmpFunc[inquest/api.Pair]", of_decide_eq_true (by kernel_rfl), Try.func106.trans (by kernel_rfl)⟩
  t0 := Try.underlying0
  a0 := Try.isAgg0
  z0 := Try.sizeOf0
  v0 := Try.zeroValue0
  t3 := Try.underlying3
  a3 := Try.isAgg3
  z3 := Try.sizeOf3
  v3 := Try.zeroValue3
  t4 := Try.underlying4
  a4 := Try.isAgg4
  z4 := Try.sizeOf4
  v4 := Try.zeroValue4
  t5 := Try.underlying5
  a5 := Try.isAgg5
  z5 := Try.sizeOf5
  v5 := Try.zeroValue5
  t9 := Try.underlying9
  a9 := Try.isAgg9
  z9 := Try.sizeOf9
  v9 := Try.zeroValue9
  t22 := Try.underlying57
  a22 := Try.isAgg57
  z22 := Try.sizeOf57
  v22 := Try.zeroValue57
  t25 := Try.underlying113
  a25 := Try.isAgg113
  z25 := Try.sizeOf113
  v25 := Try.zeroValue113
  t39 := Try.underlying120
  a39 := Try.isAgg120
  z39 := Try.sizeOf120
  v39 := Try.zeroValue120
  t45 := Try.underlying147
  a45 := Try.isAgg147
  z45 := Try.sizeOf147
  v45 := Try.zeroValue147
  t46 := Try.underlying148
  a46 := Try.isAgg148
  z46 := Try.sizeOf148
  v46 := Try.zeroValue148
  t50 := Try.underlying152
  a50 := Try.isAgg152
  z50 := Try.sizeOf152
  v50 := Try.zeroValue152
  t53 := Try.underlying139
  a53 := Try.isAgg139
  z53 := Try.sizeOf139
  v53 := Try.zeroValue139
  t55 := Try.underlying85
  a55 := Try.isAgg85
  z55 := Try.sizeOf85
  v55 := Try.zeroValue85
  t66 := Try.underlying156
  a66 := Try.isAgg156
  z66 := Try.sizeOf156
  v66 := Try.zeroValue156
  t70 := Try.underlying159
  a70 := Try.isAgg159
  z70 := Try.sizeOf159
  v70 := Try.zeroValue159
  t76 := Try.underlying161
  a76 := Try.isAgg161
  z76 := Try.sizeOf161
  v76 := Try.zeroValue161
  t77 := Try.underlying162
  a77 := Try.isAgg162
  z77 := Try.sizeOf162
  v77 := Try.zeroValue162

def cmpLayRen : Ren where
  f := fun
    | 106 => 59
    | 213 => 79
    | 265 => 99
    | n => n
  t := fun
    | 9 => 9
    | 3 => 3
    | n => n
  g := fun n => n

theorem cmpLay : Lays.n106 Try.prog cmpLayRen where
  mixed := rfl
  f106 := Try.func59.trans (by kernel_rfl)
  f213 := Try.func79.trans (by kernel_rfl)
  f265 := Try.func99.trans (by kernel_rfl)
  t3 := Try.underlying3
  a3 := Try.isAgg3
  z3 := Try.sizeOf3
  v3 := Try.zeroValue3
  t9 := Try.underlying9
  a9 := Try.isAgg9
  z9 := Try.sizeOf9
  v9 := Try.zeroValue9
end Go.Proofs.Ytbiohidelhfaiaa
end

section
namespace Go.Proofs.Ytbiohidelhfaiaa
open Go.RowKit Go.Canon Go.Mem Go.Sort Go.Shelf
open Go.Lib (compareBytes)
set_option linter.unusedVariables false
set_option linter.unusedSimpArgs false
/-! ### the order -/
theorem cmp_lt : ∀ a b : List UInt8, compareBytes a b < 0 ↔ a < b
  | [], [] => by simp [compareBytes]
  | [], _ :: _ => by simp [compareBytes]
  | _ :: _, [] => by simp [compareBytes]
  | a :: l, b :: m => by
    unfold compareBytes
    rw [List.cons_lt_cons_iff]
    by_cases h1 : a < b
    · simp [h1]
    · by_cases h2 : b < a
      · have hne : a ≠ b := fun e => by subst e; exact h1 h2
        simp [h1, h2, hne]
      · have he : a = b := UInt8.le_antisymm (UInt8.not_lt.1 h2) (UInt8.not_lt.1 h1)
        subst he
        simp only [h1, if_false]
        rw [cmp_lt l m]
        simp
/-- A key's bytes. -/
def kb (k : List Int) : List UInt8 := (str k).data.toList
theorem kb_inj {a b : List Int} (ha : IsB a) (hb : IsB b) (h : kb a = kb b) : a = b := by
  refine str_inj ha hb ?_
  unfold kb at h
  have h2 : (str a).data = (str b).data := by rw [← Array.toArray_toList (xs := (str a).data), h, Array.toArray_toList]
  cases h3 : str a
  cases h4 : str b
  rw [h3, h4] at h2
  simp only at h2
  rw [h2]
def fixV : Value → Value
  | .slice a n c => .slice a n c
  | _ => .slice none 0 0
theorem fixV_slice (v : Value) : ∃ A n c, fixV v = .slice A n c := by
  cases v
  case slice a n c => exact ⟨a, n, c, rfl⟩
  all_goals exact ⟨none, 0, 0, rfl⟩
def encPV (p : PV) : List Value := [.string (str p.1), fixV p.2.2]
def cfPV (p q : PV) : Int := compareBytes (kb p.1) (kb q.1)
instance : Inhabited PV := ⟨([], [], .slice none 0 0)⟩
theorem lt_cfPV (p q : PV) : ltOf cfPV p q = decide (kb p.1 < kb q.1) := by
  unfold ltOf cfPV
  exact decide_eq_decide.2 (cmp_lt _ _)
theorem swoPV : SWO (ltOf cfPV) where
  irrefl x := by rw [lt_cfPV]; exact decide_eq_false (List.lt_irrefl _)
  trans x y z h1 h2 := by
    rw [lt_cfPV] at *
    exact decide_eq_true (List.lt_trans (of_decide_eq_true h1) (of_decide_eq_true h2))
  ntrans x y z h1 h2 := by
    rw [lt_cfPV] at *
    have h1 := of_decide_eq_false h1
    have h2 := of_decide_eq_false h2
    exact decide_eq_false (List.not_lt.2 (List.le_trans (List.not_lt.1 h2) (List.not_lt.1 h1)))
set_option maxHeartbeats 1000000 in
/-- The closure: two blocks are laid. -/
theorem allc_c (x y : PV) (W : World) : Calls Try.prog 58 #[.agg (encPV x).toArray, .agg (encPV y).toArray] W fun e w' => e = .returned (.int .i64 (cfPV x y)) ∧ ∃ q os', w' = grow (W.drewN q) os' := by
  obtain ⟨A1, n1, c1, e1⟩ := fixV_slice x.2.2
  obtain ⟨A2, n2, c2, e2⟩ := fixV_slice y.2.2
  have hcon : ∀ W', Calls Try.prog 59 #[.string (str x.1), .string (str y.1)] W' fun e w' => e = .returned (.int .i64 (cfPV x y)) ∧ w' = W' := fun W' => Any.strings_Compare cmpLay (str x.1) (str y.1) W'
  unfold encPV
  rw [e1, e2]
  generalize str x.1 = s1 at *
  generalize str y.1 = s2 at *
  generalize cfPV x y = r at *
  clear e1 e2
  go_enter Try.func58, Try.ntmps58
  go_wp2_with (go_at_call 59; refine (hcon _).mono ?_; rintro e w' ⟨rfl, rfl⟩)
  go_ret
  exact ⟨rfl, 0, _, by rw [alloc_eq_grow, alloc_eq_grow, grow_grow]; rfl⟩
theorem cmpLays_all (blk off size : Nat) (w : World) : CmpLays Try.prog 58 #[] encPV 2 cfPV blk off size w := fun _ _ _ _ x y => allc_c x y _
/-! ### in memory -/
theorem flat2 (enc : PV → List Value) (hk : ∀ x, (enc x).length = 2) : ∀ (ps : List PV) (t : Nat), (ps.flatMap enc)[t]? = (ps[t / 2]?).bind fun p => (enc p)[t % 2]? := by
  intro ps
  induction ps with
  | nil => intro t; simp
  | cons p ps ih =>
    intro t
    rw [List.flatMap_cons]
    by_cases ht : t < 2
    · rw [List.getElem?_append_left (by rw [hk]; exact ht), show t / 2 = 0 by omega, show t % 2 = t by omega]
      rfl
    · rw [List.getElem?_append_right (by rw [hk]; omega), ih, hk, show t / 2 = (t - 2) / 2 + 1 by omega, show t % 2 = (t - 2) % 2 by omega]
      rfl
theorem flatK_list (ps : List PV) : (flatK encPV 2 ps.toArray).toList = ps.flatMap encPV := by
  apply List.ext_getElem?
  intro t
  rw [flat2 encPV (fun _ => rfl)]
  by_cases ht : t < ps.length * 2
  · have h2 : t / 2 < ps.length := by omega
    have h3 : t % 2 < (encPV ps[t / 2]).length := by show t % 2 < 2; omega
    have h1 := get_flatK encPV 2 ps.toArray t (by simpa using ht)
    have hs : t < (flatK encPV 2 ps.toArray).size := by simpa using ht
    rw [Array.getElem?_toList, Array.getElem?_eq_getElem hs, List.getElem?_eq_getElem h2, Option.bind_some, List.getElem?_eq_getElem h3]
    congr 1
    rw [getElem!_pos _ t hs] at h1
    rw [h1]
    have h4 : (ps.toArray)[t / 2]! = ps[t / 2] := by rw [getElem!_pos _ _ (by simpa using h2)]; simp
    rw [h4, getElem!_pos (encPV ps[t / 2]) (t % 2) h3]
  · rw [Array.getElem?_toList, Array.getElem?_eq_none (by simp; omega), List.getElem?_eq_none (by omega : ps.length ≤ t / 2)]
    rfl
theorem pairCells_enc {ps : List PV} (h : ∀ p ∈ ps, fixV p.2.2 = p.2.2) : pairCells ps = ps.flatMap encPV := by
  unfold pairCells
  induction ps with
  | nil => rfl
  | cons p ps ih =>
    rw [List.flatMap_cons, List.flatMap_cons, ih (fun q hq => h q (List.mem_cons_of_mem _ hq))]
    unfold encPV
    rw [h p (List.mem_cons_self ..)]
theorem sorted_blk {w : World} {g m : Nat} {cur F : Array Value} {t : TypeId} {fr : Nat × Nat} {os : Array Obj} (hb : w.heap[g]? = some (.cells cur t fr)) : (grow (putRow id (Go.Sort.ahead w m) g 0 F) os).heap[g]? = some (.cells (putCells id 0 F cur) t fr) := by
  have hlt : g < w.heap.size := (Array.getElem?_eq_some_iff.1 hb).1
  show ((w.heap.modify g (onCells (putCells id 0 F))) ++ os)[g]? = _
  rw [Array.getElem?_append_left (by simpa using hlt), Array.getElem?_modify, if_pos rfl, hb]
  rfl
theorem sorted_keeps (w : World) (g m : Nat) (F : Array Value) (os : Array Obj) : Keeps (· = g) w (grow (putRow id (Go.Sort.ahead w m) g 0 F) os) := by
  refine ⟨rfl, rfl, rfl, ?_, fun k hk hn => ?_⟩
  · show w.heap.size ≤ ((w.heap.modify g (onCells (putCells id 0 F))) ++ os).size
    simp
  · show ((w.heap.modify g (onCells (putCells id 0 F))) ++ os)[k]? = _
    rw [Array.getElem?_append_left (by simpa using hk), Array.getElem?_modify, if_neg (fun e => hn e.symm)]
theorem putCells_take {F cur : Array Value} (h : F.size ≤ cur.size) : (putCells id 0 F cur).toList.take F.size = F.toList ∧ (putCells id 0 F cur).size = cur.size := by
  refine ⟨?_, by simp [putCells]⟩
  apply List.ext_getElem?
  intro j
  rw [List.getElem?_take]
  by_cases hj : j < F.size
  · rw [if_pos hj, Array.getElem?_toList, Array.getElem?_toList, putCells, Array.getElem?_mapIdx, Array.getElem?_eq_getElem (by omega : j < cur.size), Option.map_some, if_pos ⟨Nat.zero_le _, by omega⟩, Nat.sub_zero, Array.getElem?_eq_getElem hj, getElem!_pos F j hj]
    rfl
  · rw [if_neg hj, Array.getElem?_toList, Array.getElem?_eq_none (by omega)]
set_option maxHeartbeats 2000000 in
/-- slices.SortFunc at pairs. -/
theorem sort_c {w : World} {n0 : Nat} {v : Value} {ps : List PV} (hrow : PairRow w n0 v ps) (hlen : ps.length ≤ 1000000000) (hnil : ps = [] → v = .slice none 0 0) : Calls Try.prog 57 #[v, .func (.func 58) #[] #[]] w (Rets fun _ w' => ∃ ps', ps'.Perm ps ∧ ps'.Pairwise (fun a b => ¬ kb b.1 < kb a.1) ∧ PairRow w' n0 v ps' ∧ Keeps (fun k => n0 ≤ k) w w') := by
  cases hps : ps with
  | nil =>
    rw [hnil hps]
    refine (AnyF.slices_SortFunc_none { sortLay with } none 0 _ w).mono ?_
    rintro e w' ⟨rfl, rfl⟩
    exact ⟨[], List.Perm.refl _, List.Pairwise.nil, PairRow.nil _ _, Keeps.refl _ _⟩
  | cons p0 ps0 =>
    rw [← hps]
    have hpos : 0 < ps.length := by rw [hps]; simp
    have hfix : ∀ p ∈ ps, fixV p.2.2 = p.2.2 := fun p hp => by
      obtain ⟨A, c, e, _⟩ := (hrow.val p hp).slice
      rw [e]; rfl
    rcases hrow.row.2 with ⟨_, h0⟩ | ⟨g, cap, cur, rfl, hg, hb, hnc, hcm, hcs, htake⟩
    · omega
    · have hF : (flatK encPV 2 ps.toArray).toList = pairCells ps := by rw [flatK_list, pairCells_enc hfix]
      have hgl : g < w.heap.size := (Array.getElem?_eq_some_iff.1 hb).1
      have hsz : ps.toArray.size = ps.length := by simp
      have hH : HoldsK encPV 2 w g 0 ps.toArray := by
        intro j hj
        have hj2 : j < (flatK encPV 2 ps.toArray).size := hj
        rw [Nat.zero_add]
        refine ⟨?_, frozen_of_row w g j cur _ hb⟩
        rw [cell_of_row w g j cur _ _ hb]
        have h1 : (cur.toList.take (ps.length * 2))[j]? = (flatK encPV 2 ps.toArray).toList[j]? := by rw [hF, htake]
        rw [size_flatK, hsz] at hj2
        rw [List.getElem?_take, if_pos hj2, Array.getElem?_toList (xs := flatK encPV 2 ps.toArray), Array.getElem?_eq_getElem hj] at h1
        rw [← Array.getElem?_toList, h1, getElem!_pos _ j hj]
        rfl
      have eg : ∀ args w, (callFunc 58 args).run Try.prog w = .ok (.enter 58 args) w := enters_of Try.func58 (by kernel_rfl) rfl
      have hcon := AnyQ.slices_SortFunc sortLay 2 Try.isAgg60 Try.sizeOf60 encPV (fun _ => rfl) (fun x u hu => by
        obtain ⟨A, n, c, e⟩ := fixV_slice x.2.2
        unfold encPV at hu
        rw [e] at hu
        simp only [List.mem_cons, List.not_mem_nil, or_false] at hu
        rcases hu with rfl | rfl <;> rfl) cfPV swoPV 58 #[] g 0 cap ps.toArray w eg (cmpLays_all g 0 _ w) hH hgl (by rw [hsz]; omega)
      rw [hsz] at hcon
      refine hcon.mono ?_
      rintro e w' ⟨rfl, d', n, os, hp, hs, rfl⟩
      obtain ⟨hd1, _, hd3⟩ := hp
      rw [hsz] at hd1
      have hperm : d'.toList.Perm ps := by
        have e1 : d'.extract 0 ps.length = d' := by rw [← hd1]; simp
        have e2 : ps.toArray.extract 0 ps.length = ps.toArray := by rw [← hsz]; simp
        rw [e1, e2] at hd3
        simpa using hd3
      have hfix' : ∀ p ∈ d'.toList, fixV p.2.2 = p.2.2 := fun p hp => hfix p (hperm.mem_iff.1 hp)
      have hF' : (flatK encPV 2 d').toList = pairCells d'.toList := by
        have := flatK_list d'.toList
        rw [Array.toArray_toList] at this
        rw [this, pairCells_enc hfix']
      have hFs : (flatK encPV 2 d').size = ps.length * 2 := by rw [size_flatK, hd1]
      have hdl : d'.toList.length = ps.length := by rw [Array.length_toList]; exact hd1
      have hk := sorted_keeps w g n (flatK encPV 2 d') os
      obtain ⟨t1, t2⟩ := putCells_take (F := flatK encPV 2 d') (cur := cur) (by rw [hFs, hcs]; exact Nat.mul_le_mul_right _ hnc)
      refine ⟨d'.toList, hperm, ?_, ⟨⟨?_, .inr ⟨g, cap, _, ?_, hg, sorted_blk hb, ?_, hcm, by rw [t2]; exact hcs, ?_⟩⟩, fun p hp => ?_⟩, hk.mono (fun k _ e => by rw [e]; exact hg)⟩
      · rw [List.pairwise_iff_getElem]
        intro i j hi hj hij
        have := hs i j (Nat.zero_le _) hij (by rw [← hd1]; simpa using hj)
        rw [lt_cfPV] at this
        have h2 := of_decide_eq_false this
        rw [getElem!_pos d' j (by simpa using hj), getElem!_pos d' i (by simpa using hi)] at h2
        simpa using h2
      · rw [← hF', Array.length_toList, hFs, hdl]
      · rw [hdl]
      · rw [hdl]; exact hnc
      · rw [hdl, ← hFs, t1, hF']
      · have hq := hrow.val p (hperm.mem_iff.1 hp)
        have h8 : OwnRow w (fun j => n0 ≤ j ∧ p.2.2.ownBlock = some j) 5 1 p.2.2 p.2.1.length (Disk.bytes8 p.2.1) := ⟨hq.1, fun j hj => ⟨hq.2 j hj, hj⟩⟩
        exact (h8.kept hk (fun j hj e => own_ne hrow.row hq j (by rw [e]; rfl) hj.2)).mono (fun _ _ h => h.1)
end Go.Proofs.Ytbiohidelhfaiaa
end

section
namespace Go.Proofs.Ytbiohidelhfaiaa
open Go.RowKit Go.Canon Go.Mem Go.Maps Go.Sort Go.Shelf
set_option linter.unusedVariables false
set_option linter.unusedSimpArgs false
/-- All that a map holds, by rising keys. -/
def AllIs (M : Sto.Mp) (l : List (List Int × List Int)) : Prop := l.Pairwise (fun a b => kb a.1 < kb b.1) ∧ (∀ p ∈ l, IsB p.1 ∧ Sto.look M p.1 = some p.2 ∧ p.1.length ≤ maxLen) ∧ ∀ k v, IsB k → Sto.look M k = some v → (k, v) ∈ l
def kvs (ps : List PV) : List (List Int × List Int) := ps.map fun p => (p.1, p.2.1)
theorem allIs_of {M : Sto.Mp} {ps ps' : List PV} (h : AllOf M ps) (hp : ps'.Perm ps) (hs : ps'.Pairwise (fun a b => ¬ kb b.1 < kb a.1)) : AllIs M (kvs ps') := by
  obtain ⟨h1, h2, h3⟩ := h
  have h3' : ∀ p ∈ ps', IsB p.1 ∧ Sto.look M p.1 = some p.2.1 ∧ p.1.length ≤ maxLen := fun p hm => h3 p (hp.mem_iff.1 hm)
  have hn : (ps'.map (·.1)).Nodup := (hp.map _).nodup_iff.2 h1
  refine ⟨?_, fun q hq => ?_, fun k v hk hv => ?_⟩
  · unfold kvs
    rw [List.pairwise_map]
    have hn2 : ps'.Pairwise (fun a b => a.1 ≠ b.1) := List.pairwise_map.1 hn
    refine (hs.and hn2).imp_of_mem ?_
    rintro a b ha hb ⟨h4, h5⟩
    by_cases h : kb a.1 < kb b.1
    · exact h
    · exact (h5 (kb_inj (h3' a ha).1 (h3' b hb).1 (List.le_antisymm (List.not_lt.1 h4) (List.not_lt.1 h)))).elim
  · obtain ⟨p, hm, rfl⟩ := List.mem_map.1 hq
    exact h3' p hm
  · obtain ⟨p, hm, he⟩ := List.mem_map.1 ((h2 k hk).2 ⟨v, hv⟩)
    refine List.mem_map.2 ⟨p, hp.mem_iff.2 hm, ?_⟩
    have := (h3 p hm).2.1
    rw [he, hv] at this
    rw [he]
    exact congrArg _ (Option.some.inj this).symm
/-- All that a store holds, in memory of the call's own. -/
def AllPost11 (w : World) (M : Sto.Mp) : Value → World → Prop := fun v w' => Keeps (fun _ => False) w w' ∧ ∃ ps : List PV, ps.length ≤ 1000000000 ∧ AllIs M (kvs ps) ∧ PairRow w' w.heap.size v ps
attribute [local go_sem] Oper.semAt_some
theorem infoPair : (Try.prog.info? 60).map (fun i => (i.zero, i.size, i.bytes)) = some (some (.agg #[.string ⟨#[]⟩, .slice none 0 0]), 2, 40) := by kernel_rfl
set_option maxRecDepth 100000 in
set_option maxHeartbeats 4000000 in
theorem all_c {w : World} {x bm nn : Nat} {R : Nat → Prop} {lv : Value} {q : Int} {s : Sto.Mp × Int} (h : SIs w x bm R lv q nn s) (hR : ∀ j, R j → j < w.heap.size) (hN : nn ≤ 1000000000) : Calls Try.prog 28 #[.pointer (some ⟨x, 0, none⟩)] w (Rets (AllPost11 w s.1)) := by
  refine (callsIn_wide (n := 6)).1 ?_
  refine callsIn_of_wp_marks Try.func28 rfl trivial ?_ rfl
  simp only [Try.ntmps28, List.size_toArray, List.length_cons, List.length_nil, Nat.reduceAdd, Nat.reduceSub, Array.replicate_succ, Array.replicate_zero, List.push_toArray, List.append_toArray, List.nil_append, List.cons_append]
  gi_wp2_with (first
    | (refine ⟨trivial, ?_⟩; gi_at_call 56; refine (pairs_in _ _ _).mono ?_; rintro e w' ⟨rfl, rfl⟩)
    | gi_in)
  have hz := h.lt
  obtain ⟨w2, hw2⟩ : ∃ w2, w2 = (w.alloc (.cells #[.slice none 0 0] 57)).alloc (.cells #[.pointer (some ⟨x, 0, none⟩)] 50) := ⟨_, rfl⟩
  rw [← hw2]
  have HW2 := Lib.hid hw2
  obtain ⟨hb1, hb2, hk2, hz2⟩ := alloc2 hw2
  obtain ⟨i0, hi, hi0, hi1, hi2⟩ := info_parts infoPair
  clear hw2
  refine wp_range_pairs (by decide) (w.heap.size + 1) x bm nn w.heap.size R s.1 rfl (cell_of_row w2 _ 0 _ _ _ hb2) (hk2.cell h.c3 (fun h => h)) (h.map.kept hk2 (fun h => h) (fun _ _ h => h)) hR hz.2 (by omega) hN
    (fun pre A => ∃ v, Boxed A w.heap.size 57 v ∧ PairRow A (w.heap.size + 5) v pre ∧ (pre = [] → v = .slice none 0 0))
    (fun pre A B hI hk => by
      obtain ⟨v, h1, h2, h3⟩ := hI
      exact ⟨v, boxed_keeps h1 hk (fun e => by omega), h2.kept hk (fun k hk e => by omega), h3⟩)
    ⟨.slice none 0 0, hb1, PairRow.nil _ _, fun _ => rfl⟩
    (fun key v => { tmps := #[.pointer (some ⟨x, 0, none⟩), undef, .slice none 0 0, .pointer (some ⟨w.heap.size, 0, none⟩), .string (str key), v, .pointer (some ⟨x, 0, none⟩), .bool false, .pointer (some ⟨x, 0, none⟩), .func (.func 76) #[] #[.pointer (some ⟨w.heap.size + 1, 0, none⟩)], .string (str key), v, undef, undef, undef, undef, undef, undef, undef, undef, undef], defers := [] }) ?assign ?body ?done
  case assign =>
    intro l key v W K hK
    gi_wp2
    exact hK
  case body =>
    intro l pre key val v C b hI hb hbC hO hkB hvl hpl
    obtain ⟨v0, hbx, hrow, hnil⟩ := hI
    obtain ⟨Av, cv, rfl, _⟩ := hO.slice
    have hc0 := hbx.cell
    obtain ⟨A0, c0, rfl, _⟩ := (rowOwn hrow.row).slice
    have HRow := Lib.hid hrow
    have HBx := Lib.hid hbx
    have HO := Lib.hid hO
    clear hrow hbx hO hnil
    gi_wp2_with (first
      | (gi_at_builtin; go_loud (refine wpListIn_append_own _ rfl _ _ 57 rfl (w.heap.size + 5) 60 i0 _ 2 40 Try.underlying57 hi hi0 hi1 hi2 rfl (by decide) (.slice A0 pre.length c0) pre.length (pairCells pre) rfl (HRow.out.row.alloc _) ⟨C.heap.size, 0, none⟩ 1 1 [.string (str key), .slice Av val.length cv] rfl rfl (fun j u hu => by rw [Addr.add_mid, Nat.zero_add]; exact (cell_of_row _ _ j _ _ _ (heap_alloc_new C (.cells [.string (str key), .slice Av val.length cv].toArray 60))).trans (by simpa using hu)) (by intro u hu; simp only [List.mem_cons, List.not_mem_nil, or_false] at hu; rcases hu with rfl | rfl <;> rfl) (by simp only [maxLen]; omega) (by omega) (by simp; omega) ?_); intro v' w1 hown' hgrow _; obtain ⟨g', cap', rfl⟩ := ownsRow_succ hown'; have hka := keeps_grown hgrow; have hbx1 : Boxed w1 w.heap.size 57 (.slice A0 pre.length c0) := boxed_keeps (HBx.out.alloc _) hka (fun e => box_ne HRow.out.row HBx.out (by decide) _ e rfl); have hc1 := hbx1.cell; have hf1 := hbx1.frozen)
      | gi_in)
    have hkC : Keeps (fun _ => False) C (C.alloc (.cells #[.string (str key), .slice Av val.length cv] 60)) := (Keeps.refl _ C).alloc _
    have hks := keeps_grown (grownBy_setCell' w1 w.heap.size (.slice (some ⟨g', 0, none⟩) (pre.length + 1) cap'))
    have hP1 := PairRow.push (HRow.out.kept hkC (fun _ _ h => h)) ((HO.out.mono (ok' := fun j => w.heap.size + 5 ≤ j) (fun j _ h => by omega)).kept hkC (fun _ _ h => h)) hka hown'
    have hA0 : ∀ k, (Value.slice A0 pre.length c0).ownBlock = some k → w.heap.size + 5 ≤ k := fun k e => (HRow.out.row.lt k e).1
    refine ⟨⟨_, hbx1.set _, hP1.kept hks (fun k hk e => by cases e; omega)⟩, ?_⟩
    refine (((hkC.mono (S' := fun j => w.heap.size ≤ j ∧ ¬ (w2.heap.size ≤ j ∧ j ≤ w2.heap.size + 2)) (fun _ _ h => h.elim)).trans (hka.mono (S' := fun j => w.heap.size ≤ j ∧ ¬ (w2.heap.size ≤ j ∧ j ≤ w2.heap.size + 2)) (fun k _ e => by have := hA0 k e; omega)) (fun _ _ h => h)).trans (hks.mono (S' := fun j => w.heap.size ≤ j ∧ ¬ (w2.heap.size ≤ j ∧ j ≤ w2.heap.size + 2)) (fun k _ e => by cases e; omega)) (fun _ _ h => h)).mono (fun j _ h => ⟨h.1, fun h2 => by omega⟩)
  case done =>
    intro ps W' hA hI hk hd
    obtain ⟨v, hbx, hrow, hnil⟩ := hI
    obtain ⟨A0, c0, rfl, _⟩ := (rowOwn hrow.row).slice
    have hc0 := hbx.cell
    have HS := Lib.hid (sort_c hrow (by omega) hnil)
    have HBx := Lib.hid hbx
    have HA := Lib.hid hA
    have HK := Lib.hid hk
    have HD := Lib.hid hd
    have hlenA := hA.1
    clear hrow hbx hnil hA hk hd
    gi_wp2_with (first
      | (refine ⟨trivial, ?_⟩; gi_at_call 57; refine callsIn_wide.2 (Rets.use HS.out ?_); rintro v' w3 ⟨ps', hp, hs, hrow3, hk3⟩; have hbx3 := boxed_keeps HBx.out hk3 (fun e => by omega); have hc3 := hbx3.cell; have HD3 := hk3.heap HD.out (fun e => by omega))
      | gi_in)
    have hl3 : ps'.length = ps.length := hp.length_eq
    rw [hz2] at HD3
    have hke := keeps_putObj w3 (w.heap.size + 2) (.deferred none)
    refine ⟨by simp, .inl ⟨_, _, rfl, run_takeDeferred HD3, ?_⟩⟩
    refine ⟨_, results_tmp rfl _ _ _, ?_⟩
    have hsl : (Value.slice A0 ps.length c0) = .slice A0 ps'.length c0 := by rw [hl3]
    refine ⟨?_, ps', by omega, allIs_of HA.out.2 hp hs, ?_⟩
    · exact ((((hk2.mono (S' := fun j => w.heap.size ≤ j) (fun _ _ h => h.elim)).trans HK.out (fun _ _ h => h)).trans (hk3.mono (S' := fun j => w.heap.size ≤ j) (fun j _ h => by omega)) (fun _ _ h => h)).trans (hke.mono (S' := fun j => w.heap.size ≤ j) (fun j _ e => by omega)) (fun _ _ h => h)).mono (fun j hj h => by omega)
    · have hr4 := hrow3.kept hke (fun j h e => by omega)
      refine ⟨ownRow_base ((rowOwn hr4.row).mono (fun j _ h => by omega)), fun p hp => (hr4.val p hp).mono (fun j _ h => by omega)⟩
end Go.Proofs.Ytbiohidelhfaiaa
end

section
namespace Go.Proofs.Ytbiohidelhfaiaa
open Go.RowKit Go.Canon Go.Mem
set_option linter.unusedVariables false
set_option linter.unusedSimpArgs false
abbrev KV := List Int × List Int
def PCells (w : World) (ok : Nat → Prop) (b o : Nat) (d : KV) : Prop := ∃ u, w.cell? ⟨b, o, none⟩ = some (.string (str d.1)) ∧ w.cell? ⟨b, o + 1, none⟩ = some u ∧ Rd w ok u d.2.length (Disk.bytes8 d.2)
/-- The pairs lie there. -/
def Pairs (w : World) (ok : Nat → Prop) (v : Value) (l : List KV) : Prop := ∃ A c, v = .slice A l.length c ∧ l.length ≤ c ∧ (A = none → c = 0) ∧ ∀ (i : Nat) (d : KV), l[i]? = some d → ∃ b o, A = some ⟨b, o, none⟩ ∧ ok b ∧ PCells w ok b (o + i * 2) d
theorem Pairs.kept {w w' : World} {ok S : Nat → Prop} {v : Value} {l : List KV} (h : Pairs w ok v l) (hk : Keeps S w w') (hn : ∀ k, ok k → ¬ S k) : Pairs w' ok v l := by
  obtain ⟨A, c, h1, h2, h3, h4⟩ := h
  refine ⟨A, c, h1, h2, h3, fun i d hi => ?_⟩
  obtain ⟨b, o, e, hb, u, c0, c1, hr⟩ := h4 i d hi
  exact ⟨b, o, e, hb, u, hk.cell c0 (hn b hb), hk.cell c1 (hn b hb), hr.kept hk hn⟩
theorem Pairs.mono {w : World} {ok ok' : Nat → Prop} {v : Value} {l : List KV} (h : Pairs w ok v l) (ho : ∀ k, ok k → ok' k) : Pairs w ok' v l := by
  obtain ⟨A, c, h1, h2, h3, h4⟩ := h
  refine ⟨A, c, h1, h2, h3, fun i d hi => ?_⟩
  obtain ⟨b, o, e, hb, u, c0, c1, hr⟩ := h4 i d hi
  exact ⟨b, o, e, ho b hb, u, c0, c1, hr.mono ho⟩
theorem Pairs.nil (w : World) (ok : Nat → Prop) : Pairs w ok (.slice none 0 0) [] := ⟨none, 0, rfl, Nat.le_refl _, fun _ => rfl, fun i d h => by simp at h⟩
/-- Pairs whose texts are bytes, not too many. -/
def PB (l : List KV) : Prop := ∀ p ∈ l, IsB p.1 ∧ IsB p.2 ∧ p.1.length ≤ 1000000 ∧ p.2.length ≤ 1000000
theorem pairCells_at : ∀ (ps : List PV) (i : Nat) (p : PV), ps[i]? = some p → ∀ j, j < 2 → (pairCells ps)[i * 2 + j]? = [Value.string (str p.1), p.2.2][j]? := by
  intro ps
  induction ps with
  | nil => intro i p h; simp at h
  | cons q ps ih =>
    intro i p h j hj
    have e : pairCells (q :: ps) = [.string (str q.1), q.2.2] ++ pairCells ps := by simp [pairCells]
    rw [e]
    cases i with
    | zero =>
      simp only [List.getElem?_cons_zero, Option.some.injEq] at h
      subst h
      rw [Nat.zero_mul, Nat.zero_add, List.getElem?_append_left (by simp; omega)]
    | succ i =>
      simp only [List.getElem?_cons_succ] at h
      rw [List.getElem?_append_right (by simp; omega), ← ih i p h j hj]
      congr 1
      simp; omega
/-- A value: read of old, or of one's own. -/
def PVal (w : World) (n0 : Nat) (ok : Nat → Prop) (p : PV) : Prop := Rd w ok p.2.2 p.2.1.length (Disk.bytes8 p.2.1) ∨ OwnRow w (fun j => n0 ≤ j) 5 1 p.2.2 p.2.1.length (Disk.bytes8 p.2.1)
theorem PVal.kept {w w' : World} {n0 : Nat} {ok S : Nat → Prop} {p : PV} (h : PVal w n0 ok p) (hk : Keeps S w w') (h1 : ∀ k, ok k → ¬ S k) (h2 : ∀ k, n0 ≤ k → ¬ S k) : PVal w' n0 ok p := h.imp (fun h => h.kept hk h1) (fun h => h.kept hk h2)
theorem PVal.rd {w : World} {n0 : Nat} {ok : Nat → Prop} {p : PV} (h : PVal w n0 ok p) : Rd w (fun j => ok j ∨ n0 ≤ j) p.2.2 p.2.1.length (Disk.bytes8 p.2.1) := h.elim (fun h => h.mono (fun _ h => .inl h)) (fun h => h.rd.mono (fun _ h => .inr h))
theorem PVal.slice {w : World} {n0 : Nat} {ok : Nat → Prop} {p : PV} (h : PVal w n0 ok p) : ∃ A c, p.2.2 = .slice A p.2.1.length c := by
  obtain ⟨A, c, e, _⟩ := h.rd.slice
  exact ⟨A, c, e⟩
/-- A row of pairs of one's own; the values are old ones or one's own. -/
structure PRow (w : World) (n0 : Nat) (ok : Nat → Prop) (v : Value) (ps : List PV) : Prop where
  row : w.ownsRow n0 60 2 v ps.length (pairCells ps)
  val : ∀ p ∈ ps, PVal w n0 ok p
theorem PRow.nil (w : World) (n0 : Nat) (ok : Nat → Prop) : PRow w n0 ok (.slice none 0 0) [] := ⟨World.ownsRow_nil w n0 _ _, fun p hp => by cases hp⟩
theorem PRow.kept {w w' : World} {n0 : Nat} {ok S : Nat → Prop} {v : Value} {ps : List PV} (h : PRow w n0 ok v ps) (hk : Keeps S w w') (h1 : ∀ k, ok k → ¬ S k) (h2 : ∀ k, n0 ≤ k → ¬ S k) : PRow w' n0 ok v ps :=
  ⟨row_kept h.row hk (fun k e => h2 k (h.row.lt k e).1), fun p hp => (h.val p hp).kept hk h1 h2⟩
theorem PRow.slice {w : World} {n0 : Nat} {ok : Nat → Prop} {v : Value} {ps : List PV} (h : PRow w n0 ok v ps) : ∃ A c, v = .slice A ps.length c ∧ ps.length ≤ c := by
  obtain ⟨A, c, e, h, _⟩ := (rowOwn h.row).slice
  exact ⟨A, c, e, h⟩
theorem PRow.pairs {w : World} {n0 : Nat} {ok : Nat → Prop} {v : Value} {ps : List PV} (h : PRow w n0 ok v ps) : Pairs w (fun j => ok j ∨ n0 ≤ j) v (kvs ps) := by
  have hro := rowOwn h.row
  obtain ⟨A, c, rfl, hc, _, hz⟩ := hro.slice
  have hl : (kvs ps).length = ps.length := by simp [kvs]
  refine ⟨A, c, by rw [hl], by rw [hl]; exact hc, fun e => (hz e).2, fun i d hi => ?_⟩
  unfold kvs at hi
  rw [List.getElem?_map] at hi
  cases hp : ps[i]? with
  | none => rw [hp] at hi; cases hi
  | some p =>
    rw [hp] at hi
    simp only [Option.map_some, Option.some.injEq] at hi
    subst hi
    have hil : i < ps.length := (List.getElem?_eq_some_iff.1 hp).1
    obtain ⟨g, cap, cur, e, hg, hb, _⟩ := hro.form (by omega)
    cases e
    have hcell := fun j (hj : j < 2) (x : Value) (hx : [Value.string (str p.1), p.2.2][j]? = some x) => hro.cells (g := g) (m := ps.length) (c := c) rfl (i * 2 + j) x (by rw [pairCells_at ps i p hp j hj]; exact hx)
    refine ⟨g, 0, rfl, .inr hg, p.2.2, ?_, ?_, (h.val p (List.mem_of_getElem? hp)).rd⟩
    · have := hcell 0 (by decide) _ rfl
      rwa [Nat.add_zero, ← Nat.zero_add (i * 2)] at this
    · have := hcell 1 (by decide) _ rfl
      rwa [← Nat.zero_add (i * 2)] at this
theorem PairRow.prow {w : World} {n0 : Nat} {v : Value} {ps : List PV} (h : PairRow w n0 v ps) : PRow w n0 (fun _ => False) v ps := ⟨h.row, fun p hp => .inr (h.val p hp)⟩
theorem PairRow.pairs {w : World} {n0 : Nat} {v : Value} {ps : List PV} (h : PairRow w n0 v ps) : Pairs w (fun j => n0 ≤ j) v (kvs ps) := h.prow.pairs.mono (fun _ h => h.elim (fun h => h.elim) (fun h => h))
section
variable {ops : Array Oper} {op : Oper} {rest : List Oper} {a : Act} {w : World} {Q : Exit → Act → World → Prop}
/-- append(l, p): the pair lies in a block by itself. -/
theorem step_ppush {n0 : Nat} {ok : Nat → Prop} (hgd : Region.wanted op (yielded ops a.tmps) = true) (s x : Operand) (ho : op.op = .call { callee := .builtin .append, args := #[s, x], argTypes := #[57, 57] })
    (v : Value) (ps : List PV) (hs : a.eval s = v) (h : PRow w n0 ok v ps) (hok : ∀ j, ok j → j < n0) (hn0 : n0 ≤ w.heap.size) (p : PV) (b : Nat) (hx : a.eval x = .slice (some ⟨b, 0, none⟩) 1 1) (hb : w.heap[b]? = some (.cells [Value.string (str p.1), p.2.2].toArray 60 (0, 0))) (hp : PVal w n0 ok p) (hn : ps.length ≤ 1000000000)
    (k : ∀ v' w', PRow w' n0 ok v' (ps ++ [p]) → Keeps (fun j => n0 ≤ j) w w' → wpList Try.prog ops Q rest (a.put op.dst v') w') : wpList Try.prog ops Q (op :: rest) a w := by
  obtain ⟨Au, cu, hu⟩ := hp.slice
  have h2' : OwnRow w (fun j => v.ownBlock = some j) 60 2 v ps.length (pairCells ps) := ⟨(rowOwn h.row).1, fun j hj => hj⟩
  refine step_append hgd s x 57 ho 60 _ 2 40 Try.underlying57 infoPair rfl (by decide) v ps.length (pairCells ps) hs h2' b 0 1 1 [.string (str p.1), p.2.2] hx rfl (fun j y hy => by rw [cell_of_row w b _ _ _ _ hb, Nat.zero_add]; simpa using hy) (by intro y hy; rw [hu] at hy; simp only [List.mem_cons, List.not_mem_nil, or_false] at hy; rcases hy with rfl | rfl <;> rfl) (by simp only [maxLen]; omega) (by omega) (fun v' w' h5 h6 _ => k v' w' ⟨?_, fun q hq => ?_⟩ (h6.mono (fun j _ e => (h.row.lt j e).1)))
  · have e : pairCells (ps ++ [p]) = pairCells ps ++ [.string (str p.1), p.2.2] := by unfold pairCells; rw [List.flatMap_append]; simp
    rw [e, List.length_append]
    exact ownRow_base (h5.mono (fun j _ e => e.elim (fun e => (h.row.lt j e).1) (fun e => by omega)))
  · have hgen : ∀ q : PV, PVal w n0 ok q → PVal w' n0 ok q := fun q hq => by
      rcases hq with hq | hq
      · exact .inl (hq.kept h6 (fun j hj e => by have := hok j hj; have := (h.row.lt j e).1; omega))
      · have h8 : OwnRow w (fun j => n0 ≤ j ∧ q.2.2.ownBlock = some j) 5 1 q.2.2 q.2.1.length (Disk.bytes8 q.2.1) := ⟨hq.1, fun j hj => ⟨hq.2 j hj, hj⟩⟩
        exact .inr ((h8.kept h6 (fun j hj e => own_ne h.row hq j e hj.2)).mono (fun _ _ h => h.1))
    rcases List.mem_append.1 hq with hq | hq
    · exact hgen q (h.val q hq)
    · rw [List.mem_singleton] at hq; subst hq; exact hgen _ hp
end
theorem row2_pair : (Try.prog.info? 60).map (fun i => (i.zero, i.size)) = some (some (.agg #[.string ⟨#[]⟩, .slice none 0 0]), 2) := by kernel_rfl
theorem info_pair : (Try.prog.info? 60).map (·.size) = some 2 := by kernel_rfl
end Go.Proofs.Ytbiohidelhfaiaa
end

section
namespace Go.Proofs.Ytbiohidelhfaiaa
open Go.Proofs.Ytbiohidelhfaiaa.Sto (Chg)
set_option linter.unusedVariables false
set_option linter.unusedSimpArgs false
def putGo (k v : List Int) : Bool → List KV → List KV
  | dn, [] => if dn = true then [] else [(k, v)]
  | dn, p :: r => (if dn = false ∧ kb k < kb p.1 then [(k, v)] else []) ++ ((if p.1 = k then [] else [p]) ++ putGo k v (dn || decide (kb k < kb p.1)) r)
def putP (l : List KV) (c : Chg) : List KV := putGo c.key c.val c.del l
def doneP (l : List KV) (cs : List Chg) : List KV := cs.foldl putP l
theorem doneP_next (l : List KV) {cs : List Chg} {k : Nat} (h : k < cs.length) : doneP l (cs.take (k + 1)) = putP (doneP l (cs.take k)) cs[k] := by
  unfold doneP
  rw [List.take_add_one, List.getElem?_eq_getElem h, List.foldl_append]; rfl
abbrev Rising (l : List KV) : Prop := l.Pairwise (fun a b => kb a.1 < kb b.1)
theorem putGo_true (k v : List Int) : ∀ l : List KV, putGo k v true l = l.filter (fun p => decide (p.1 ≠ k)) := by
  intro l
  induction l with
  | nil => rfl
  | cons p r ih =>
    rw [putGo, if_neg (by simp), List.nil_append, Bool.true_or, ih]
    by_cases h : p.1 = k
    · rw [if_pos h, List.filter_cons_of_neg (by simpa using h)]; rfl
    · rw [if_neg h, List.filter_cons_of_pos (by simpa using h)]; rfl
theorem kb_tri {a b : List Int} (ha : IsB a) (hb : IsB b) : kb a < kb b ∨ a = b ∨ kb b < kb a := by
  by_cases h1 : kb a < kb b
  · exact .inl h1
  · by_cases h2 : kb b < kb a
    · exact .inr (.inr h2)
    · exact .inr (.inl (kb_inj ha hb (List.le_antisymm (List.not_lt.1 h2) (List.not_lt.1 h1))))
theorem kb_ne {a b : List Int} (h : kb a < kb b) : a ≠ b := fun e => by subst e; exact List.lt_irrefl _ h
theorem rise_filter {l : List KV} (h : Rising l) (k : List Int) : Rising (l.filter (fun p => decide (p.1 ≠ k))) := h.filter _
theorem putGo_mem {k v : List Int} (hk : IsB k) : ∀ l : List KV, Rising l → (∀ p ∈ l, IsB p.1) → Rising (putGo k v false l) ∧ ∀ q, q ∈ putGo k v false l ↔ q = (k, v) ∨ (q ∈ l ∧ q.1 ≠ k) := by
  intro l
  induction l with
  | nil =>
    intro _ _
    refine ⟨List.pairwise_singleton _ _, fun q => ?_⟩
    rw [putGo, if_neg (by simp)]; simp
  | cons p r ih =>
    intro hr hB
    obtain ⟨hp, hr'⟩ := List.pairwise_cons.1 hr
    have hpB := hB p (List.mem_cons_self ..)
    have hrB : ∀ q ∈ r, IsB q.1 := fun q hq => hB q (List.mem_cons_of_mem _ hq)
    rw [putGo]
    by_cases h1 : kb k < kb p.1
    · have hne : p.1 ≠ k := (kb_ne h1).symm
      have hfil : r.filter (fun q => decide (q.1 ≠ k)) = r := List.filter_eq_self.2 (fun q hq => by
        have := List.lt_trans h1 (hp q hq)
        simpa using (kb_ne this).symm)
      rw [if_pos ⟨rfl, h1⟩, if_neg hne, Bool.false_or, decide_eq_true h1, putGo_true, hfil]
      refine ⟨?_, fun q => ?_⟩
      · show Rising ((k, v) :: p :: r)
        refine List.pairwise_cons.2 ⟨fun q hq => ?_, hr⟩
        rcases List.mem_cons.1 hq with rfl | hq
        · exact h1
        · exact List.lt_trans h1 (hp q hq)
      · show q ∈ (k, v) :: p :: r ↔ _
        rw [List.mem_cons]
        constructor
        · rintro (h | h)
          · exact .inl h
          · refine .inr ⟨h, ?_⟩
            rcases List.mem_cons.1 h with rfl | h
            · exact hne
            · exact (kb_ne (List.lt_trans h1 (hp q h))).symm
        · rintro (h | h)
          · exact .inl h
          · exact .inr h.1
    · rw [if_neg (fun h => h1 h.2), List.nil_append, Bool.false_or, decide_eq_false h1]
      obtain ⟨i1, i2⟩ := ih hr' hrB
      by_cases h2 : p.1 = k
      · rw [if_pos h2, List.nil_append]
        refine ⟨i1, fun q => ?_⟩
        rw [i2 q]
        constructor
        · rintro (h | h)
          · exact .inl h
          · exact .inr ⟨List.mem_cons_of_mem _ h.1, h.2⟩
        · rintro (h | h)
          · exact .inl h
          · rcases List.mem_cons.1 h.1 with rfl | h3
            · exact (h.2 h2).elim
            · exact .inr ⟨h3, h.2⟩
      · rw [if_neg h2]
        have h3 : kb p.1 < kb k := by
          rcases kb_tri hpB hk with h | h | h
          · exact h
          · exact (h2 h).elim
          · exact (h1 h).elim
        refine ⟨?_, fun q => ?_⟩
        · show Rising (p :: putGo k v false r)
          refine List.pairwise_cons.2 ⟨fun q hq => ?_, i1⟩
          rcases (i2 q).1 hq with rfl | h
          · exact h3
          · exact hp q h.1
        · show q ∈ p :: putGo k v false r ↔ _
          rw [List.mem_cons, i2 q]
          constructor
          · rintro (rfl | h | h)
            · exact .inr ⟨List.mem_cons_self .., h2⟩
            · exact .inl h
            · exact .inr ⟨List.mem_cons_of_mem _ h.1, h.2⟩
          · rintro (h | h)
            · exact .inr (.inl h)
            · rcases List.mem_cons.1 h.1 with rfl | h4
              · exact .inl rfl
              · exact .inr (.inr ⟨h4, h.2⟩)
/-- What the map holds, by rising keys, behind a change. -/
theorem AllIs.put {M : Sto.Mp} {l : List KV} (h : AllIs M l) {c : Chg} (hk : IsB c.key) (hl : c.key.length ≤ maxLen) : AllIs (Sto.do1 M c) (putP l c) := by
  obtain ⟨h1, h2, h3⟩ := h
  unfold Sto.do1 putP
  cases hd : c.del with
  | true =>
    rw [if_pos rfl, putGo_true]
    refine ⟨rise_filter h1 _, fun p hp => ?_, fun k v hkB hv => ?_⟩
    · obtain ⟨hm, hne⟩ := List.mem_filter.1 hp
      have hne : p.1 ≠ c.key := by simpa using hne
      obtain ⟨a, b, c⟩ := h2 p hm
      exact ⟨a, by rw [Sto.look_del_other M hne]; exact b, c⟩
    · by_cases e : k = c.key
      · subst e; rw [Sto.look_del] at hv; cases hv
      · rw [Sto.look_del_other M e] at hv
        exact List.mem_filter.2 ⟨h3 k v hkB hv, by simpa using e⟩
  | false =>
    rw [if_neg (by simp)]
    obtain ⟨i1, i2⟩ := putGo_mem (v := c.val) hk l h1 (fun p hp => (h2 p hp).1)
    refine ⟨i1, fun p hp => ?_, fun k v hkB hv => ?_⟩
    · rcases (i2 p).1 hp with rfl | ⟨hm, hne⟩
      · exact ⟨hk, Sto.look_put .., hl⟩
      · obtain ⟨a, b, c⟩ := h2 p hm
        exact ⟨a, by rw [Sto.look_put_other M _ hne]; exact b, c⟩
    · by_cases e : k = c.key
      · subst e
        rw [Sto.look_put] at hv
        exact (i2 _).2 (.inl (by rw [Option.some.inj hv]))
      · rw [Sto.look_put_other M _ e] at hv
        exact (i2 _).2 (.inr ⟨h3 k v hkB hv, e⟩)
/-- There is one such list. -/
theorem rise_unique : ∀ (l m : List KV), Rising l → Rising m → (∀ p, p ∈ l ↔ p ∈ m) → l = m := by
  intro l
  induction l with
  | nil =>
    intro m _ _ h
    cases m with
    | nil => rfl
    | cons q m => exact absurd ((h q).2 (List.mem_cons_self ..)) (by simp)
  | cons p l ih =>
    intro m hl hm h
    cases m with
    | nil => exact absurd ((h p).1 (List.mem_cons_self ..)) (by simp)
    | cons q m =>
      obtain ⟨hp, hl'⟩ := List.pairwise_cons.1 hl
      obtain ⟨hq, hm'⟩ := List.pairwise_cons.1 hm
      have e : p = q := by
        rcases List.mem_cons.1 ((h p).1 (List.mem_cons_self ..)) with e | h1
        · exact e
        · rcases List.mem_cons.1 ((h q).2 (List.mem_cons_self ..)) with e | h2
          · exact e.symm
          · exact (List.lt_irrefl _ (List.lt_trans (hp q h2) (hq p h1))).elim
      subst e
      congr 1
      refine ih m hl' hm' (fun x => ?_)
      constructor
      · intro hx
        rcases List.mem_cons.1 ((h x).1 (List.mem_cons_of_mem _ hx)) with e | h1
        · subst e; exact (List.lt_irrefl _ (hp _ hx)).elim
        · exact h1
      · intro hx
        rcases List.mem_cons.1 ((h x).2 (List.mem_cons_of_mem _ hx)) with e | h1
        · subst e; exact (List.lt_irrefl _ (hq _ hx)).elim
        · exact h1
theorem AllIs.mem {M : Sto.Mp} {l : List KV} (h : AllIs M l) (p : KV) : p ∈ l ↔ IsB p.1 ∧ Sto.look M p.1 = some p.2 ∧ p.1.length ≤ maxLen := ⟨h.2.1 p, fun hp => h.2.2 p.1 p.2 hp.1 hp.2.1⟩
theorem AllIs.unique {M : Sto.Mp} {l m : List KV} (h : AllIs M l) (h' : AllIs M m) : l = m := rise_unique l m h.1 h'.1 (fun p => by rw [h.mem, h'.mem])
theorem AllIs.done {M : Sto.Mp} {l : List KV} (h : AllIs M l) : ∀ (cs : List Chg), (∀ c ∈ cs, IsB c.key ∧ c.key.length ≤ maxLen) → AllIs (cs.foldl Sto.do1 M) (doneP l cs) := by
  intro cs
  induction cs generalizing M l with
  | nil => intro _; exact h
  | cons c cs ih =>
    intro hc
    have h1 := hc c (List.mem_cons_self ..)
    exact ih (h.put h1.1 h1.2) (fun d hd => hc d (List.mem_cons_of_mem _ hd))
theorem doF_fst (s : Sto.Mp × Int) (cs : List Chg) : (Sto.doF s cs).1 = cs.foldl Sto.do1 s.1 := by
  unfold Sto.doF
  induction cs generalizing s with
  | nil => rfl
  | cons c cs ih => exact ih _
/-! ### how many bytes -/
def bytesP (l : List KV) : Int := (l.map fun p => (p.1.length : Int) + p.2.length).sum
def costL (k : List Int) (l : List KV) : Int := ((l.filter fun p => decide (p.1 = k)).map fun p => (p.1.length : Int) + p.2.length).sum
theorem putGo_bytes (k v : List Int) : ∀ (l : List KV) (dn : Bool), bytesP (putGo k v dn l) + costL k l = bytesP l + (if dn = true then 0 else (k.length : Int) + v.length) := by
  intro l
  induction l with
  | nil =>
    intro dn
    cases dn <;> simp [putGo, bytesP, costL]
  | cons p r ih =>
    intro dn
    have e1 : ∀ a b : List KV, bytesP (a ++ b) = bytesP a + bytesP b := fun a b => by unfold bytesP; rw [List.map_append, List.sum_append]
    have e2 : bytesP (p :: r) = (p.1.length : Int) + p.2.length + bytesP r := by unfold bytesP; rw [List.map_cons, List.sum_cons]
    rw [putGo, e1, e1, e2]
    have h := ih (dn || decide (kb k < kb p.1))
    have e3 : costL k (p :: r) = (if p.1 = k then (p.1.length : Int) + p.2.length else 0) + costL k r := by
      unfold costL
      by_cases hk : p.1 = k
      · rw [List.filter_cons_of_pos (by simpa using hk), if_pos hk, List.map_cons, List.sum_cons]
      · rw [List.filter_cons_of_neg (by simpa using hk), if_neg hk, Int.zero_add]
    have e4 : bytesP (if p.1 = k then [] else [p]) = if p.1 = k then 0 else (p.1.length : Int) + p.2.length := by
      split <;> simp [bytesP]
    have e5 : bytesP (if dn = false ∧ kb k < kb p.1 then [(k, v)] else []) = if dn = false ∧ kb k < kb p.1 then (k.length : Int) + v.length else 0 := by
      split <;> simp [bytesP]
    rw [e3, e4, e5]
    have hk' : (if p.1 = k then (0 : Int) else (p.1.length : Int) + p.2.length) + (if p.1 = k then (p.1.length : Int) + p.2.length else 0) = (p.1.length : Int) + p.2.length := by split <;> omega
    have hd' : (if dn = false ∧ kb k < kb p.1 then (k.length : Int) + v.length else 0) + (if (dn || decide (kb k < kb p.1)) = true then 0 else (k.length : Int) + v.length) = if dn = true then 0 else (k.length : Int) + v.length := by
      cases dn <;> by_cases hlt : kb k < kb p.1 <;> simp [hlt]
    omega
theorem costL_of {M : Sto.Mp} {l : List KV} (h : AllIs M l) {k : List Int} (hk : IsB k) : costL k l = Sto.costF M k := by
  unfold costL Sto.costF
  cases hL : Sto.look M k with
  | none =>
    have : l.filter (fun p => decide (p.1 = k)) = [] := List.filter_eq_nil_iff.2 (fun p hp => by
      intro e
      have e : p.1 = k := by simpa using e
      have := (h.2.1 p hp).2.1
      rw [e, hL] at this
      cases this)
    rw [this]; rfl
  | some v =>
    have hm := h.2.2 k v hk hL
    have : l.filter (fun p => decide (p.1 = k)) = [(k, v)] := by
      refine rise_unique _ _ (h.1.filter _) (List.pairwise_singleton _ _) (fun p => ?_)
      rw [List.mem_filter, List.mem_singleton]
      constructor
      · rintro ⟨hp, e⟩
        have e : p.1 = k := by simpa using e
        have h2 := (h.2.1 p hp).2.1
        rw [e, hL] at h2
        exact Prod.ext e (Option.some.inj h2).symm
      · rintro rfl
        exact ⟨hm, by simp⟩
    rw [this]; simp
theorem bytes_put {M : Sto.Mp} {l : List KV} (h : AllIs M l) {c : Chg} (hk : IsB c.key) : bytesP (putP l c) = bytesP l - Sto.costF M c.key + Sto.costF (Sto.do1 M c) c.key := by
  have h1 := putGo_bytes c.key c.val l c.del
  rw [costL_of h hk] at h1
  have h2 : Sto.costF (Sto.do1 M c) c.key = if c.del = true then 0 else (c.key.length : Int) + c.val.length := by
    unfold Sto.do1 Sto.costF
    cases c.del with
    | true => rw [if_pos rfl, Sto.look_del]; rfl
    | false => rw [if_neg (by simp), Sto.look_put]; rfl
  unfold putP
  rw [h2]
  omega
theorem bytes_done {M : Sto.Mp} {u : Int} {l : List KV} (h : AllIs M l) (hu : u = bytesP l) : ∀ (cs : List Chg), (∀ c ∈ cs, IsB c.key ∧ c.key.length ≤ maxLen) → (Sto.doF (M, u) cs).2 = bytesP (doneP l cs) := by
  intro cs
  induction cs generalizing M u l with
  | nil => intro _; exact hu
  | cons c cs ih =>
    intro hc
    have h1 := hc c (List.mem_cons_self ..)
    have := ih (M := Sto.do1 M c) (u := u - Sto.costF M c.key + Sto.costF (Sto.do1 M c) c.key) (h.put h1.1 h1.2) (by rw [hu, bytes_put h h1.1]) (fun d hd => hc d (List.mem_cons_of_mem _ hd))
    exact this
end Go.Proofs.Ytbiohidelhfaiaa
end
