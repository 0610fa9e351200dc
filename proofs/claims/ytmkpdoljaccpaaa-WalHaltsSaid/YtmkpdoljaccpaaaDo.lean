/-
  Layer 9: the calls of a statement's input; few, kept, made, all, same.
-/
import Derived.Test.YtmkpdoljaccpaaaDiskL
namespace Go.Proofs.Ytmkpdoljaccpaaa
open Go.RowKit Go.Canon Go.Mem Go.Args
set_option linter.unusedVariables false
set_option linter.unusedSimpArgs false
/-- A call of the input, plainly. -/
structure Do9 where
  kind : Int
  at_ : Int
  b : List Int
  keep : List Bool
def toDo (d : KDo.Dat) : Do9 := ⟨d.1, d.2.1, d.2.2.1, d.2.2.2.1⟩
/-- The cells of a call. -/
def DoCells (W : World) (b o : Nat) (d : Do9) : Prop :=
  ∃ vB vK, W.cell? ⟨b, o, none⟩ = some (.int .i64 d.kind) ∧ W.cell? ⟨b, o + 1, none⟩ = some (.int .i64 d.at_) ∧ W.cell? ⟨b, o + 2, none⟩ = some vB ∧ W.cell? ⟨b, o + 3, none⟩ = some vK ∧
    Rd W (fun k => k < W.heap.size) vB d.b.length (Disk.bytes8 d.b) ∧ d.b.length ≤ maxLen ∧ Rd W (fun k => k < W.heap.size) vK d.keep.length (bools d.keep) ∧ d.keep.length ≤ maxLen ∧ (-9223372036854775808 ≤ d.at_ ∧ d.at_ ≤ 9223372036854775807)
/-- The calls lie there. -/
def Dos (W : World) (v : Value) (l : List Do9) : Prop := ∃ A c, v = .slice A l.length c ∧ l.length ≤ c ∧ c ≤ maxLen ∧ (A = none → c = 0) ∧ ∀ (i : Nat) (d : Do9), l[i]? = some d → ∃ b o, A = some ⟨b, o, none⟩ ∧ b < W.heap.size ∧ DoCells W b (o + i * 4) d
theorem Dos.of {W : World} {v : Value} {l : List KDo.Dat} (h : Has W (.slice KDo) [v] l) : Dos W v (l.map toDo) := by
  obtain ⟨A, c, rfl, h2, h3, h4⟩ := h.len
  refine ⟨A, c, by rw [List.length_map], by rw [List.length_map]; exact h2, h3, h4, fun i d hi => ?_⟩
  rw [List.getElem?_map] at hi
  cases hx : l[i]? with
  | none => rw [hx] at hi; cases hi
  | some x =>
    rw [hx] at hi
    obtain rfl : toDo x = d := by simpa using hi
    have hil : i < l.length := (List.getElem?_eq_some_iff.1 hx).1
    obtain ⟨b, o, c', e, _, _, hb⟩ := h.plain (by decide) (by omega)
    cases e
    obtain ⟨es, h5, h6, h7⟩ := h.elem hx
    obtain ⟨vB, vK, rfl, hB, hK, hw⟩ := do_cells h7
    have hB := hB.bytes
    have hK := hK.bools
    refine ⟨b, o, rfl, hb, vB, vK, ?_, ?_, ?_, ?_, hB.1, hB.2, hK.1, hK.2, i64_le hw⟩
    · have := h6 0 _ rfl; simpa [Kd.sz, toDo] using this
    · have := h6 1 _ rfl; simpa [Kd.sz, Nat.add_assoc, toDo] using this
    · have := h6 2 _ rfl; simpa [Kd.sz, Nat.add_assoc] using this
    · have := h6 3 _ rfl; simpa [Kd.sz, Nat.add_assoc] using this
theorem DoCells.kept {W w : World} {b o : Nat} {d : Do9} (h : DoCells W b o d) (hk : Keeps (fun _ => False) W w) : DoCells w b o d := by
  obtain ⟨vB, vK, h1, h2, h3, h4, h5, h6, h7, h8, h9⟩ := h
  have hs := hk.size
  exact ⟨vB, vK, hk.cell h1 (fun h => h), hk.cell h2 (fun h => h), hk.cell h3 (fun h => h), hk.cell h4 (fun h => h), (h5.kept hk (fun _ _ h => h)).mono (fun k hk => by omega), h6, (h7.kept hk (fun _ _ h => h)).mono (fun k hk => by omega), h8, h9⟩
theorem Dos.kept {W w : World} {v : Value} {l : List Do9} (h : Dos W v l) (hk : Keeps (fun _ => False) W w) : Dos w v l := by
  obtain ⟨A, c, h1, h2, h3, h4, h5⟩ := h
  refine ⟨A, c, h1, h2, h3, h4, fun i d hi => ?_⟩
  obtain ⟨b, o, e, hb, hc⟩ := h5 i d hi
  exact ⟨b, o, e, by have := hk.size; omega, hc.kept hk⟩
theorem Dos.front {W : World} {A : Option Addr} {n c : Nat} {l : List Do9} (h : Dos W (.slice A n c) l) (m : Nat) (hm : m ≤ l.length) : Dos W (.slice A m c) (l.take m) := by
  obtain ⟨A', c', h1, h2, h3, h4, h5⟩ := h
  cases h1
  refine ⟨A, c, by rw [List.length_take, Nat.min_eq_left hm], by rw [List.length_take]; omega, h3, h4, fun i d hi => h5 i d ?_⟩
  rw [List.getElem?_take] at hi
  split at hi
  · exact hi
  · cases hi
/-- The value's calls; the world as it was. -/
def IsDos (W : World) (l : List Do9) (w : World) : Value → World → Prop := fun v' w' => w = w' ∧ Dos W v' l
theorem few_c {W w : World} {v : Value} {l : List Do9} (h : Dos W v l) : Calls Try.prog 21 #[v] w (Rets (IsDos W (l.take 150) w)) := by
  obtain ⟨A, c, rfl, h2, h3, h4, _⟩ := id h
  by_cases hn : 150 < l.length
  · have HR := Lib.hid (h.front 150 (by omega))
    clear h
    go_enter Try.func21, Try.ntmps21
    go_wp2
    go_ret
    exact ⟨rfl, HR.out⟩
  · have HR := Lib.hid (show Dos W (.slice A l.length c) (l.take 150) by rw [List.take_of_length_le (by omega)]; exact h)
    clear h
    go_enter Try.func21, Try.ntmps21
    go_wp2
    go_ret
    exact ⟨rfl, HR.out⟩
theorem Rd.front1 {w : World} {ok : Nat → Prop} {A : Option Addr} {n c : Nat} {cs : List Value} (h : Rd w ok (.slice A n c) n cs) (hl : cs.length = n) (m : Nat) (hm : m ≤ n) : Rd w ok (.slice A m c) m (cs.take m) := by
  have := Rd.front h m 1 hm (by rw [hl, Nat.mul_one]); rwa [Nat.mul_one] at this
theorem kept_c {W : World} {ok : Nat → Prop} {v : Value} {l : List Bool} (h : Rd W ok v l.length (bools l)) : Calls Try.prog 18 #[v] W (Rets (Reads ok (l.take 300).length (bools (l.take 300)) W)) := by
  obtain ⟨A, c, rfl, h2, h3⟩ := h.slice
  by_cases hn : 300 < l.length
  · have HR := Lib.hid (show Rd W ok (.slice A 300 c) (l.take 300).length (bools (l.take 300)) by
      have := Rd.front1 h (by simp [bools]) 300 (by omega)
      rw [List.length_take, Nat.min_eq_left (by omega)]
      unfold bools at *
      rwa [List.map_take])
    clear h
    go_enter Try.func18, Try.ntmps18
    go_wp2
    go_ret
    exact ⟨HR.out, rfl⟩
  · have HR := Lib.hid (show Rd W ok (.slice A l.length c) (l.take 300).length (bools (l.take 300)) by rw [List.take_of_length_le (by omega)]; exact h)
    clear h
    go_enter Try.func18, Try.ntmps18
    go_wp2
    go_ret
    exact ⟨HR.out, rfl⟩

/-! ### made -/
/-- What a call does to a disk. -/
def call1 (s : Disk.St) (d : Do9) : Disk.St :=
  if d.kind = 0 then (s.write (least d.at_ 0 7) (d.b.take 64)).2 else if d.kind = 1 then s.sync.2 else if d.kind = 3 then s.crash [] else s
def run (s : Disk.St) (l : List Do9) : Disk.St := l.foldl call1 s
theorem write_few (s : Disk.St) (i : Int) (b : List Int) : (s.write i b).2.opn.length ≤ s.opn.length + 1 := by
  unfold Disk.St.write Disk.St.step
  split
  · simp
  · split
    · simp
    · split <;> split <;> (try split) <;> simp_all
theorem sync_few (s : Disk.St) : s.sync.2.opn.length ≤ s.opn.length := by
  unfold Disk.St.sync Disk.St.step
  split
  · simp
  · split <;> split <;> (try split) <;> simp_all
theorem call1_few (s : Disk.St) (d : Do9) : (call1 s d).opn.length ≤ s.opn.length + 1 := by
  unfold call1
  split
  · exact write_few _ _ _
  · split
    · have := sync_few s; omega
    · split
      · simp [Disk.St.crash]
      · omega
theorem run_few (s : Disk.St) (l : List Do9) : (run s l).opn.length ≤ s.opn.length + l.length := by
  unfold run
  induction l generalizing s with
  | nil => simp
  | cons x r ih => rw [List.foldl_cons, List.length_cons]; have := ih (call1 s x); have := call1_few s x; omega
theorem run_take (s : Disk.St) (l : List Do9) (k : Nat) (d : Do9) (h : l[k]? = some d) : run s (l.take (k + 1)) = call1 (run s (l.take k)) d := by
  unfold run
  rw [List.take_add_one, h, List.foldl_append]; rfl
/-- A new disk that the calls have been done at. -/
def Made (W : World) (l : List Do9) : Value → World → Prop := fun v w => Keeps (fun _ => False) W w ∧ ∃ g, v = .pointer (some ⟨g, 0, none⟩) ∧ DIs w (fun k => W.heap.size ≤ k ∧ k < w.heap.size) g (run (fresh 8) l)
/-- The disk, on its way. -/
def MadeAt (W : World) (g : Nat) (s : Disk.St) (wr : World) : Prop := Keeps (fun _ => False) W wr ∧ DIs wr (fun k => W.heap.size ≤ k) g s
theorem MadeAt.post {W wr w' : World} {g : Nat} {s s' : Disk.St} {v v' : Value} (h : MadeAt W g s wr) (hp : DPost wr (fun k => W.heap.size ≤ k) g v s' v' w') : v' = v ∧ MadeAt W g s' w' :=
  ⟨hp.1, h.1.trans hp.2.2 (fun k hk hh => by omega), hp.2.1.wide (fun k hk => by have := h.1.size; omega)⟩
theorem least_in (n : Int) : 0 ≤ least n 0 7 ∧ least n 0 7 ≤ 7 := by unfold least; split <;> (try split) <;> omega
set_option maxHeartbeats 1600000 in
theorem made09_c {W : World} {v : Value} {l : List Do9} (h : Dos W v l) : Calls Try.prog 13 #[v] W (Rets (Made W (l.take 150))) := by
  have HH := Lib.hid h
  clear h
  go_enter Try.func13, Try.ntmps13
  go_wp2_with (first
    | (go_at_call 30; refine Rets.use (dNew_c 8 (by decide) (by decide) _) ?_; rintro v1 w1 ⟨hk1, g, rfl, hd1⟩)
    | (go_at_call 21; go_loud (refine Rets.use (few_c HH.out) ?_; rintro v2 w2 ⟨rfl, hl⟩)))
  obtain ⟨B, c, rfl, hc1, hc2, _, hin⟩ := id hl
  have HIn := Lib.hid hin
  have hm := Lib.hid (show (l.take 150).length ≤ 150 by rw [List.length_take]; omega)
  generalize l.take 150 = m at *
  have hm := hm.out
  have HD := Lib.hid (show MadeAt W g (run (fresh 8) (m.take 0)) w1 from ⟨hk1, hd1.wide (fun k hk => hk.1)⟩)
  have HF := Lib.hid (show (fresh 8).opn.length = 0 from rfl)
  clear hl hin hd1 hk1 HH
  go_loopw [5] (fun i wr => ∃ k : Nat, k ≤ m.length ∧ i = .int .i64 k ∧ MadeAt W g (run (fresh 8) (m.take k)) wr) (fun i _ => m.length - (intOf i).toNat)
  case atStart => exact ⟨0, Nat.zero_le _, rfl, HD.out⟩
  case round =>
    obtain ⟨k, hk, rfl, hat⟩ := hrel
    have HK := Lib.hid hat.1
    by_cases hlt : k < m.length
    · have few : (run (fresh 8) (m.take k)).opn.length ≤ 1000000 := by have := run_few (fresh 8) (m.take k); rw [List.length_take] at this; have := HF.out; omega
      have HS := Lib.hid (run_take (fresh 8) m k _ (List.getElem?_eq_getElem hlt))
      obtain ⟨b, o, e, hb, vB, vK, c0, c1, c2, _, rB, lB, _⟩ := HIn.out k _ (List.getElem?_eq_getElem hlt)
      cases e
      generalize run (fresh 8) (m.take k) = s at *
      generalize m[k] = d at *
      have c0 := HK.out.cell c0 (fun h => h)
      have c1 := HK.out.cell c1 (fun h => h)
      have c2 := HK.out.cell c2 (fun h => h)
      obtain ⟨z1, z2⟩ := least_in d.at_
      have HRB := Lib.hid (rB.kept HK.out (fun _ _ h => h))
      clear rB
      have hs1 := hat.1.size
      have lt : (d.b.take 64).length ≤ 9223372036854775807 := by rw [List.length_take]; omega
      by_cases k0 : d.kind = 0
      · have HC := Lib.hid (show call1 s d = (s.write (least d.at_ 0 7) (d.b.take 64)).2 by unfold call1; rw [if_pos k0])
        rw [k0] at c0
        go_wp2_with (first
          | (go_at_call 22; refine Rets.use (least_c d.at_ 0 7 _) ?_; rintro v1 w1 ⟨rfl, rfl⟩)
          | (go_at_call 24; refine Rets.use (cut_c vB d.b HRB.out 64) ?_; rintro vC w1 ⟨hC, rfl⟩; have HC2 := Lib.hid hC)
          | (go_at_call 25; refine Rets.use (dWrite_c hat.2 _ vC _ HC2.out (fun k h1 h2 => by omega) lt few) ?_; intro v1 w1 hp; obtain ⟨rfl, hp2⟩ := hat.post hp))
        go_roundw
        case rel => exact ⟨k + 1, by omega, by go_num, by rw [HS.out, HC.out]; exact hp2⟩
        case measure => simp [intOf]; omega
      · by_cases k1 : d.kind = 1
        · have HC := Lib.hid (show call1 s d = s.sync.2 by unfold call1; rw [if_neg k0, if_pos k1])
          rw [k1] at c0
          go_wp2_with (first
            | (go_at_call 22; refine Rets.use (least_c d.at_ 0 7 _) ?_; rintro v1 w1 ⟨rfl, rfl⟩)
            | (go_at_call 14; refine Rets.use (dSync_c hat.2 few) ?_; intro v1 w1 hp; obtain ⟨rfl, hp2⟩ := hat.post hp))
          go_roundw
          case rel => exact ⟨k + 1, by omega, by go_num, by rw [HS.out, HC.out]; exact hp2⟩
          case measure => simp [intOf]; omega
        · by_cases k3 : d.kind = 3
          · have HC := Lib.hid (show call1 s d = s.crash [] by unfold call1; rw [if_neg k0, if_neg k1, if_pos k3])
            rw [k3] at c0
            go_wp2_with (first
              | (go_at_call 22; refine Rets.use (least_c d.at_ 0 7 _) ?_; rintro v1 w1 ⟨rfl, rfl⟩)
              | (go_at_call 17; refine Rets.use (dCrash_c hat.2 few _ [] (Rd.nil _ (fun _ => False)) (fun _ h => h.elim) (by decide)) ?_; intro v1 w1 hp; obtain ⟨rfl, hp2⟩ := hat.post hp))
            go_roundw
            case rel => exact ⟨k + 1, by omega, by go_num, by rw [HS.out, HC.out]; exact hp2⟩
            case measure => simp [intOf]; omega
          · have HC := Lib.hid (show call1 s d = s by unfold call1; rw [if_neg k0, if_neg k1, if_neg k3])
            go_wp2_with (first
              | (go_at_call 22; refine Rets.use (least_c d.at_ 0 7 _) ?_; rintro v1 w1 ⟨rfl, rfl⟩))
            go_roundw
            case rel => exact ⟨k + 1, by omega, by go_num, by rw [HS.out, HC.out]; exact hat⟩
            case measure => simp [intOf]; omega
    · have HE := Lib.hid (show m.take k = m by rw [List.take_of_length_le (by omega)])
      go_wp2
      go_ret
      exact ⟨hat.1, g, rfl, by rw [← HE.out]; exact hat.2.bound⟩

/-! ### all bytes of a disk -/
theorem row_bytes : (Try.prog.info? 38).map (fun i => (i.zero, i.size, i.bytes)) = some (some (.slice none 0 0), 1, 24) := by kernel_rfl
theorem row2_bytes : (Try.prog.info? 38).map (fun i => (i.zero, i.size)) = some (some (.slice none 0 0), 1) := by kernel_rfl
/-- Rows of bytes, each in a block of its own or none's. -/
def BytesRows (W w : World) (v : Value) (ls : List (List Int)) : Prop := ∃ vs, OwnRow w (fun k => W.heap.size ≤ k) 38 1 v ls.length vs ∧ ∀ (i : Nat) (l : List Int), ls[i]? = some l → ∃ u, vs[i]? = some u ∧ Rd w (fun k => W.heap.size ≤ k ∧ k < w.heap.size ∧ v.ownBlock ≠ some k) u l.length (Disk.bytes8 l)
theorem Rd.one {w : World} {ok : Nat → Prop} {v : Value} {n : Nat} {cs : List Value} (h : Rd w ok v n cs) : v.oneCell' = true := by
  obtain ⟨A, c, rfl, _⟩ := h.slice; rfl
/-- A read, as bytes that are read. -/
def ReadRow (w : World) (s : Disk.St) (i : Int) : Value → World → Prop := fun v w' => Keeps (fun _ => False) w w' ∧ ∃ u, v = .tuple #[u, .int .i64 (s.read i).2] ∧ Rd w' (fun k => w.heap.size ≤ k) u (s.read i).1.length (Disk.bytes8 (s.read i).1)
theorem dReadRow_c {w : World} {S : Nat → Prop} {g : Nat} {s : Disk.St} (h : DIs w S g s) (i : Int) : Calls Try.prog 29 #[.pointer (some ⟨g, 0, none⟩), .int .i64 i] w (Rets (ReadRow w s i)) :=
  Rets.use (dRead_c h i) fun v w' ⟨hk, hp⟩ => by
    refine ⟨hk, ?_⟩
    rcases hp with ⟨h1, h2, rfl⟩ | ⟨h1, h2, b, hb, rfl, hB⟩
    · refine ⟨_, rfl, ?_⟩; rw [h2]; exact Rd.nil _ _
    · refine ⟨_, by rw [h1], ?_⟩
      rw [h2]
      exact ⟨_, _, rfl, Nat.le_refl _, fun h => (by cases h), .inr ⟨b, 0, rfl, hb, fun j u hu => by rw [cell_of_row w' _ _ _ _ _ hB, Nat.zero_add]; simpa using hu⟩⟩
/-- The rows that a disk's first sectors are read as. -/
def rows (s : Disk.St) (n : Nat) : List (List Int) := (List.range n).map fun (i : Nat) => (s.read (i : Int)).1
theorem rows_len (s : Disk.St) (n : Nat) : (rows s n).length = n := by simp [rows]
theorem rows_succ (s : Disk.St) (n : Nat) : rows s (n + 1) = rows s n ++ [(s.read n).1] := by simp [rows, List.range_succ]
theorem BytesRows.nil (W w : World) : BytesRows W w (.slice none 0 0) [] := ⟨[], OwnRow.nil _ _ _ _, fun i l h => by simp at h⟩
def AllPost (W : World) (ls : List (List Int)) : Value → World → Prop := fun v w => Keeps (fun _ => False) W w ∧ BytesRows W w v ls
theorem own_self {w : World} {ok : Nat → Prop} {e : TypeId} {sz n : Nat} {v : Value} {cs : List Value} (h : OwnRow w ok e sz v n cs) : OwnRow w (fun k => v.ownBlock = some k) e sz v n cs := ⟨h.1, fun _ h => h⟩
/-- One more row. -/
theorem BytesRows.push {W wr w w' : World} {v v' : Value} {ls : List (List Int)} {l : List Int} {vs : List Value} {u : Value} (hw : W.heap.size ≤ wr.heap.size) (hV : ∀ (i : Nat) (l : List Int), ls[i]? = some l → ∃ u, vs[i]? = some u ∧ Rd wr (fun k => W.heap.size ≤ k ∧ k < wr.heap.size ∧ v.ownBlock ≠ some k) u l.length (Disk.bytes8 l))
    (hl : vs.length = ls.length) (hv : ∀ k, v.ownBlock = some k → W.heap.size ≤ k ∧ k < wr.heap.size) (hk : Keeps (fun _ => False) wr w) (hr : Rd w (fun k => wr.heap.size ≤ k ∧ k < w.heap.size) u l.length (Disk.bytes8 l)) (hk' : Keeps (fun k => v.ownBlock = some k) w w')
    (ho : OwnRow w' (fun k => v.ownBlock = some k ∨ w.heap.size ≤ k) 38 1 v' (ls.length + 1) (vs ++ [u])) : BytesRows W w' v' (ls ++ [l]) := by
  have h1 := hk.size
  have h2 := hk'.size
  refine ⟨vs ++ [u], by rw [List.length_append]; exact ho.mono (fun k _ h => by rcases h with h | h; exact (hv k h).1; omega), fun i x hx => ?_⟩
  by_cases hi : i < ls.length
  · rw [List.getElem?_append_left hi] at hx
    obtain ⟨y, h3, h4⟩ := hV i x hx
    refine ⟨y, by rw [List.getElem?_append_left (by omega)]; exact h3, ?_⟩
    refine ((h4.kept hk (fun _ _ h => h)).kept hk' (fun k hk h => hk.2.2 h)).mono fun k h => ⟨h.1, by omega, fun he => ?_⟩
    rcases ho.2 k he with h5 | h5
    · exact h.2.2 h5
    · omega
  · rw [List.getElem?_append_right (by omega)] at hx
    obtain rfl : i = ls.length := by have := (List.getElem?_eq_some_iff.1 hx).1; simp at this; omega
    obtain rfl : l = x := by simpa using hx
    refine ⟨u, by rw [List.getElem?_append_right (by omega), hl]; simp, ?_⟩
    refine (hr.kept hk' (fun k hk h => by have := (hv k h).2; omega)).mono fun k h => ⟨by omega, by omega, fun he => ?_⟩
    rcases ho.2 k he with h5 | h5
    · have := (hv k h5).2; omega
    · omega
theorem one_size {u : Value} (h : u.oneCell' = true) : u.cells.size = 1 := by
  cases u <;> simp_all [Value.oneCell', Value.cells]
theorem lit_rd {w : World} {u : Value} {g B : Nat} {t : TypeId} (h : u.oneCell' = true) (hb : w.heap[g]? = some (.cells ([u].flatMap fun v => v.cells.toList).toArray t (0, 0))) (hB : B ≤ g) : Rd w (fun k => B ≤ k) (.slice (some ⟨g, 0, none⟩) 1 1) 1 [u] := by
  have e : u.cells.toList = [u] := by cases u <;> simp_all [Value.oneCell', Value.cells]
  rw [List.flatMap_cons, List.flatMap_nil, e] at hb
  exact ⟨_, _, rfl, by decide, fun h => (by cases h), .inr ⟨g, 0, rfl, hB, fun j u hu => by rw [cell_of_row w _ _ _ _ _ hb, Nat.zero_add]; simpa using hu⟩⟩
set_option maxHeartbeats 1600000 in
theorem all_c {W : World} {S : Nat → Prop} {g : Nat} {s : Disk.St} (h : DIs W S g s) (hS : ∀ k, S k → k < W.heap.size) : Calls Try.prog 16 #[.pointer (some ⟨g, 0, none⟩)] W (Rets (AllPost W (rows s 8))) := by
  have HH := Lib.hid h
  clear h
  go_enter Try.func16, Try.ntmps16
  go_wp2
  go_loopw [3, 4] (fun o i wr => ∃ k : Nat, k ≤ 8 ∧ i = .int .i64 k ∧ AllPost W (rows s k) o wr) (fun _ i _ => 8 - (intOf i).toNat)
  case atStart => exact ⟨0, by omega, rfl, Keeps.refl _ W, BytesRows.nil W W⟩
  case round =>
    obtain ⟨k, hk, rfl, hK, hR⟩ := hrel
    have HRk := Lib.hid hR
    obtain ⟨vs, hO, hV⟩ := hR
    have HV := Lib.hid hV
    have HO := Lib.hid (by rw [rows_len] at hO; exact hO)
    have HK := Lib.hid hK
    have hsz := hK.size
    have hl := hO.len
    rw [rows_len, Nat.mul_one] at hl
    clear hV hO
    by_cases hlt : k < 8
    · have hd := HH.out.kept hK (fun _ _ h => h)
      have HR2 := Lib.hid (rows_succ s k)
      go_wp2_with (first
        | (go_at_call 29; refine Rets.use (dReadRow_c hd k) ?_; rintro v1 w1 ⟨hk1, u, rfl, hr1⟩)
        | ((with_reducible refine at_ 19 rfl ?_); go_must (refine step_lit rfl 29 _ 1 rfl [u] rfl rfl (by decide) 38 _ 1 Try.underlying29 row2_bytes (by decide) (by decide) (by intro v hv; rw [List.mem_singleton] at hv; subst hv; exact one_size (Rd.one hr1)) ?_); intro w2 hb2 hk2 hs2)
        | ((with_reducible refine at_ 20 rfl ?_); go_must (refine step_append_rd (ok := fun k => u3.ownBlock = some k) (ok2 := fun k => W.heap.size ≤ k) rfl _ _ _ rfl 38 _ 1 24 Try.underlying29 row_bytes rfl (by decide) u3 k vs rfl (own_self ((HO.out.kept hk1 (fun _ _ h => h)).kept hk2 (fun _ _ h => h))) _ 1 [u] rfl (lit_rd (Rd.one hr1) hb2 (by have := hk1.size; omega)) rfl (by intro x hx; rw [List.mem_singleton] at hx; subst hx; exact (Rd.one hr1)) (by simp only [maxLen]; omega) (by omega) ?_); intro v' w' ho hk'))
      go_roundw
      case rel =>
        refine ⟨k + 1, by omega, by go_num, ((HK.out.trans hk1 (fun _ _ h => h)).trans hk2 (fun _ _ h => h)).trans hk' (fun j hj h => by have := HO.out.2 j h; omega), ?_⟩
        have hv' : ∀ j, u3.ownBlock = some j → W.heap.size ≤ j ∧ j < wr.heap.size := fun j h => ⟨HO.out.2 j h, HO.out.lt j h⟩
        rw [HR2.out]
        refine BytesRows.push hsz HV.out (by rw [rows_len]; exact hl) hv' (hk1.trans hk2 (fun _ _ h => h)) ((hr1.lt.kept hk2 (fun _ _ h => h)).mono (fun j h => ⟨h.1, by have := hk2.size; omega⟩)) hk' ?_
        rw [rows_len]; exact ho
      case measure => simp [intOf]; omega
    · obtain rfl : k = 8 := by omega
      go_wp2
      go_ret
      exact ⟨HK.out, HRk.out⟩

/-! ### same -/
/-- Rows of bytes that are read. -/
def RowsRd (w : World) (ok : Nat → Prop) (v : Value) (ls : List (List Int)) : Prop := ∃ vs, Rd w ok v ls.length vs ∧ vs.length = ls.length ∧ ∀ (i : Nat) (l : List Int), ls[i]? = some l → ∃ u, vs[i]? = some u ∧ Rd w ok u l.length (Disk.bytes8 l)
theorem BytesRows.rd {W w : World} {v : Value} {ls : List (List Int)} (h : BytesRows W w v ls) : RowsRd w (fun k => W.heap.size ≤ k ∧ k < w.heap.size) v ls := by
  obtain ⟨vs, h1, h2⟩ := h
  have hl := h1.len
  refine ⟨vs, h1.rd.lt, by omega, fun i l hi => ?_⟩
  obtain ⟨u, h3, h4⟩ := h2 i l hi
  exact ⟨u, h3, h4.mono (fun k h => ⟨h.1, h.2.1⟩)⟩
theorem RowsRd.kept {w w' : World} {ok S : Nat → Prop} {v : Value} {ls : List (List Int)} (h : RowsRd w ok v ls) (hk : Keeps S w w') (hn : ∀ k, ok k → ¬ S k) : RowsRd w' ok v ls := by
  obtain ⟨vs, h1, h2, h3⟩ := h
  refine ⟨vs, h1.kept hk hn, h2, fun i l hi => ?_⟩
  obtain ⟨u, h4, h5⟩ := h3 i l hi
  exact ⟨u, h4, h5.kept hk hn⟩
def good (xs ys : List (List Int)) (j : Nat) : Bool := (xs.getD j []).length == 64 && decide (xs.getD j [] = ys.getD j [])
def sameTo (xs ys : List (List Int)) (k : Nat) : Bool := (List.range k).all (good xs ys)
theorem sameTo_succ (xs ys : List (List Int)) (k : Nat) : sameTo xs ys (k + 1) = (sameTo xs ys k && good xs ys k) := by simp [sameTo, List.range_succ]
theorem sameTo_false {xs ys : List (List Int)} {k n : Nat} (h : k < n) (hg : good xs ys k = false) : sameTo xs ys n = false := by
  unfold sameTo
  rw [List.all_eq_false]
  exact ⟨k, List.mem_range.2 h, by simp [hg]⟩
set_option maxHeartbeats 1600000 in
theorem same09_c {w : World} {ok ok2 : Nat → Prop} {a b : Value} {xs ys : List (List Int)} (ha : RowsRd w ok a xs) (hb : RowsRd w ok2 b ys) (hl : xs.length = ys.length) (hm : xs.length ≤ 1000000) (hx : ∀ x ∈ xs, x.length ≤ 1000000) :
    Calls Try.prog 19 #[a, b] w (Rets (Still (.bool (sameTo xs ys xs.length)) w)) := by
  obtain ⟨vs, ha1, ha2, ha3⟩ := ha
  obtain ⟨us, hb1, hb2, hb3⟩ := hb
  obtain ⟨A, ca, rfl, hca, _⟩ := ha1.slice
  obtain ⟨B, cb, rfl, hcb, _⟩ := hb1.slice
  have HA := Lib.hid ha1
  have HB := Lib.hid hb1
  have HL := Lib.hid hl
  have HA3 := Lib.hid ha3
  have HB3 := Lib.hid hb3
  have HA2 := Lib.hid ha2
  have HB2 := Lib.hid hb2
  have HX := Lib.hid hx
  clear ha1 hb1 ha3 hb3 ha2 hb2 hl
  go_enter Try.func19, Try.ntmps19
  go_wp2
  go_loopw [5] (fun i wr => ∃ k : Nat, k ≤ xs.length ∧ i = .int .i64 k ∧ Hid (sameTo xs ys k = true) ∧ Keeps (fun _ => False) w wr) (fun i _ => xs.length - (intOf i).toNat)
  case atStart => exact ⟨0, Nat.zero_le _, rfl, rfl, Keeps.refl _ w⟩
  case round =>
    obtain ⟨k, hk, rfl, HT, hK⟩ := hrel
    by_cases hlt : k < xs.length
    · have hlt2 : k < ys.length := by have := HL.out; omega
      obtain ⟨u1, e1, r1⟩ := HA3.out k _ (List.getElem?_eq_getElem hlt)
      obtain ⟨u2, e2, r2⟩ := HB3.out k _ (List.getElem?_eq_getElem hlt2)
      obtain ⟨b1, o1, c1, f1, _, _, g1⟩ := (HA.out.kept hK (fun _ _ h => h)).at (by intro e; have := congrArg List.length e; rw [HA2.out, List.length_nil] at this; omega)
      obtain ⟨b2, o2, c2, f2, _, _, g2⟩ := (HB.out.kept hK (fun _ _ h => h)).at (by intro e; have := congrArg List.length e; rw [HB2.out, List.length_nil] at this; omega)
      cases f1
      cases f2
      have d1 := g1 k _ e1
      have d2 := g2 k _ e2
      have HG := Lib.hid (show good xs ys k = (xs[k].length == 64 && decide (xs[k] = ys[k])) by unfold good; rw [List.getD_eq_getElem?_getD, List.getD_eq_getElem?_getD, List.getElem?_eq_getElem hlt, List.getElem?_eq_getElem hlt2]; rfl)
      have HR1 := Lib.hid (r1.kept hK (fun _ _ h => h))
      have HR2 := Lib.hid (r2.kept hK (fun _ _ h => h))
      have lx := hx _ (List.getElem_mem hlt)
      clear r1 r2 e1 e2 g1 g2
      generalize xs[k] = x at *
      generalize ys[k] = y at *
      obtain ⟨A1, q1, rfl, _, _⟩ := HR1.out.slice
      by_cases h64 : x.length = 64
      · have HR64 := Lib.hid (show Rd wr ok (.slice A1 64 q1) x.length (Disk.bytes8 x) by rw [← h64]; exact HR1.out)
        rw [h64] at d1
        by_cases he : x = y
        · have HGt := Lib.hid (show good xs ys k = true by rw [HG.out, ← he]; simp [h64])
          have HD := Lib.hid (show decide (x = y) = true by simp [he])
          clear he h64
          go_wp2
          refine Canon.row [0, 1, 2, 3, 4, 5, 6, 7, 8, 9, 11, 12, 13, 10, 14, 15, 16, 17] (by kernel_rfl) (by kernel_rfl) (by repeat (first | (with_reducible exact Safe.body) | (with_reducible apply Safe.then) | (with_reducible apply Safe.inBlock) | (dsimp +zetaDelta only))) ?_
          simp only [Canon.pick, Canon.wpPlan, List.getElem?_toArray, List.getElem?_cons_zero, List.getElem?_cons_succ]
          go_wp2_with (go_at_call 26; refine Rets.use (same_c _ _ x y (HR64.out.kept (Keeps.refl (fun _ => False) wr).drew (fun _ _ h => h)) (HR2.out.kept (Keeps.refl (fun _ => False) wr).drew (fun _ _ h => h)) (by omega)) ?_; rintro v w5 ⟨rfl, hk5⟩; rw [HD.out])
          refine ⟨by rfl, trivial, ?_⟩
          go_wp2
          go_roundw
          case rel => exact ⟨k + 1, by omega, by go_num, by show _ = _; rw [sameTo_succ, HT.out, HGt.out]; rfl, (hK.drew).trans hk5 (fun _ _ h => h)⟩
          case measure => simp [intOf]; omega
        · have HGt := Lib.hid (show sameTo xs ys xs.length = false from sameTo_false hlt (by rw [HG.out]; simp [he]))
          have HD := Lib.hid (show decide (x = y) = false by simp [he])
          clear he h64
          go_wp2
          refine Canon.row [0, 1, 2, 3, 4, 5, 6, 7, 8, 9, 11, 12, 13, 10, 14, 15, 16, 17] (by kernel_rfl) (by kernel_rfl) (by repeat (first | (with_reducible exact Safe.body) | (with_reducible apply Safe.then) | (with_reducible apply Safe.inBlock) | (dsimp +zetaDelta only))) ?_
          simp only [Canon.pick, Canon.wpPlan, List.getElem?_toArray, List.getElem?_cons_zero, List.getElem?_cons_succ]
          go_wp2_with (go_at_call 26; refine Rets.use (same_c _ _ x y (HR64.out.kept (Keeps.refl (fun _ => False) wr).drew (fun _ _ h => h)) (HR2.out.kept (Keeps.refl (fun _ => False) wr).drew (fun _ _ h => h)) (by omega)) ?_; rintro v w5 ⟨rfl, hk5⟩; rw [HD.out])
          refine ⟨by rfl, trivial, ?_⟩
          go_wp2
          go_ret
          exact ⟨by rw [HGt.out]; rfl, (hK.drew).trans hk5 (fun _ _ h => h)⟩
      · have HGt := Lib.hid (show sameTo xs ys xs.length = false from sameTo_false hlt (by rw [HG.out]; simp [h64]))
        have hb : ((x.length : Int) != 64) = true := by simp; omega
        go_wp2
        refine Canon.row [0, 1, 2, 3, 4, 5, 6, 7, 8, 9, 11, 12, 13, 10, 14, 15, 16, 17] (by kernel_rfl) (by kernel_rfl) (by repeat (first | (with_reducible exact Safe.body) | (with_reducible apply Safe.then) | (with_reducible apply Safe.inBlock) | (dsimp +zetaDelta only))) ?_
        simp only [Canon.pick, Canon.wpPlan, List.getElem?_toArray, List.getElem?_cons_zero, List.getElem?_cons_succ]
        go_wp2
        refine ⟨by rfl, trivial, ?_⟩
        go_wp2
        go_ret
        exact ⟨by rw [HGt.out]; rfl, hK.drew⟩
    · obtain rfl : k = xs.length := by omega
      go_wp2
      go_ret
      exact ⟨by rw [HT.out]; rfl, hK⟩
end Go.Proofs.Ytmkpdoljaccpaaa
