/-
  The walk of Crash; of New; of what no call made.
-/
import Derived.Test.YtbiohidelhfaiaaDiskS
namespace Go.Proofs.Ytbiohidelhfaiaa
open Go.RowKit Go.Canon Go.Mem
set_option linter.unusedVariables false
set_option linter.unusedSimpArgs false
section
variable {w : World} {S : Nat → Prop} {g F N : Nat} {vo : Value} {s : Disk.St}
def CrashPost (w : World) (S : Nat → Prop) (g F N : Nat) (s : Disk.St) (keep : List Bool) (v : Value) (w' : World) : Prop :=
  v = .int .i64 0 ∧ (∃ vo', DParts w' S g F N vo' (s.crash keep)) ∧ Keeps S w w'
def bools (l : List Bool) : List Value := l.map Value.bool
/-- Behind j of the open writes: those that are kept are fast. -/
def KeepAt (w : World) (S : Nat → Prop) (g F N : Nat) (vo : Value) (s : Disk.St) (keep : List Bool) (j : Nat) (w' : World) : Prop :=
  DParts w' S g F N vo { s with fast := Disk.St.keep keep 0 s.fast (s.opn.take j) } ∧ Keeps S w w'
theorem KeepAt.skip {W w1 w2 : World} {keep : List Bool} {j : Nat} {p : Int × List Int} (h : KeepAt W S g F N vo s keep j w1) (hj : s.opn[j]? = some p) (hn : keep.getD j false = false) (hk : Keeps (fun _ => False) w1 w2) : KeepAt W S g F N vo s keep (j + 1) w2 := by
  obtain ⟨hp, hK⟩ := h
  have hl : (s.opn.take j).length = j := List.length_take_of_le (Nat.le_of_lt (List.getElem?_eq_some_iff.1 hj).1)
  refine ⟨?_, hK.trans hk (fun _ _ h => h.elim)⟩
  rw [List.take_add_one, hj, Option.toList_some, Disk.keep_snoc, Nat.zero_add, hl, if_neg (by rw [hn]; decide)]
  exact hp.kept hk (fun _ _ h => h)
theorem KeepAt.next {W w1 w2 w3 : World} {keep : List Bool} {j : Nat} {a : Nat} {b : List Int} (h : KeepAt W S g F N vo s keep j w1) (hj : s.opn[j]? = some ((a : Int), b)) (hn : keep.getD j false = true) (hk : Keeps (fun _ => False) w1 w2)
    (hk3 : Keeps (· = F) w2 w3) (hb : w3.heap[F]? = some (.cells (put (Disk.flat (Disk.St.keep keep 0 s.fast (s.opn.take j))) (a * 64) (Disk.bytes8 b)).toArray 117 (0, 0))) : KeepAt W S g F N vo s keep (j + 1) w3 := by
  obtain ⟨hp, hK⟩ := h
  have q := hp.ok
  have hl : (s.opn.take j).length = j := List.length_take_of_le (Nat.le_of_lt (List.getElem?_eq_some_iff.1 hj).1)
  obtain ⟨q1, _, q3⟩ := q.o64 _ (List.mem_of_getElem? hj)
  have hlen : (Disk.St.keep keep 0 s.fast (s.opn.take j)).length = s.now.length := q.len
  have q3' : a < s.now.length := by simpa using q3
  rw [Disk.flat_set q.f64 a b (by rw [hlen]; exact q3') q1] at hb
  refine ⟨?_, (hK.trans hk (fun _ _ h => h.elim)).trans hk3 (fun k _ e => by subst e; exact hp.inS.2.1)⟩
  rw [List.take_add_one, hj, Option.toList_some, Disk.keep_snoc, Nat.zero_add, hl, if_pos hn, Int.toNat_natCast]
  refine DParts.setF (s := { s with fast := Disk.St.keep keep 0 s.fast (s.opn.take j) }) (hp.kept hk (fun _ _ h => h)) hk3 hb (by rw [List.length_set]) (fun y hy => ?_)
  rcases List.mem_or_eq_of_mem_set hy with hy | rfl
  · exact q.f64 y hy
  · exact q1
/-- Behind j of the open writes: what is fast is there. -/
def BackAt (w : World) (S : Nat → Prop) (g F N : Nat) (vo : Value) (s : Disk.St) (j : Nat) (w' : World) : Prop :=
  DParts w' S g F N vo { s with now := Disk.St.settle s.fast s.now (s.opn.take j) } ∧ Keeps S w w'
theorem BackAt.next {W w1 w2 w3 : World} {j : Nat} {a : Nat} {b x : List Int} (h : BackAt W S g F N vo s j w1) (hj : s.opn[j]? = some ((a : Int), b)) (hx : s.fast[a]? = some x)
    (hk : Keeps (fun _ => False) w1 w2) (hk3 : Keeps (· = N) w2 w3) (hb : w3.heap[N]? = some (.cells (put (Disk.flat (Disk.St.settle s.fast s.now (s.opn.take j))) (a * 64) (Disk.bytes8 x)).toArray 117 (0, 0))) : BackAt W S g F N vo s (j + 1) w3 := by
  obtain ⟨hp, hK⟩ := h
  have q := hp.ok
  have ha : a < s.fast.length := (List.getElem?_eq_some_iff.1 hx).1
  have e : Disk.St.settle s.fast s.now (s.opn.take (j + 1)) = (Disk.St.settle s.fast s.now (s.opn.take j)).set a x := by
    rw [List.take_add_one, hj, Option.toList_some, Disk.settle_snoc, Int.toNat_natCast, Disk.getD_of ha]
    rw [List.getElem?_eq_getElem ha] at hx
    cases hx
    rfl
  have hlen : s.fast.length = (Disk.St.settle s.fast s.now (s.opn.take j)).length := q.len
  have hx64 : x.length = 64 := q.f64 x (List.mem_of_getElem? hx)
  rw [Disk.flat_set q.n64 a x (by rw [← hlen]; exact ha) hx64] at hb
  refine ⟨?_, (hK.trans hk (fun _ _ h => h.elim)).trans hk3 (fun k _ e => by subst e; exact hp.inS.2.2)⟩
  rw [e]
  refine DParts.setN (s := { s with now := Disk.St.settle s.fast s.now (s.opn.take j) }) (hp.kept hk (fun _ _ h => h)) hk3 hb (by rw [List.length_set]) (fun y hy => ?_)
  rcases List.mem_or_eq_of_mem_set hy with hy | rfl
  · exact q.n64 y hy
  · exact hx64
set_option maxHeartbeats 1600000 in
set_option maxRecDepth 100000 in
theorem crash_c {ok : Nat → Prop} (h : DParts w S g F N vo s) (few : s.opn.length ≤ 1000000) (v : Value) (keep : List Bool) (hr : Rd w ok v keep.length (bools keep)) (hok : ∀ k, ok k → ¬ S k) (hkl : keep.length ≤ 9223372036854775807) :
    Calls Try.prog 33 #[.pointer (some ⟨g, 0, none⟩), v] w (Rets (CrashPost w S g F N s keep)) := by
  have hm := h.ok.most
  obtain ⟨A, c, hv, hc, _, hA⟩ := h.own.slice
  obtain ⟨B, cB, rfl, hcB, _⟩ := hr.slice
  have c2 := h.cell 2 _ rfl
  rw [hv] at c2
  have HV := Lib.hid hv
  have hOA : s.opn.length = 0 ∨ ∃ O, A = some ⟨O, 0, none⟩ := by
    rcases Nat.eq_zero_or_pos s.opn.length with h0 | h0
    · exact .inl h0
    · obtain ⟨O, cap, cur, e, _⟩ := h.own.form h0
      rw [HV.out] at e
      cases e
      exact .inr ⟨O, rfl⟩
  have HOA := Lib.hid hOA
  have HIn := Lib.hid h.ok.o64
  have HR := Lib.hid hr.lt
  clear hOA hv hr
  go_enter Try.func33, Try.ntmps33
  go_wp2_with (go_at_call 62; refine Rets.use (made_c h) ?_; rintro v w' ⟨rfl, rfl⟩)
  clear c2
  go_loopw [17] (fun i wr => ∃ j : Nat, j ≤ s.opn.length ∧ i = .int .i64 j ∧ KeepAt w S g F N vo s keep j wr) (fun i _ => s.opn.length - (intOf i).toNat)
  case atStart =>
    refine ⟨0, Nat.zero_le _, rfl, ?_, Keeps.refl _ w⟩
    simpa [Disk.St.keep] using h
  case round =>
    obtain ⟨j, hj, rfl, hat⟩ := hrel
    have HAt := Lib.hid hat
    by_cases hlt : j < s.opn.length
    · obtain ⟨O, rfl⟩ : ∃ O, A = some ⟨O, 0, none⟩ := HOA.out.resolve_left (by omega)
      obtain ⟨⟨pa, pb⟩, hp⟩ : ∃ p, s.opn[j]? = some p := ⟨_, List.getElem?_eq_getElem hlt⟩
      obtain ⟨q1, q2, q3⟩ := HIn.out _ (List.mem_of_getElem? hp)
      simp only at q1 q2 q3
      obtain ⟨a, rfl⟩ : ∃ a : Nat, pa = a := ⟨pa.toNat, by omega⟩
      have ha : a < s.now.length := by omega
      have own := hat.1.own
      rw [HV.out] at own
      have HOc := Lib.hid (Disk.opens_cells (l := s.opn) (n := s.opn.length) own (fun p hp => (HIn.out p hp).1) hp)
      have HHp := Lib.hid hp
      have HB64 := Lib.hid (show (Disk.bytes8 pb).length = 64 by rw [Disk.bytes8_len]; exact q1)
      have HZ := Lib.hid (show (Disk.bytes8 Disk.zsec).length = 64 by rw [Disk.bytes8_len, Disk.zsec_len])
      have HOne := Lib.hid (all_oneCell_toArray (cs := .int .i64 (a : Int) :: Disk.bytes8 pb) (by intro v hv; rcases List.mem_cons.1 hv with rfl | hv; rfl; exact Disk.bytes8_one _ v hv))
      have HOnb := Lib.hid (all_oneCell_toArray (Disk.bytes8_one pb))
      have HFl := Lib.hid (show (Disk.flat (Disk.St.keep keep 0 s.fast (s.opn.take j))).length = s.now.length * 64 by rw [Disk.flat_len hat.1.ok.f64, hat.1.ok.len])
      have HVT := Lib.hid (show ((Value.int .i64 (a : Int) :: Disk.bytes8 pb).drop 1).take (Disk.bytes8 pb).length = Disk.bytes8 pb by simp)
      have nmax : s.now.length ≤ 4096 := hat.1.ok.most
      have c0 := (hat.1.cell 0 _ rfl)
      have bF := hat.1.bF
      have lg := lt_of hat.1.blk
      have lF := lt_of bF
      have HRr := Lib.hid (HR.out.kept hat.2 (fun k hh => hok k hh.1))
      have szr := hat.2.size
      clear hat own hp q1
      by_cases hkj : j < keep.length
      · obtain ⟨bb, ob, cb, e1, _, e2, e3⟩ := HRr.out.at (by intro e; have := congrArg List.length e; rw [bools, List.length_map, List.length_nil] at this; omega)
        cases e1
        have ck : wr.cell? ⟨bb, ob + j, none⟩ = some (.bool keep[j]) := e3 j _ (by simp [bools, hkj])
        have lb : bb < w.heap.size := e2.2
        clear e3
        cases hkk : keep[j]
        · rw [hkk] at ck
          have HKK := Lib.hid (show keep.getD j false = false by rw [List.getD_eq_getElem?_getD, List.getElem?_eq_getElem hkj]; exact hkk)
          clear hkk
          go_wp2_with (first
            | ((with_reducible refine at_ 21 rfl ?_); go_must (refine step_load_cells rfl 119 _ rfl O (j * 65) (.int .i64 a :: Disk.bytes8 pb) _ rfl HOc.out Try.underlying119 rfl (by rw [List.length_cons, HB64.out]; exact info_wr) ?_))
            | ((with_reducible refine at_ 6 rfl ?_); go_must (refine step_alloc rfl 119 rfl _ _ zero_wr rfl ?_); intro w2 hb2 hk2 hs2)
            | ((with_reducible refine at_store 119 (.tmp 6) (.tmp 21) rfl ?_); go_must (refine step_store rfl _ _ _ rfl wr.heap.size 0 (.int .i64 a :: Disk.bytes8 pb) _ _ rfl rfl hb2 (by rw [List.length_cons, List.length_cons, HB64.out, HZ.out]; omega) (by rw [List.length_cons, HB64.out]; exact info_wr) HOne.out ?_); intro w3 hb3 hk3 hs3; clear hb3; have ck3 := hk3.cell (hk2.cell ck (fun h => h)) (show bb ≠ wr.heap.size by omega); clear hb2))
          go_roundw
          case rel =>
            refine ⟨j + 1, by omega, by go_num, ?_⟩
            exact HAt.out.skip HHp.out HKK.out ⟨hk3.os.trans hk2.os, hk3.tape.trans hk2.tape, hk3.output.trans hk2.output, Nat.le_trans hk2.size hk3.size, fun k hk _ => (hk3.block k (by omega) (by omega)).trans (hk2.block k hk (fun h => h))⟩
          case measure => simp [intOf]; omega
        · rw [hkk] at ck
          have HKK := Lib.hid (show keep.getD j false = true by rw [List.getD_eq_getElem?_getD, List.getElem?_eq_getElem hkj]; exact hkk)
          clear hkk
          go_wp2_with (first
            | ((with_reducible refine at_ 21 rfl ?_); go_must (refine step_load_cells rfl 119 _ rfl O (j * 65) (.int .i64 a :: Disk.bytes8 pb) _ rfl HOc.out Try.underlying119 rfl (by rw [List.length_cons, HB64.out]; exact info_wr) ?_))
            | ((with_reducible refine at_ 6 rfl ?_); go_must (refine step_alloc rfl 119 rfl _ _ zero_wr rfl ?_); intro w2 hb2 hk2 hs2)
            | ((with_reducible refine at_store 119 (.tmp 6) (.tmp 21) rfl ?_); go_must (refine step_store rfl _ _ _ rfl wr.heap.size 0 (.int .i64 a :: Disk.bytes8 pb) _ _ rfl rfl hb2 (by rw [List.length_cons, List.length_cons, HB64.out, HZ.out]; omega) (by rw [List.length_cons, HB64.out]; exact info_wr) HOne.out ?_); intro w3 hb3 hk3 hs3; rw [put_whole (by rw [List.length_cons, List.length_cons, HB64.out, HZ.out])] at hb3; have ck3 := hk3.cell (hk2.cell ck (fun h => h)) (show bb ≠ wr.heap.size by omega); clear hb2))
          refine Canon.row [0, 1, 2, 4, 6, 3, 5, 7, 8, 9] (by kernel_rfl) (by kernel_rfl) (by repeat (first | (with_reducible exact Safe.body) | (with_reducible apply Safe.then) | (with_reducible apply Safe.inBlock) | (dsimp +zetaDelta only))) ?_
          simp only [Canon.pick, Canon.wpPlan, List.getElem?_toArray, List.getElem?_cons_zero, List.getElem?_cons_succ]
          have K3 : Keeps (fun _ => False) wr w3.drew := ⟨hk3.os.trans hk2.os, hk3.tape.trans hk2.tape, hk3.output.trans hk2.output, Nat.le_trans hk2.size hk3.size, fun k hk _ => (hk3.block k (by omega) (by omega)).trans (hk2.block k hk (fun h => h))⟩
          have c0' := K3.cell c0 (fun h => h)
          have bF' := K3.heap bF (fun h => h)
          have bW : w3.drew.heap[wr.heap.size]? = some (.cells (.int .i64 (a : Int) :: Disk.bytes8 pb).toArray 119 (0, 0)) := hb3
          have cW : w3.drew.cell? ⟨wr.heap.size, 0, none⟩ = some (.int .i64 a) := (cell_of_row w3.drew wr.heap.size 0 _ _ _ hb3).trans rfl
          clear c0 bF hb3 hk3 hk2 ck ck3
          generalize w3.drew = w4 at *
          go_wp2_with (first
            | ((with_reducible refine at_ 39 rfl ?_); go_must (refine step_load rfl 117 _ rfl wr.heap.size 1 (Disk.bytes8 pb) _ _ _ _ rfl bW HVT.out Try.underlying117 rfl (by rw [HB64.out]; exact info_sec) ?_))
            | ((with_reducible refine at_store 117 (.tmp 40) (.tmp 39) rfl ?_); go_must (refine step_store rfl _ _ _ rfl F (a * 64) (Disk.bytes8 pb) _ _ rfl rfl bF' (by rw [HB64.out, HFl.out]; omega) (by rw [HB64.out]; exact info_sec) HOnb.out ?_); intro w5 bF5 hk5 hs5))
          refine ⟨by rfl, trivial, ?_⟩
          go_wp2
          go_roundw
          case rel =>
            refine ⟨j + 1, by omega, by go_num, ?_⟩
            exact HAt.out.next HHp.out HKK.out K3 hk5 bF5
          case measure => simp [intOf]; omega
      · have HKK := Lib.hid (show keep.getD j false = false by rw [List.getD_eq_getElem?_getD, List.getElem?_eq_none (by omega)]; rfl)
        go_wp2_with (first
            | ((with_reducible refine at_ 21 rfl ?_); go_must (refine step_load_cells rfl 119 _ rfl O (j * 65) (.int .i64 a :: Disk.bytes8 pb) _ rfl HOc.out Try.underlying119 rfl (by rw [List.length_cons, HB64.out]; exact info_wr) ?_))
            | ((with_reducible refine at_ 6 rfl ?_); go_must (refine step_alloc rfl 119 rfl _ _ zero_wr rfl ?_); intro w2 hb2 hk2 hs2)
            | ((with_reducible refine at_store 119 (.tmp 6) (.tmp 21) rfl ?_); go_must (refine step_store rfl _ _ _ rfl wr.heap.size 0 (.int .i64 a :: Disk.bytes8 pb) _ _ rfl rfl hb2 (by rw [List.length_cons, List.length_cons, HB64.out, HZ.out]; omega) (by rw [List.length_cons, HB64.out]; exact info_wr) HOne.out ?_); intro w3 hb3 hk3 hs3; clear hb3 hb2))
        go_roundw
        case rel =>
          refine ⟨j + 1, by omega, by go_num, ?_⟩
          exact HAt.out.skip HHp.out HKK.out ⟨hk3.os.trans hk2.os, hk3.tape.trans hk2.tape, hk3.output.trans hk2.output, Nat.le_trans hk2.size hk3.size, fun k hk _ => (hk3.block k (by omega) (by omega)).trans (hk2.block k hk (fun h => h))⟩
        case measure => simp [intOf]; omega
    · have e : j = s.opn.length := by omega
      subst e
      clear hlt
      obtain ⟨hp1, hK1⟩ := HAt.out
      rw [List.take_length] at hp1
      generalize hT : ({ s with fast := Disk.St.keep keep 0 s.fast s.opn } : Disk.St) = t at hp1
      have T1 := Lib.hid (show t.now = s.now by rw [← hT])
      have T3 := Lib.hid (show t.opn = s.opn by rw [← hT])
      have HT := Lib.hid hT
      have c2 := hp1.cell 2 _ rfl
      rw [HV.out] at c2
      clear hT hat HAt
      go_wp2
      clear c2
      have HIn' := Lib.hid hp1.ok.o64
      obtain ⟨wo, rfl⟩ : ∃ wo : World, wo = wr := ⟨_, rfl⟩
      go_loopw [47] (fun i wr' => ∃ j : Nat, j ≤ s.opn.length ∧ i = .int .i64 j ∧ BackAt wo S g F N vo t j wr') (fun i _ => s.opn.length - (intOf i).toNat)
      case atStart =>
        refine ⟨0, Nat.zero_le _, rfl, ?_, Keeps.refl _ wo⟩
        simpa [Disk.St.settle] using hp1
      case round =>
        obtain ⟨j, hj, rfl, hat⟩ := hrel
        have HAt := Lib.hid hat
        by_cases hlt : j < s.opn.length
        · obtain ⟨O, rfl⟩ : ∃ O, A = some ⟨O, 0, none⟩ := HOA.out.resolve_left (by omega)
          have hlt' : j < t.opn.length := by rw [T3.out]; exact hlt
          obtain ⟨⟨pa, pb⟩, hp⟩ : ∃ p, t.opn[j]? = some p := ⟨_, List.getElem?_eq_getElem hlt'⟩
          obtain ⟨q1, q2, q3⟩ := HIn'.out _ (List.mem_of_getElem? hp)
          simp only at q1 q2 q3
          obtain ⟨a, rfl⟩ : ∃ a : Nat, pa = a := ⟨pa.toNat, by omega⟩
          have hfl : t.fast.length = t.now.length := hp1.ok.len
          have ha : a < t.fast.length := by omega
          have hx : t.fast[a]? = some t.fast[a] := List.getElem?_eq_getElem ha
          have hx64 : t.fast[a].length = 64 := hp1.ok.f64 _ (List.getElem_mem ha)
          have own := hat.1.own
          rw [HV.out] at own
          have HOc := Lib.hid (Disk.opens_cells (l := t.opn) (n := s.opn.length) (by have := own; rw [show t.opn.length = s.opn.length from T3.out ▸ rfl] at this ⊢; exact this) (fun p hp => (HIn'.out p hp).1) hp)
          have HHp := Lib.hid hp
          have HHx := Lib.hid hx
          have HX64 := Lib.hid (show (Disk.bytes8 t.fast[a]).length = 64 by rw [Disk.bytes8_len]; exact hx64)
          have HB64 := Lib.hid (show (Disk.bytes8 pb).length = 64 by rw [Disk.bytes8_len]; exact q1)
          have HZ := Lib.hid (show (Disk.bytes8 Disk.zsec).length = 64 by rw [Disk.bytes8_len, Disk.zsec_len])
          have HOne := Lib.hid (all_oneCell_toArray (cs := .int .i64 (a : Int) :: Disk.bytes8 pb) (by intro v hv; rcases List.mem_cons.1 hv with rfl | hv; rfl; exact Disk.bytes8_one _ v hv))
          have HOnx := Lib.hid (all_oneCell_toArray (Disk.bytes8_one t.fast[a]))
          have HXat := Lib.hid (Disk.flat_at hp1.ok.f64 a _ hx)
          have HFl := Lib.hid (show (Disk.flat (Disk.St.settle t.fast t.now (t.opn.take j))).length = t.fast.length * 64 by rw [Disk.flat_len hat.1.ok.n64, ← hat.1.ok.len])
          have nlen : (Disk.St.settle t.fast t.now (t.opn.take j)).length = t.now.length := Disk.settle_len _ _ _
          have nmax : t.now.length ≤ 4096 := hp1.ok.most
          have c0 := (hat.1.cell 0 _ rfl)
          have c1 := (hat.1.cell 1 _ rfl)
          simp only [nlen] at c0 c1
          have bN := hat.1.bN
          have bF := hat.1.bF
          have lg := lt_of hat.1.blk
          have lN := lt_of bN
          have lF := lt_of bF
          clear hat own hp hx hx64 q1 nlen
          go_wp2_with (first
            | ((with_reducible refine at_ 50 rfl ?_); go_must (refine step_load_cells rfl 119 _ rfl O (j * 65) (.int .i64 a :: Disk.bytes8 pb) _ rfl HOc.out Try.underlying119 rfl (by rw [List.length_cons, HB64.out]; exact info_wr) ?_))
            | ((with_reducible refine at_ 8 rfl ?_); go_must (refine step_alloc rfl 119 rfl _ _ zero_wr rfl ?_); intro w2 hb2 hk2 hs2)
            | ((with_reducible refine at_store 119 (.tmp 8) (.tmp 50) rfl ?_); go_must (refine step_store rfl _ _ _ rfl wr.heap.size 0 (.int .i64 a :: Disk.bytes8 pb) _ _ rfl rfl hb2 (by rw [List.length_cons, List.length_cons, HB64.out, HZ.out]; omega) (by rw [List.length_cons, HB64.out]; exact info_wr) HOne.out ?_); intro w3 hb3 hk3 hs3; rw [put_whole (by rw [List.length_cons, List.length_cons, HB64.out, HZ.out])] at hb3; clear hb2))
          refine Canon.row [0, 1, 2, 4, 6, 7, 8, 10, 3, 5, 9, 11, 12, 13, 14, 15] (by kernel_rfl) (by kernel_rfl) (by repeat (first | (with_reducible exact Safe.body) | (with_reducible apply Safe.then) | (with_reducible apply Safe.inBlock) | (dsimp +zetaDelta only))) ?_
          simp only [Canon.pick, Canon.wpPlan, List.getElem?_toArray, List.getElem?_cons_zero, List.getElem?_cons_succ]
          have K3 : Keeps (fun _ => False) wr w3.drew := ⟨hk3.os.trans hk2.os, hk3.tape.trans hk2.tape, hk3.output.trans hk2.output, Nat.le_trans hk2.size hk3.size, fun k hk _ => (hk3.block k (by omega) (by omega)).trans (hk2.block k hk (fun h => h))⟩
          have c0' := K3.cell c0 (fun h => h)
          have c1' := K3.cell c1 (fun h => h)
          have bN' := K3.heap bN (fun h => h)
          have bF' := K3.heap bF (fun h => h)
          have cW : w3.drew.cell? ⟨wr.heap.size, 0, none⟩ = some (.int .i64 a) := (cell_of_row w3.drew wr.heap.size 0 _ _ _ hb3).trans rfl
          clear c0 c1 bN bF hb3 hk3 hk2
          generalize w3.drew = w4 at *
          go_wp2_with (first
            | ((with_reducible refine at_ 64 rfl ?_); go_must (refine step_load rfl 117 _ rfl F (a * 64) (Disk.bytes8 t.fast[a]) _ _ _ _ rfl bF' (by rw [HX64.out]; exact HXat.out) Try.underlying117 rfl (by rw [HX64.out]; exact info_sec) ?_))
            | ((with_reducible refine at_store 117 (.tmp 65) (.tmp 64) rfl ?_); go_must (refine step_store rfl _ _ _ rfl N (a * 64) (Disk.bytes8 t.fast[a]) _ _ rfl rfl bN' (by rw [HX64.out, HFl.out]; omega) (by rw [HX64.out]; exact info_sec) HOnx.out ?_); intro w5 bN5 hk5 hs5))
          refine ⟨by rfl, trivial, ?_⟩
          go_wp2
          go_roundw
          case rel =>
            refine ⟨j + 1, by omega, by go_num, ?_⟩
            exact HAt.out.next HHp.out HHx.out K3 hk5 bN5
          case measure => simp [intOf]; omega
        · have e : j = s.opn.length := by omega
          subst e
          clear hlt
          have b0 := hat.1.blk
          clear hat
          go_wp2_with (first
            | ((with_reducible refine at_store 98 (.tmp 72) (.const (.slice none 0 0)) rfl ?_); go_must (refine step_store1 rfl _ _ _ rfl g 2 (.slice none 0 0) _ _ rfl rfl rfl b0 (by simp) info_wrs ?_); intro w2 b2 hk2 hs2)
            | ((with_reducible refine at_store 4 (.tmp 74) (.const (.bool false)) rfl ?_); go_must (refine step_store1 rfl _ _ _ rfl g 3 (.bool false) _ _ rfl rfl rfl b2 (by simp) info_bool ?_); intro w3 b3 hk3 hs3)
            | ((with_reducible refine at_store 3 (.tmp 76) (.const (.int .i64 0)) rfl ?_); go_must (refine step_store1 rfl _ _ _ rfl g 4 (.int .i64 0) _ _ rfl rfl rfl b3 (by simp) info_int ?_); intro w4 b4 hk4 hs4)
            | ((with_reducible refine at_store 4 (.tmp 78) (.const (.bool false)) rfl ?_); go_must (refine step_store1 rfl _ _ _ rfl g 5 (.bool false) _ _ rfl rfl rfl b4 (by simp) info_bool ?_); intro w5 b5 hk5 hs5))
          go_ret
          have hp := HAt.out.1
          have e : t.opn.take s.opn.length = s.opn := by rw [T3.out, List.take_length]
          have q := hp.ok
          have kk := ((hk2.trans hk3 (fun _ _ h => h)).trans hk4 (fun _ _ h => h)).trans hk5 (fun _ _ h => h)
          have kS : Keeps S w w5 := ((hK1.trans HAt.out.2 (fun _ _ h => h)).trans kk (fun k _ e => by subst e; exact h.inS.1))
          have T2 : t.fast = Disk.St.keep keep 0 s.fast s.opn := by rw [← HT.out]
          refine ⟨rfl, ⟨.slice none 0 0, ?_⟩, kS⟩
          have nl : (Disk.St.settle t.fast t.now s.opn).length = s.now.length := by rw [Disk.settle_len, T1.out]
          have e1 : s.crash keep = ⟨t.fast, Disk.St.settle t.fast t.now s.opn, [], false, 0, false⟩ := by rw [T2, T1.out]; rfl
          have bN := kk.heap hp.bN h.ne.2.1
          have bF := kk.heap hp.bF h.ne.1
          rw [e] at bN
          rw [e1]
          have n64 := q.n64
          have qpos := q.pos
          have qmost := q.most
          have qlen := q.len
          rw [e] at n64 qpos qmost qlen
          refine ⟨?_, bF, bN, OwnRow.nil _ _ _ _, h.inS, h.ne, ⟨qlen, qpos, qmost, q.f64, n64, fun p hp => (by cases hp), Int.le_refl _, show (0 : Int) ≤ 9223372036854775807 by decide⟩⟩
          rw [b5]
          simp [e]
end
end Go.Proofs.Ytbiohidelhfaiaa
