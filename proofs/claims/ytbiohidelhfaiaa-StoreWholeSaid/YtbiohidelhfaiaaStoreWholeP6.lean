/-
  Several texts in one:
  The walk of Put.
  The walks of Done, Same, Bytes, Get.
  Room of a log, of a store; Get.
  A quiet store, plainly: what a commit does.
  Few; Cut of a text.
  Changes among a call's arguments; the texts of changes are bytes.
  The calls of an input.
  StoreWhole: the walk.
-/
import Derived.Test.YtbiohidelhfaiaaStoreWholeP0
import Derived.Test.YtbiohidelhfaiaaStoreWholeP1
import Derived.Test.YtbiohidelhfaiaaStoreWholeP2
import Derived.Test.YtbiohidelhfaiaaStoreWholeP3
import Derived.Test.YtbiohidelhfaiaaStoreWholeP4
import Derived.Test.YtbiohidelhfaiaaStoreWholeP5
section
namespace Go.Proofs.Ytbiohidelhfaiaa
open Go.RowKit Go.Canon Go.Mem
open Go.Proofs.Ytbiohidelhfaiaa.Sto (Chg)
set_option linter.unusedVariables false
set_option linter.unusedSimpArgs false
/-- A list of pairs: its row is new, its values are old or new. -/
def PutIs (w : World) (ok : Nat → Prop) (l : List KV) : Value → World → Prop := fun v w' => Keeps (fun _ => False) w w' ∧ Pairs w' (fun j => ok j ∨ w.heap.size ≤ j) v l
theorem cells2 {w : World} {b o : Nat} {x y : Value} (h0 : w.cell? ⟨b, o, none⟩ = some x) (h1 : w.cell? ⟨b, o + 1, none⟩ = some y) : ∀ (j : Nat) (u : Value), [x, y][j]? = some u → w.cell? ⟨b, o + j, none⟩ = some u := by
  intro j u hj
  match j, hj with
  | 0, hj => simp only [List.getElem?_cons_zero, Option.some.injEq] at hj; subst hj; exact h0
  | 1, hj => simp only [List.getElem?_cons_succ, List.getElem?_cons_zero, Option.some.injEq] at hj; subst hj; exact h1
  | j + 2, hj => simp at hj
theorem less_kb (a b : List Int) : Op.bytesLess (str a).toList (str b).toList = decide (kb a < kb b) := by
  rw [ByteArray.toList_eq, ByteArray.toList_eq]
  exact bytesLess_eq _ _
set_option maxHeartbeats 6400000 in
set_option maxRecDepth 100000 in
theorem put11_c {w : World} {ok : Nat → Prop} (l : List KV) (hB : PB l) (hl : l.length ≤ 1000000) (v : Value) (h : Pairs w ok v l) (hok : ∀ k, ok k → k < w.heap.size) (c : Chg) (hcB : IsB c.key ∧ IsB c.val ∧ c.key.length ≤ 1000000 ∧ c.val.length ≤ 1000000) (vV : Value) (hv : Rd w ok vV c.val.length (Disk.bytes8 c.val)) : Calls Try.prog 60 #[v, .agg #[.string (str c.key), .bool c.del, vV]] w (Rets (PutIs w ok (putP l c))) := by
  obtain ⟨A, cc, rfl, hlc, _, _⟩ := id h
  obtain ⟨Av, cv, rfl, _⟩ := hv.slice
  obtain ⟨key, del, val⟩ := c
  simp only at hcB hv
  have H := Lib.hid h
  have HV := Lib.hid hv
  have HB := Lib.hid hB
  have hk1 := hcB.2.2.1
  have hv1 := hcB.2.2.2
  have HKB := Lib.hid hcB
  clear h hB hv hcB
  obtain ⟨sk, hsk⟩ : ∃ s, s = str key := ⟨_, rfl⟩
  have HSk := Lib.hid hsk
  simp only
  rw [← hsk]
  clear hsk
  go_enter Try.func60, Try.ntmps60
  go_wp2_with (first
    | ((with_reducible refine at_ 3 rfl ?_); go_must (refine step_box rfl 41 _ rfl _ rfl [.string sk, .bool del, .slice Av val.length cv] rfl ?_); intro w1 hb1 hk1 hs1; have d1 : w1.cell? ⟨w.heap.size, 1, none⟩ = some (.bool del) := cell_of_row w1 _ 1 _ _ _ hb1))
  have hk1w := hk1
  have HB1 := Lib.hid hb1
  have HK1 := Lib.hid hk1w
  go_loopw [5, 6, 7] (fun ov dv iv wr => ∃ (i : Nat) (dn : Bool) (ps : List PV), i ≤ l.length ∧ iv = .int .i64 i ∧ dv = .bool dn ∧ PRow wr (w.heap.size + 1) ok ov ps ∧ Keeps (fun _ => False) w wr ∧ wr.heap[w.heap.size]? = some (.cells [Value.string sk, .bool del, .slice Av val.length cv].toArray 41 (0, 0)) ∧ ps.length ≤ 2 * i ∧ Hid (putGo key val del l = kvs ps ++ putGo key val dn (l.drop i))) (fun _ _ iv _ => l.length - (intOf iv).toNat)
  case atStart => exact ⟨0, del, [], Nat.zero_le _, rfl, rfl, PRow.nil _ _ _, HK1.out, HB1.out, by simp, Lib.hid rfl⟩
  case round =>
    obtain ⟨i, dn, ps, hi, rfl, rfl, hO, hkr, hbx, hpl, HF⟩ := hrel
    have HO := Lib.hid hO
    have HKr := Lib.hid hkr
    have HBx := Lib.hid hbx
    have hzr := hkr.size
    have hbl := lt_of hbx
    obtain ⟨Ao, co, rfl, _⟩ := hO.slice
    by_cases hlt : i < l.length
    · obtain ⟨A', c', e, _, _, hin⟩ := H.out.kept hkr (fun _ _ h => h)
      cases e
      obtain ⟨b, o, e, hb, u, c0, c1, hrV⟩ := hin i _ (List.getElem?_eq_getElem hlt)
      cases e
      obtain ⟨Au, cu, rfl, _⟩ := hrV.slice
      have hpB := HB.out _ (List.getElem_mem hlt)
      have HF2 := Lib.hid (HF.out.trans (congrArg (fun z => kvs ps ++ putGo key val dn z) (List.drop_eq_getElem_cons hlt)))
      have HRV := Lib.hid hrV
      have d0 : wr.cell? ⟨w.heap.size, 0, none⟩ = some (.string sk) := cell_of_row wr _ 0 _ _ _ hbx
      have d2 : wr.cell? ⟨w.heap.size, 2, none⟩ = some (.slice Av val.length cv) := cell_of_row wr _ 2 _ _ _ hbx
      clear hin hrV hO hkr hbx HF
      generalize l[i] = p at *
      obtain ⟨pk, pv⟩ := p
      simp only at c0 c1 hpB HRV HF2
      obtain ⟨sp, hsp⟩ : ∃ s, s = str pk := ⟨_, rfl⟩
      have HSp := Lib.hid hsp
      rw [← hsp] at c0
      clear hsp
      have hles := less_kb key pk
      rw [← HSk.out, ← HSp.out] at hles
      have hneq : (sp.toList == sk.toList) = decide (pk = key) := by rw [HSp.out, HSk.out, str_eq hpB.1 HKB.out.1]
      cases dn with
      | true =>
        have HFc := Lib.hid (show putGo key val del l = kvs ps ++ ((if pk = key then [] else [(pk, pv)]) ++ putGo key val true (l.drop (i + 1))) by
          rw [HF2.out, putGo, if_neg (by simp), List.nil_append, Bool.true_or])
        go_wp2
        refine Canon.row [0, 1, 2, 3, 5, 6, 7, 8, 4, 9, 10, 11] (by kernel_rfl) (by kernel_rfl) (by repeat (first | (with_reducible exact Safe.body) | (with_reducible apply Safe.then) | (with_reducible apply Safe.inBlock) | (dsimp +zetaDelta only))) ?_
        simp only [Canon.pick, Canon.wpPlan, List.getElem?_toArray, List.getElem?_cons_zero, List.getElem?_cons_succ]
        have KD : Keeps (fun _ => False) wr wr.drew := (Keeps.refl _ wr).drew
        have HOd := Lib.hid (HO.out.kept KD (fun _ _ h => h) (fun _ _ h => h))
        have HBd := Lib.hid (KD.heap HBx.out (fun h => h))
        have HKd := Lib.hid (HKr.out.trans KD (fun _ _ h => h))
        have HRVd := Lib.hid (HRV.out.kept KD (fun _ _ h => h))
        have c0d := KD.cell c0 (fun h => h)
        have c1d := KD.cell c1 (fun h => h)
        have d0d := KD.cell d0 (fun h => h)
        have d2d := KD.cell d2 (fun h => h)
        generalize wr.drew = wd at *
        go_wp2
        refine ⟨by rfl, trivial, ?_⟩
        have hplc : ps.length ≤ 2 * i + 1 := by omega
        go_wp2
        refine Canon.row [0, 1, 2, 3, 5, 4, 6, 7] (by kernel_rfl) (by kernel_rfl) (by repeat (first | (with_reducible exact Safe.body) | (with_reducible apply Safe.then) | (with_reducible apply Safe.inBlock) | (dsimp +zetaDelta only))) ?_
        simp only [Canon.pick, Canon.wpPlan, List.getElem?_toArray, List.getElem?_cons_zero, List.getElem?_cons_succ]
        have KD2 : Keeps (fun _ => False) wd wd.drew := (Keeps.refl _ wd).drew
        have HOe := Lib.hid (HOd.out.kept KD2 (fun _ _ h => h) (fun _ _ h => h))
        have HBe := Lib.hid (KD2.heap HBd.out (fun h => h))
        have HKe := Lib.hid (HKd.out.trans KD2 (fun _ _ h => h))
        have HRVe := Lib.hid (HRVd.out.kept KD2 (fun _ _ h => h))
        have c0e := KD2.cell c0d (fun h => h)
        have c1e := KD2.cell c1d (fun h => h)
        have d0e := KD2.cell d0d (fun h => h)
        generalize wd.drew = we at *
        by_cases hpk : pk = key
        · have HFd := Lib.hid (show putGo key val del l = kvs ps ++ putGo key val true (l.drop (i + 1)) by rw [HFc.out, if_pos hpk]; rfl)
          rw [decide_eq_true hpk] at hneq
          clear hpk
          go_wp2
          refine ⟨by rfl, trivial, ?_⟩
          go_wp2
          go_roundw
          case rel => exact ⟨i + 1, true, ps, by omega, by go_num, rfl, HOe.out, HKe.out, HBe.out, by omega, HFd⟩
          case measure => simp [intOf]; omega
        · have HFd := Lib.hid (show putGo key val del l = kvs (ps ++ [(pk, pv, .slice Au pv.length cu)]) ++ putGo key val true (l.drop (i + 1)) by rw [HFc.out, if_neg hpk]; unfold kvs; rw [List.map_append, List.append_assoc]; rfl)
          rw [decide_eq_false hpk] at hneq
          clear hpk
          have hze := HKe.out.size
          have hle := lt_of HBe.out
          go_wp2
          refine ⟨by rfl, trivial, ?_⟩
          have hcl := Lib.hid (cells2 c0e c1e)
          clear c0e c1e
          go_wp2_with (first
            | ((with_reducible refine at_ 49 rfl ?_); go_must (refine step_load_cells rfl 60 _ rfl b (o + i * 2) [.string sp, .slice Au pv.length cu] _ rfl hcl.out Try.underlying60 rfl info_pair ?_))
            | ((with_reducible refine at_ 50 rfl ?_); go_must (refine step_lit rfl 57 _ 1 rfl [.agg #[.string sp, .slice Au pv.length cu]] rfl rfl (by decide) 60 _ 2 Try.underlying57 row2_pair (by decide) (by decide) (by intro v hv; rw [List.mem_singleton] at hv; subst hv; rfl) ?_); intro w8 hb8 hk8 hs8)
            | ((with_reducible refine at_ 51 rfl ?_); go_must (refine step_ppush (n0 := w.heap.size + 1) (ok := ok) rfl _ _ rfl _ ps rfl (HOe.out.kept hk8 (fun _ _ h => h) (fun _ _ h => h)) (fun j hj => by have := hok j hj; omega) (by omega) (pk, pv, .slice Au pv.length cu) we.heap.size rfl (by rw [hb8, HSp.out]; rfl) (.inl (HRVe.out.kept hk8 (fun _ _ h => h))) (by omega) ?_); intro v9 w9 hO9 hk9))
          have hk89 := hk8.mono (S' := fun j => w.heap.size + 1 ≤ j) (fun _ _ h => h.elim) |>.trans hk9 (fun _ _ h => h)
          have HK9 := Lib.hid ((HKe.out.mono (S' := fun j => w.heap.size + 1 ≤ j) (fun _ _ h => h.elim)).trans hk89 (fun _ _ h => h) |>.mono (S' := fun _ => False) (fun j hj h => by omega))
          have HB9 := Lib.hid (hk89.heap HBe.out (fun h => by omega))
          go_roundw
          case rel => exact ⟨i + 1, true, ps ++ [(pk, pv, .slice Au pv.length cu)], by omega, by go_num, rfl, hO9, HK9.out, HB9.out, by rw [List.length_append]; simp only [List.length_cons, List.length_nil]; omega, HFd⟩
          case measure => simp [intOf]; omega
      | false =>
        by_cases hlk : kb key < kb pk
        · have HFc0 := (show ∀ u : Value, putGo key val del l = kvs (ps ++ [(key, val, u)]) ++ ((if pk = key then [] else [(pk, pv)]) ++ putGo key val true (l.drop (i + 1))) from fun u => by
            rw [HF2.out, putGo, if_pos ⟨rfl, hlk⟩, Bool.false_or, decide_eq_true hlk]
            unfold kvs
            rw [List.map_append, List.append_assoc]; rfl)
          have HFc1 := Lib.hid HFc0
          rw [decide_eq_true hlk] at hles
          clear hlk HFc0
          go_wp2
          refine Canon.row [0, 1, 2, 3, 5, 6, 7, 8, 4, 9, 10, 11] (by kernel_rfl) (by kernel_rfl) (by repeat (first | (with_reducible exact Safe.body) | (with_reducible apply Safe.then) | (with_reducible apply Safe.inBlock) | (dsimp +zetaDelta only))) ?_
          simp only [Canon.pick, Canon.wpPlan, List.getElem?_toArray, List.getElem?_cons_zero, List.getElem?_cons_succ]
          have KD : Keeps (fun _ => False) wr wr.drew := (Keeps.refl _ wr).drew
          have HOd := Lib.hid (HO.out.kept KD (fun _ _ h => h) (fun _ _ h => h))
          have HBd := Lib.hid (KD.heap HBx.out (fun h => h))
          have HKd := Lib.hid (HKr.out.trans KD (fun _ _ h => h))
          have HRVd := Lib.hid (HRV.out.kept KD (fun _ _ h => h))
          have c0d := KD.cell c0 (fun h => h)
          have c1d := KD.cell c1 (fun h => h)
          have d0d := KD.cell d0 (fun h => h)
          have d2d := KD.cell d2 (fun h => h)
          generalize wr.drew = wd at *
          go_wp2
          refine ⟨by rfl, trivial, ?_⟩
          go_wp2
          refine Canon.region [5] [(⟨w.heap.size, 0, none⟩, .string sk)] [(2, 0)] (.hold [0, 1, 3, 4, 2] (.loud 5 (.seg [6, 7, 8, 9] .stop))) (by kernel_rfl) (by kernel_rfl) (by repeat (first | (with_reducible exact Safe.body) | (with_reducible apply Safe.then) | (with_reducible apply Safe.inBlock) | (dsimp +zetaDelta only))) ?_
          simp only [Canon.pick, Canon.wpPlan, List.getElem?_toArray, List.getElem?_cons_zero, List.getElem?_cons_succ]
          have HLx := Lib.hid (fun (x : World) (h : x.heap[w.heap.size]? = some (.cells [Value.string sk, .bool del, .slice Av val.length cv].toArray 41 (0, 0))) => (by
            intro p hp
            rw [List.mem_singleton] at hp
            subst hp
            exact (cell_of_row x _ 0 _ _ _ h).trans rfl : Cells [(⟨w.heap.size, 0, none⟩, Value.string sk)] x))
          have KDd : Keeps (fun _ => False) wd wd.drew := (Keeps.refl _ wd).drew
          have HOd := Lib.hid (HOd.out.kept KDd (fun _ _ h => h) (fun _ _ h => h))
          have hbx2 := KDd.heap HBd.out (fun h => h)
          have HKd2 := Lib.hid (HKd.out.trans KDd (fun _ _ h => h))
          have HRVd2 := Lib.hid (HRVd.out.kept KDd (fun _ _ h => h))
          have c0d2 := KDd.cell c0d (fun h => h)
          have c1d2 := KDd.cell c1d (fun h => h)
          have HVd := Lib.hid (HV.out.kept HKd2.out (fun _ _ h => h))
          generalize wd.drew = wx at *
          have e0 : wx.cell? ⟨w.heap.size, 0, none⟩ = some (.string sk) := cell_of_row wx _ 0 _ _ _ hbx2
          have e2 : wx.cell? ⟨w.heap.size, 2, none⟩ = some (.slice Av val.length cv) := cell_of_row wx _ 2 _ _ _ hbx2
          have hzx := HKd2.out.size
          have hlx := lt_of hbx2
          clear KDd c0d c1d d0d d2d
          refine ⟨HLx.out _ hbx2, ?_⟩
          go_wp2_with (go_at_call 11; refine Rets.use (copy_c _ val HVd.out (by omega)) ?_; rintro v3 w3 ⟨hO3, hk3⟩)
          have hbx3 := hk3.heap hbx2 (fun h => h)
          have hz3 := hk3.size
          obtain ⟨A3, c3, rfl, _⟩ := hO3.slice
          have e3 : w3.cell? ⟨w.heap.size, 0, none⟩ = some (.string sk) := cell_of_row w3 _ 0 _ _ _ hbx3
          refine ⟨HLx.out _ hbx3, ?_⟩
          go_wp2_with (first
            | ((with_reducible refine at_ 35 rfl ?_); go_must (refine step_lit rfl 57 _ 1 rfl [.agg #[.string sk, .slice A3 val.length c3]] rfl rfl (by decide) 60 _ 2 Try.underlying57 row2_pair (by decide) (by decide) (by intro v hv; rw [List.mem_singleton] at hv; subst hv; rfl) ?_); intro w5 hb5 hk5 hs5)
            | ((with_reducible refine at_ 36 rfl ?_); go_must (refine step_ppush (n0 := w.heap.size + 1) (ok := ok) rfl _ _ rfl (.slice Ao ps.length co) ps rfl ((HOd.out.kept hk3 (fun _ _ h => h) (fun _ _ h => h)).kept hk5 (fun _ _ h => h) (fun _ _ h => h)) (fun j hj => by have := hok j hj; omega) (by omega) (key, val, .slice A3 val.length c3) w3.heap.size rfl (by rw [hb5, HSk.out]; rfl) (.inr ((hO3.mono (ok' := fun j => w.heap.size + 1 ≤ j) (fun j _ h => by omega)).kept hk5 (fun _ _ h => h))) (by omega) ?_); intro v6 w6 hO6 hk6))
          refine ⟨by rfl, ⟨fun _ => rfl, trivial⟩, ?_⟩
          have hk36 := hk3.trans hk5 (fun _ _ h => h) |>.mono (S' := fun j => w.heap.size + 1 ≤ j) (fun _ _ h => h.elim) |>.trans hk6 (fun _ _ h => h)
          have HFc := Lib.hid (HFc1.out (.slice A3 val.length c3))
          have hplc : (ps ++ [((key, val, .slice A3 val.length c3) : PV)]).length ≤ 2 * i + 1 := by rw [List.length_append]; simp only [List.length_cons, List.length_nil]; omega
          have hbw := hok b hb
          have HK6 := Lib.hid ((HKd2.out.mono (S' := fun j => w.heap.size + 1 ≤ j) (fun _ _ h => h.elim)).trans hk36 (fun _ _ h => h) |>.mono (S' := fun _ => False) (fun j hj h => by omega))
          have HB6 := Lib.hid (hk36.heap hbx2 (fun h => by omega))
          have HRV6 := Lib.hid (HRVd2.out.kept hk36 (fun j h e => by have := hok j h; omega))
          have c06 := hk36.cell c0d2 (fun (h : w.heap.size + 1 ≤ b) => by omega)
          have c16 := hk36.cell c1d2 (fun (h : w.heap.size + 1 ≤ b) => by omega)
          have d06 : w6.cell? ⟨w.heap.size, 0, none⟩ = some (.string sk) := cell_of_row w6 _ 0 _ _ _ HB6.out
          obtain ⟨pq, hpq⟩ : ∃ q, q = ps ++ [((key, val, .slice A3 val.length c3) : PV)] := ⟨_, rfl⟩
          rw [← hpq] at hO6 HFc hplc
          obtain ⟨A6, c6, rfl, _⟩ := hO6.slice
          have HO6 := Lib.hid hO6
          clear hpq hk36 hk3 hk5 hk6 hb5 hs5 hO3 hO6 hbx2 hbx3 c0d2 c1d2 e0 e2 e3 hz3 hlx hzx HKd2 HRVd2 HVd HFc1 HO HBx HKr HRV c0 c1 d0 d2
          go_wp2
          refine Canon.row [0, 1, 2, 3, 5, 4, 6, 7] (by kernel_rfl) (by kernel_rfl) (by repeat (first | (with_reducible exact Safe.body) | (with_reducible apply Safe.then) | (with_reducible apply Safe.inBlock) | (dsimp +zetaDelta only))) ?_
          simp only [Canon.pick, Canon.wpPlan, List.getElem?_toArray, List.getElem?_cons_zero, List.getElem?_cons_succ]
          have KD2 : Keeps (fun _ => False) w6 w6.drew := (Keeps.refl _ w6).drew
          have HOe := Lib.hid (HO6.out.kept KD2 (fun _ _ h => h) (fun _ _ h => h))
          have HBe := Lib.hid (KD2.heap HB6.out (fun h => h))
          have HKe := Lib.hid (HK6.out.trans KD2 (fun _ _ h => h))
          have HRVe := Lib.hid (HRV6.out.kept KD2 (fun _ _ h => h))
          have c0e := KD2.cell c06 (fun h => h)
          have c1e := KD2.cell c16 (fun h => h)
          have d0e := KD2.cell d06 (fun h => h)
          generalize w6.drew = we at *
          by_cases hpk : pk = key
          · have HFd := Lib.hid (show putGo key val del l = kvs pq ++ putGo key val true (l.drop (i + 1)) by rw [HFc.out, if_pos hpk]; rfl)
            rw [decide_eq_true hpk] at hneq
            clear hpk
            go_wp2
            refine ⟨by rfl, trivial, ?_⟩
            go_wp2
            go_roundw
            case rel => exact ⟨i + 1, true, pq, by omega, by go_num, rfl, HOe.out, HKe.out, HBe.out, by omega, HFd⟩
            case measure => simp [intOf]; omega
          · have HFd := Lib.hid (show putGo key val del l = kvs (pq ++ [(pk, pv, .slice Au pv.length cu)]) ++ putGo key val true (l.drop (i + 1)) by rw [HFc.out, if_neg hpk]; unfold kvs; rw [List.map_append, List.append_assoc]; rfl)
            rw [decide_eq_false hpk] at hneq
            clear hpk
            have hze := HKe.out.size
            have hle := lt_of HBe.out
            go_wp2
            refine ⟨by rfl, trivial, ?_⟩
            have hcl := Lib.hid (cells2 c0e c1e)
            clear c0e c1e
            go_wp2_with (first
              | ((with_reducible refine at_ 49 rfl ?_); go_must (refine step_load_cells rfl 60 _ rfl b (o + i * 2) [.string sp, .slice Au pv.length cu] _ rfl hcl.out Try.underlying60 rfl info_pair ?_))
              | ((with_reducible refine at_ 50 rfl ?_); go_must (refine step_lit rfl 57 _ 1 rfl [.agg #[.string sp, .slice Au pv.length cu]] rfl rfl (by decide) 60 _ 2 Try.underlying57 row2_pair (by decide) (by decide) (by intro v hv; rw [List.mem_singleton] at hv; subst hv; rfl) ?_); intro w8 hb8 hk8 hs8)
              | ((with_reducible refine at_ 51 rfl ?_); go_must (refine step_ppush (n0 := w.heap.size + 1) (ok := ok) rfl _ _ rfl _ pq rfl (HOe.out.kept hk8 (fun _ _ h => h) (fun _ _ h => h)) (fun j hj => by have := hok j hj; omega) (by omega) (pk, pv, .slice Au pv.length cu) we.heap.size rfl (by rw [hb8, HSp.out]; rfl) (.inl (HRVe.out.kept hk8 (fun _ _ h => h))) (by omega) ?_); intro v9 w9 hO9 hk9))
            have hk89 := hk8.mono (S' := fun j => w.heap.size + 1 ≤ j) (fun _ _ h => h.elim) |>.trans hk9 (fun _ _ h => h)
            have HK9 := Lib.hid ((HKe.out.mono (S' := fun j => w.heap.size + 1 ≤ j) (fun _ _ h => h.elim)).trans hk89 (fun _ _ h => h) |>.mono (S' := fun _ => False) (fun j hj h => by omega))
            have HB9 := Lib.hid (hk89.heap HBe.out (fun h => by omega))
            go_roundw
            case rel => exact ⟨i + 1, true, pq ++ [(pk, pv, .slice Au pv.length cu)], by omega, by go_num, rfl, hO9, HK9.out, HB9.out, by rw [List.length_append]; simp only [List.length_cons, List.length_nil]; omega, HFd⟩
            case measure => simp [intOf]; omega
        · have HFc := Lib.hid (show putGo key val del l = kvs ps ++ ((if pk = key then [] else [(pk, pv)]) ++ putGo key val false (l.drop (i + 1))) by
            rw [HF2.out, putGo, if_neg (fun h => hlk h.2), List.nil_append, Bool.false_or, decide_eq_false hlk])
          rw [decide_eq_false hlk] at hles
          clear hlk
          go_wp2
          refine Canon.row [0, 1, 2, 3, 5, 6, 7, 8, 4, 9, 10, 11] (by kernel_rfl) (by kernel_rfl) (by repeat (first | (with_reducible exact Safe.body) | (with_reducible apply Safe.then) | (with_reducible apply Safe.inBlock) | (dsimp +zetaDelta only))) ?_
          simp only [Canon.pick, Canon.wpPlan, List.getElem?_toArray, List.getElem?_cons_zero, List.getElem?_cons_succ]
          have KD : Keeps (fun _ => False) wr wr.drew := (Keeps.refl _ wr).drew
          have HOd := Lib.hid (HO.out.kept KD (fun _ _ h => h) (fun _ _ h => h))
          have HBd := Lib.hid (KD.heap HBx.out (fun h => h))
          have HKd := Lib.hid (HKr.out.trans KD (fun _ _ h => h))
          have HRVd := Lib.hid (HRV.out.kept KD (fun _ _ h => h))
          have c0d := KD.cell c0 (fun h => h)
          have c1d := KD.cell c1 (fun h => h)
          have d0d := KD.cell d0 (fun h => h)
          have d2d := KD.cell d2 (fun h => h)
          generalize wr.drew = wd at *
          go_wp2
          refine ⟨by rfl, trivial, ?_⟩
          have hplc : ps.length ≤ 2 * i + 1 := by omega
          go_wp2
          refine Canon.row [0, 1, 2, 3, 5, 4, 6, 7] (by kernel_rfl) (by kernel_rfl) (by repeat (first | (with_reducible exact Safe.body) | (with_reducible apply Safe.then) | (with_reducible apply Safe.inBlock) | (dsimp +zetaDelta only))) ?_
          simp only [Canon.pick, Canon.wpPlan, List.getElem?_toArray, List.getElem?_cons_zero, List.getElem?_cons_succ]
          have KD2 : Keeps (fun _ => False) wd wd.drew := (Keeps.refl _ wd).drew
          have HOe := Lib.hid (HOd.out.kept KD2 (fun _ _ h => h) (fun _ _ h => h))
          have HBe := Lib.hid (KD2.heap HBd.out (fun h => h))
          have HKe := Lib.hid (HKd.out.trans KD2 (fun _ _ h => h))
          have HRVe := Lib.hid (HRVd.out.kept KD2 (fun _ _ h => h))
          have c0e := KD2.cell c0d (fun h => h)
          have c1e := KD2.cell c1d (fun h => h)
          have d0e := KD2.cell d0d (fun h => h)
          generalize wd.drew = we at *
          by_cases hpk : pk = key
          · have HFd := Lib.hid (show putGo key val del l = kvs ps ++ putGo key val false (l.drop (i + 1)) by rw [HFc.out, if_pos hpk]; rfl)
            rw [decide_eq_true hpk] at hneq
            clear hpk
            go_wp2
            refine ⟨by rfl, trivial, ?_⟩
            go_wp2
            go_roundw
            case rel => exact ⟨i + 1, false, ps, by omega, by go_num, rfl, HOe.out, HKe.out, HBe.out, by omega, HFd⟩
            case measure => simp [intOf]; omega
          · have HFd := Lib.hid (show putGo key val del l = kvs (ps ++ [(pk, pv, .slice Au pv.length cu)]) ++ putGo key val false (l.drop (i + 1)) by rw [HFc.out, if_neg hpk]; unfold kvs; rw [List.map_append, List.append_assoc]; rfl)
            rw [decide_eq_false hpk] at hneq
            clear hpk
            have hze := HKe.out.size
            have hle := lt_of HBe.out
            go_wp2
            refine ⟨by rfl, trivial, ?_⟩
            have hcl := Lib.hid (cells2 c0e c1e)
            clear c0e c1e
            go_wp2_with (first
              | ((with_reducible refine at_ 49 rfl ?_); go_must (refine step_load_cells rfl 60 _ rfl b (o + i * 2) [.string sp, .slice Au pv.length cu] _ rfl hcl.out Try.underlying60 rfl info_pair ?_))
              | ((with_reducible refine at_ 50 rfl ?_); go_must (refine step_lit rfl 57 _ 1 rfl [.agg #[.string sp, .slice Au pv.length cu]] rfl rfl (by decide) 60 _ 2 Try.underlying57 row2_pair (by decide) (by decide) (by intro v hv; rw [List.mem_singleton] at hv; subst hv; rfl) ?_); intro w8 hb8 hk8 hs8)
              | ((with_reducible refine at_ 51 rfl ?_); go_must (refine step_ppush (n0 := w.heap.size + 1) (ok := ok) rfl _ _ rfl _ ps rfl (HOe.out.kept hk8 (fun _ _ h => h) (fun _ _ h => h)) (fun j hj => by have := hok j hj; omega) (by omega) (pk, pv, .slice Au pv.length cu) we.heap.size rfl (by rw [hb8, HSp.out]; rfl) (.inl (HRVe.out.kept hk8 (fun _ _ h => h))) (by omega) ?_); intro v9 w9 hO9 hk9))
            have hk89 := hk8.mono (S' := fun j => w.heap.size + 1 ≤ j) (fun _ _ h => h.elim) |>.trans hk9 (fun _ _ h => h)
            have HK9 := Lib.hid ((HKe.out.mono (S' := fun j => w.heap.size + 1 ≤ j) (fun _ _ h => h.elim)).trans hk89 (fun _ _ h => h) |>.mono (S' := fun _ => False) (fun j hj h => by omega))
            have HB9 := Lib.hid (hk89.heap HBe.out (fun h => by omega))
            go_roundw
            case rel => exact ⟨i + 1, false, ps ++ [(pk, pv, .slice Au pv.length cu)], by omega, by go_num, rfl, hO9, HK9.out, HB9.out, by rw [List.length_append]; simp only [List.length_cons, List.length_nil]; omega, HFd⟩
            case measure => simp [intOf]; omega
    · obtain rfl : i = l.length := by omega
      have HFe := Lib.hid (show putGo key val del l = kvs ps ++ if dn = true then [] else [(key, val)] by rw [HF.out, List.drop_length]; rfl)
      have d0 : wr.cell? ⟨w.heap.size, 0, none⟩ = some (.string sk) := cell_of_row wr _ 0 _ _ _ hbx
      have d2 : wr.cell? ⟨w.heap.size, 2, none⟩ = some (.slice Av val.length cv) := cell_of_row wr _ 2 _ _ _ hbx
      have HVr := Lib.hid (HV.out.kept hkr (fun _ _ h => h))
      clear HF hO hkr hbx
      cases dn with
      | true =>
        go_wp2
        go_ret
        refine ⟨HKr.out, ?_⟩
        show Pairs wr _ _ (putGo key val del l)
        rw [HFe.out]
        simp only [if_true, List.append_nil]
        exact HO.out.pairs.mono (fun j h => h.imp id (fun h => by omega))
      | false =>
        go_wp2
        refine Canon.region [5] [(⟨w.heap.size, 0, none⟩, .string sk)] [(2, 0)] (.hold [0, 1, 3, 4, 2] (.loud 5 (.seg [6, 7, 8, 9] .stop))) (by kernel_rfl) (by kernel_rfl) (by repeat (first | (with_reducible exact Safe.body) | (with_reducible apply Safe.then) | (with_reducible apply Safe.inBlock) | (dsimp +zetaDelta only))) ?_
        simp only [Canon.pick, Canon.wpPlan, List.getElem?_toArray, List.getElem?_cons_zero, List.getElem?_cons_succ]
        have HLx := Lib.hid (fun (x : World) (h : x.heap[w.heap.size]? = some (.cells [Value.string sk, .bool del, .slice Av val.length cv].toArray 41 (0, 0))) => (by
          intro p hp
          rw [List.mem_singleton] at hp
          subst hp
          exact (cell_of_row x _ 0 _ _ _ h).trans rfl : Cells [(⟨w.heap.size, 0, none⟩, Value.string sk)] x))
        have KDd : Keeps (fun _ => False) wr wr.drew := (Keeps.refl _ wr).drew
        have HOd := Lib.hid (HO.out.kept KDd (fun _ _ h => h) (fun _ _ h => h))
        have hbx2 := KDd.heap HBx.out (fun h => h)
        have HKd2 := Lib.hid (HKr.out.trans KDd (fun _ _ h => h))
        have HVd := Lib.hid (HVr.out.kept KDd (fun _ _ h => h))
        generalize wr.drew = wx at *
        have e0 : wx.cell? ⟨w.heap.size, 0, none⟩ = some (.string sk) := cell_of_row wx _ 0 _ _ _ hbx2
        have e2 : wx.cell? ⟨w.heap.size, 2, none⟩ = some (.slice Av val.length cv) := cell_of_row wx _ 2 _ _ _ hbx2
        have hzx := HKd2.out.size
        have hlx := lt_of hbx2
        clear KDd d0 d2
        refine ⟨HLx.out _ hbx2, ?_⟩
        go_wp2_with (go_at_call 11; refine Rets.use (copy_c _ val HVd.out (by omega)) ?_; rintro v3 w3 ⟨hO3, hk3⟩)
        have hbx3 := hk3.heap hbx2 (fun h => h)
        have hz3 := hk3.size
        obtain ⟨A3, c3, rfl, _⟩ := hO3.slice
        have e3 : w3.cell? ⟨w.heap.size, 0, none⟩ = some (.string sk) := cell_of_row w3 _ 0 _ _ _ hbx3
        refine ⟨HLx.out _ hbx3, ?_⟩
        go_wp2_with (first
          | ((with_reducible refine at_ 61 rfl ?_); go_must (refine step_lit rfl 57 _ 1 rfl [.agg #[.string sk, .slice A3 val.length c3]] rfl rfl (by decide) 60 _ 2 Try.underlying57 row2_pair (by decide) (by decide) (by intro v hv; rw [List.mem_singleton] at hv; subst hv; rfl) ?_); intro w5 hb5 hk5 hs5)
          | ((with_reducible refine at_ 62 rfl ?_); go_must (refine step_ppush (n0 := w.heap.size + 1) (ok := ok) rfl _ _ rfl (.slice Ao ps.length co) ps rfl ((HOd.out.kept hk3 (fun _ _ h => h) (fun _ _ h => h)).kept hk5 (fun _ _ h => h) (fun _ _ h => h)) (fun j hj => by have := hok j hj; omega) (by omega) (key, val, .slice A3 val.length c3) w3.heap.size rfl (by rw [hb5, HSk.out]; rfl) (.inr ((hO3.mono (ok' := fun j => w.heap.size + 1 ≤ j) (fun j _ h => by omega)).kept hk5 (fun _ _ h => h))) (by omega) ?_); intro v6 w6 hO6 hk6))
        refine ⟨by rfl, ⟨fun _ => rfl, trivial⟩, ?_⟩
        have hk36 := hk3.trans hk5 (fun _ _ h => h) |>.mono (S' := fun j => w.heap.size + 1 ≤ j) (fun _ _ h => h.elim) |>.trans hk6 (fun _ _ h => h)
        have HK6 := Lib.hid ((HKd2.out.mono (S' := fun j => w.heap.size + 1 ≤ j) (fun _ _ h => h.elim)).trans hk36 (fun _ _ h => h) |>.mono (S' := fun _ => False) (fun j hj h => by omega))
        have HO6 := Lib.hid hO6
        clear hk36 hk3 hk5 hk6 hb5 hs5 hO3 hO6 hbx2 hbx3
        go_wp2
        go_ret
        refine ⟨HK6.out, ?_⟩
        show Pairs w6 _ _ (putGo key val del l)
        rw [HFe.out]
        simp only [Bool.false_eq_true, if_false]
        have hp := HO6.out.pairs
        unfold kvs at hp
        rw [List.map_append] at hp
        exact hp.mono (fun j h => h.imp id (fun h => by omega))
end Go.Proofs.Ytbiohidelhfaiaa
end

section
namespace Go.Proofs.Ytbiohidelhfaiaa
open Go.RowKit Go.Canon Go.Mem
open Go.Proofs.Ytbiohidelhfaiaa.Sto (Chg)
set_option linter.unusedVariables false
set_option linter.unusedSimpArgs false
theorem putGo_sub (k v : List Int) : ∀ (l : List KV) (dn : Bool), (∀ q ∈ putGo k v dn l, q = (k, v) ∨ q ∈ l) ∧ (putGo k v dn l).length ≤ l.length + 1 := by
  intro l
  induction l with
  | nil => intro dn; cases dn <;> simp [putGo]
  | cons p r ih =>
    intro dn
    rw [putGo]
    obtain ⟨i1, i2⟩ := ih (dn || decide (kb k < kb p.1))
    have i3 : dn = true → (putGo k v true r).length ≤ r.length := fun _ => by rw [putGo_true]; exact List.length_filter_le ..
    constructor
    · intro q hq
      rcases List.mem_append.1 hq with h | h
      · split at h
        · rw [List.mem_singleton] at h; exact .inl h
        · simp at h
      · rcases List.mem_append.1 h with h | h
        · split at h
          · simp at h
          · rw [List.mem_singleton] at h; subst h; exact .inr (List.mem_cons_self ..)
        · exact (i1 q h).imp id (fun h => List.mem_cons_of_mem _ h)
    · have e1 : (if p.1 = k then ([] : List KV) else [p]).length ≤ 1 := by split <;> simp
      rw [List.length_append, List.length_append, List.length_cons]
      by_cases h1 : dn = false ∧ kb k < kb p.1
      · rw [if_pos h1]
        have e2 : (dn || decide (kb k < kb p.1)) = true := by rw [decide_eq_true h1.2, Bool.or_true]
        rw [e2, putGo_true]
        have := List.length_filter_le (fun q : KV => decide (q.1 ≠ k)) r
        simp only [List.length_cons, List.length_nil]
        omega
      · rw [if_neg h1]
        simp only [List.length_nil]
        omega
theorem PB.put {l : List KV} (h : PB l) {c : Chg} (hc : IsB c.key ∧ IsB c.val ∧ c.key.length ≤ 1000000 ∧ c.val.length ≤ 1000000) : PB (putP l c) := by
  intro q hq
  rcases (putGo_sub c.key c.val l c.del).1 q hq with rfl | h1
  · exact hc
  · exact h q h1
theorem PB.done {l : List KV} (h : PB l) : ∀ (cs : List Chg), ChgB cs → PB (doneP l cs) ∧ (doneP l cs).length ≤ l.length + cs.length := by
  intro cs
  induction cs generalizing l with
  | nil => intro _; exact ⟨h, Nat.le_refl _⟩
  | cons c cs ih =>
    intro hc
    have h1 := ih (h.put (hc c (List.mem_cons_self ..))) (fun d hd => hc d (List.mem_cons_of_mem _ hd))
    have h2 := (putGo_sub c.key c.val l c.del).2
    refine ⟨h1.1, Nat.le_trans h1.2 ?_⟩
    rw [List.length_cons]
    unfold putP
    omega
theorem Rd.there {w : World} {ok : Nat → Prop} {v : Value} {n : Nat} {cs : List Value} (h : Rd w ok v n cs) : Rd w (fun j => ok j ∧ j < w.heap.size) v n cs := by
  obtain ⟨A, c, h1, h2, h3, h4⟩ := h
  refine ⟨A, c, h1, h2, h3, ?_⟩
  rcases h4 with h4 | ⟨b, o, e1, e2, e3⟩
  · exact .inl h4
  · cases cs with
    | nil => exact .inl rfl
    | cons x r =>
      have h0 := e3 0 x rfl
      exact .inr ⟨b, o, e1, ⟨e2, World.block_lt_of_cell? w _ h0⟩, e3⟩
theorem Pairs.there {w : World} {ok : Nat → Prop} {v : Value} {l : List KV} (h : Pairs w ok v l) : Pairs w (fun j => ok j ∧ j < w.heap.size) v l := by
  obtain ⟨A, c, h1, h2, h3, h4⟩ := h
  refine ⟨A, c, h1, h2, h3, fun i d hi => ?_⟩
  obtain ⟨b, o, e, hb, u, c0, c1, hr⟩ := h4 i d hi
  exact ⟨b, o, e, ⟨hb, World.block_lt_of_cell? w _ c0⟩, u, c0, c1, Rd.there hr⟩
set_option maxHeartbeats 3200000 in
set_option maxRecDepth 100000 in
theorem done11_c {w : World} {ok ok2 : Nat → Prop} (l : List KV) (hB : PB l) (hl : l.length ≤ 900000) (v : Value) (h : Pairs w ok v l) (cs : List Chg) (hcB : ChgB cs) (hcl : cs.length ≤ 1000) (vc : Value) (hc : Chgs w ok2 vc cs) : Calls Try.prog 31 #[v, vc] w (Rets (PutIs w (fun j => ok j ∨ ok2 j) (doneP l cs))) := by
  obtain ⟨A, cc, rfl, hlc, _, _⟩ := id h
  obtain ⟨Ac, c2, rfl, hlc2, _, _⟩ := id hc
  have H := Lib.hid ((h.mono (ok' := fun j => (ok j ∨ ok2 j) ∨ w.heap.size ≤ j) (fun j h => .inl (.inl h))).there)
  have HC := Lib.hid hc
  have HB := Lib.hid hB
  have HCB := Lib.hid hcB
  clear h hc hB hcB
  go_enter Try.func31, Try.ntmps31
  go_wp2
  go_loopw [0, 5] (fun ov iv wr => ∃ i : Nat, i ≤ cs.length ∧ iv = .int .i64 i ∧ Keeps (fun _ => False) w wr ∧ Pairs wr (fun j => ((ok j ∨ ok2 j) ∨ w.heap.size ≤ j) ∧ j < wr.heap.size) ov (doneP l (cs.take i))) (fun _ iv _ => cs.length - (intOf iv).toNat)
  case atStart => exact ⟨0, Nat.zero_le _, rfl, Keeps.refl _ _, H.out⟩
  case round =>
    obtain ⟨i, hi, rfl, hkr, hO⟩ := hrel
    have HKr := Lib.hid hkr
    have hzr := hkr.size
    obtain ⟨Ao, co, rfl, _⟩ := id hO
    by_cases hlt : i < cs.length
    · have HN := Lib.hid (doneP_next l hlt)
      have hPB := PB.done HB.out (cs.take i) (fun c hc => HCB.out c (List.mem_of_mem_take hc))
      have hPl : (doneP l (cs.take i)).length ≤ 901000 := by have := hPB.2; rw [List.length_take] at this; omega
      obtain ⟨A', c', e, _, _, hin⟩ := HC.out.kept hkr (fun _ _ h => h)
      cases e
      obtain ⟨b, o, e, hb, vV, c0, c1, c2, hrV⟩ := hin i _ (List.getElem?_eq_getElem hlt)
      cases e
      obtain ⟨Av, cv, rfl, _⟩ := hrV.slice
      have hcd := HCB.out _ (List.getElem_mem hlt)
      have HP := Lib.hid (put11_c (doneP l (cs.take i)) hPB.1 (by omega) _ hO (fun k h => h.2) cs[i] hcd _ ((Rd.there hrV).mono (fun j h => ⟨.inl (.inr h.1), h.2⟩)))
      clear hin hrV hO hkr hPB
      generalize cs[i] = d at *
      generalize doneP l (cs.take i) = li at *
      obtain ⟨key, del, val⟩ := d
      simp only at c0 c1 c2 HP HN
      generalize str key = sk at *
      go_wp2_with (go_at_call 60; refine Rets.use HP.out ?_; rintro v2 w2 ⟨hk2, hO2⟩)
      have hz2 := hk2.size
      go_roundw
      case rel => exact ⟨i + 1, by omega, by go_num, HKr.out.trans hk2 (fun _ _ h => h), by rw [HN.out]; exact hO2.there.mono (fun j h => ⟨h.1.elim (fun h => h.1) (fun h => .inr (by omega)), h.2⟩)⟩
      case measure => simp [intOf]; omega
    · obtain rfl : i = cs.length := by omega
      rw [List.take_length] at hO
      have HO := Lib.hid hO
      clear hO hkr
      go_wp2
      go_ret
      exact ⟨HKr.out, HO.out.mono (fun j h => h.1)⟩
set_option maxHeartbeats 6400000 in
set_option maxRecDepth 100000 in
theorem same11_c {w : World} {ok ok2 : Nat → Prop} (a b : List KV) (hA : PB a) (hB : PB b) (ha1 : a.length ≤ 1000000) (hb1 : b.length ≤ 1000000) (va vb : Value) (ha : Pairs w ok va a) (hb : Pairs w ok2 vb b) : Calls Try.prog 30 #[va, vb] w (Rets (Still (.bool (decide (a = b))) w)) := by
  obtain ⟨A, c, rfl, hlc, _, _⟩ := id ha
  obtain ⟨A2, c2, rfl, hlc2, _, _⟩ := id hb
  have H := Lib.hid ha
  have H2 := Lib.hid hb
  have HA := Lib.hid hA
  have HB := Lib.hid hB
  clear ha hb hA hB
  by_cases hn : a.length = b.length
  · have hq : ((a.length : Int) != b.length) = false := by rw [hn]; simp
    have HN := Lib.hid hn
    have hle : a.length ≤ b.length := by omega
    clear hn
    go_enter Try.func30, Try.ntmps30
    go_wp2
    go_loopw [5] (fun i wr => ∃ k : Nat, k ≤ a.length ∧ i = .int .i64 k ∧ Keeps (fun _ => False) w wr ∧ Hid (a.take k = b.take k)) (fun i _ => a.length - (intOf i).toNat)
    case atStart => exact ⟨0, Nat.zero_le _, rfl, Keeps.refl _ _, Lib.hid rfl⟩
    case round =>
      obtain ⟨k, hk, rfl, hkr, HF⟩ := hrel
      have HKr := Lib.hid hkr
      by_cases hlt : k < a.length
      · have hlt2 : k < b.length := by omega
        have H' := Lib.hid (H.out.kept hkr (fun _ _ h => h))
        have H2' := Lib.hid (H2.out.kept hkr (fun _ _ h => h))
        obtain ⟨A', c', e, _, _, hin⟩ := H'.out
        cases e
        obtain ⟨g, o, e, _, vV, c0, c1, hrV⟩ := hin k _ (List.getElem?_eq_getElem hlt)
        cases e
        obtain ⟨A2', c2', e, _, _, hin2⟩ := H2'.out
        cases e
        obtain ⟨g2, o2, e, _, vV2, d0, d1, hrV2⟩ := hin2 k _ (List.getElem?_eq_getElem hlt2)
        cases e
        obtain ⟨Av, cv, rfl, _⟩ := hrV.slice
        obtain ⟨Av2, cv2, rfl, _⟩ := hrV2.slice
        obtain ⟨x1, x2, x3, x4⟩ := HA.out _ (List.getElem_mem hlt)
        obtain ⟨y1, y2, y3, y4⟩ := HB.out _ (List.getElem_mem hlt2)
        have HNx := Lib.hid (show (a.take (k + 1) = a.take k ++ [a[k]]) ∧ (b.take (k + 1) = b.take k ++ [b[k]]) from ⟨by rw [List.take_add_one, List.getElem?_eq_getElem hlt]; rfl, by rw [List.take_add_one, List.getElem?_eq_getElem hlt2]; rfl⟩)
        have HNe := Lib.hid (show a[k] ≠ b[k] → decide (a = b) = false from fun h => decide_eq_false (fun e => h (by subst e; rfl)))
        have hse := str_eq x1 y1
        have HRV := Lib.hid hrV
        have HRV2 := Lib.hid hrV2
        clear hin hin2 hrV hrV2 hkr
        generalize a[k] = d at *
        generalize b[k] = f at *
        obtain ⟨key, val⟩ := d
        obtain ⟨key2, val2⟩ := f
        simp only at c0 c1 d0 d1 x1 x2 x3 x4 y1 y2 y3 y4 HRV HRV2 hse
        generalize str key = sk at *
        generalize str key2 = sk2 at *
        clear x1 y1
        by_cases hkk : key = key2
        · by_cases hvv : val = val2
          · have HF2 := Lib.hid (show a.take (k + 1) = b.take (k + 1) by rw [HNx.out.1, HNx.out.2, HF.out, hkk, hvv])
            have HSm := Lib.hid (fun (w' : World) (K : Keeps (fun _ => False) wr w') => same_c _ _ val val2 (HRV.out.kept K (fun _ _ h => h)) (HRV2.out.kept K (fun _ _ h => h)) (by omega))
            rw [decide_eq_true hvv] at HSm
            rw [decide_eq_true hkk] at hse
            clear hkk hvv
            go_wp2
            refine Canon.row [0, 1, 2, 3, 5, 6, 7, 8, 4, 9, 10, 11, 12, 13, 14, 15, 17, 18, 19, 20, 16, 21, 22, 23, 24] (by kernel_rfl) (by kernel_rfl) (by repeat (first | (with_reducible exact Safe.body) | (with_reducible apply Safe.then) | (with_reducible apply Safe.inBlock) | (dsimp +zetaDelta only))) ?_
            simp only [Canon.pick, Canon.wpPlan, List.getElem?_toArray, List.getElem?_cons_zero, List.getElem?_cons_succ]
            have KD : Keeps (fun _ => False) wr wr.drew := (Keeps.refl _ wr).drew
            go_wp2_with (go_at_call 16; refine Rets.use (HSm.out _ KD) ?_; rintro _ w9 ⟨rfl, hk9⟩)
            have HK9 := Lib.hid ((HKr.out.trans KD (fun _ _ h => h)).trans hk9 (fun _ _ h => h))
            refine ⟨by rfl, trivial, ?_⟩
            go_wp2
            go_roundw
            case rel => exact ⟨k + 1, by omega, by go_num, HK9.out, HF2⟩
            case measure => simp [intOf]; omega
          · have HG := Lib.hid (HNe.out (fun e => hvv (by simp only [Prod.mk.injEq] at e; exact e.2)))
            have HSm := Lib.hid (fun (w' : World) (K : Keeps (fun _ => False) wr w') => same_c _ _ val val2 (HRV.out.kept K (fun _ _ h => h)) (HRV2.out.kept K (fun _ _ h => h)) (by omega))
            rw [decide_eq_false hvv] at HSm
            rw [decide_eq_true hkk] at hse
            clear hkk hvv
            go_wp2
            refine Canon.row [0, 1, 2, 3, 5, 6, 7, 8, 4, 9, 10, 11, 12, 13, 14, 15, 17, 18, 19, 20, 16, 21, 22, 23, 24] (by kernel_rfl) (by kernel_rfl) (by repeat (first | (with_reducible exact Safe.body) | (with_reducible apply Safe.then) | (with_reducible apply Safe.inBlock) | (dsimp +zetaDelta only))) ?_
            simp only [Canon.pick, Canon.wpPlan, List.getElem?_toArray, List.getElem?_cons_zero, List.getElem?_cons_succ]
            have KD : Keeps (fun _ => False) wr wr.drew := (Keeps.refl _ wr).drew
            go_wp2_with (go_at_call 16; refine Rets.use (HSm.out _ KD) ?_; rintro _ w9 ⟨rfl, hk9⟩)
            have HK9 := Lib.hid ((HKr.out.trans KD (fun _ _ h => h)).trans hk9 (fun _ _ h => h))
            refine ⟨by rfl, trivial, ?_⟩
            go_wp2
            go_ret
            exact ⟨by rw [HG.out] <;> rfl, HK9.out⟩
        · have HG := Lib.hid (HNe.out (fun e => hkk (by simp only [Prod.mk.injEq] at e; exact e.1)))
          rw [decide_eq_false hkk] at hse
          clear hkk
          go_wp2
          refine Canon.row [0, 1, 2, 3, 5, 6, 7, 8, 4, 9, 10, 11, 12, 13, 14, 15, 17, 18, 19, 20, 16, 21, 22, 23, 24] (by kernel_rfl) (by kernel_rfl) (by repeat (first | (with_reducible exact Safe.body) | (with_reducible apply Safe.then) | (with_reducible apply Safe.inBlock) | (dsimp +zetaDelta only))) ?_
          simp only [Canon.pick, Canon.wpPlan, List.getElem?_toArray, List.getElem?_cons_zero, List.getElem?_cons_succ]
          have HK9 := Lib.hid (HKr.out.trans ((Keeps.refl (fun _ => False) wr).drew) (fun _ _ h => h))
          go_wp2
          refine ⟨by rfl, trivial, ?_⟩
          go_wp2
          go_ret
          exact ⟨by rw [HG.out] <;> rfl, HK9.out⟩
      · obtain rfl : k = a.length := by omega
        have HG := Lib.hid (show decide (a = b) = true from decide_eq_true (by have := HF.out; rw [List.take_length, HN.out, List.take_length] at this; exact this))
        clear hkr
        go_wp2
        go_ret
        exact ⟨by rw [HG.out] <;> rfl, HKr.out⟩
  · have hq : ((a.length : Int) != b.length) = true := by simp; omega
    have HG := Lib.hid (show decide (a = b) = false from decide_eq_false (fun e => hn (by rw [e])))
    go_enter Try.func30, Try.ntmps30
    go_wp2
    go_ret
    exact ⟨by rw [HG.out] <;> rfl, Keeps.refl _ _⟩
theorem bytesP_next {l : List KV} {k : Nat} (h : k < l.length) : bytesP (l.take (k + 1)) = bytesP (l.take k) + (l[k].1.length : Int) + l[k].2.length := by
  unfold bytesP
  rw [List.take_add_one, List.getElem?_eq_getElem h, List.map_append, List.sum_append]
  simp
  omega
set_option maxHeartbeats 3200000 in
set_option maxRecDepth 100000 in
theorem bytes11_c {w : World} {ok : Nat → Prop} (l : List KV) (hB : PB l) (hl : l.length ≤ 1000000) (v : Value) (h : Pairs w ok v l) : Calls Try.prog 36 #[v] w (Rets (Still (.int .i64 (bytesP l)) w)) := by
  obtain ⟨A, c, rfl, hlc, _, _⟩ := id h
  have H := Lib.hid h
  have HB := Lib.hid hB
  clear h hB
  go_enter Try.func36, Try.ntmps36
  go_wp2
  go_loopw [3, 4] (fun nv iv wr => ∃ (k : Nat) (s : Int), k ≤ l.length ∧ iv = .int .i64 k ∧ nv = .int .i64 s ∧ 0 ≤ s ∧ s ≤ 2000000 * k ∧ Keeps (fun _ => False) w wr ∧ Hid (bytesP (l.take k) = s)) (fun _ iv _ => l.length - (intOf iv).toNat)
  case atStart => exact ⟨0, 0, Nat.zero_le _, rfl, rfl, by decide, by decide, Keeps.refl _ _, Lib.hid rfl⟩
  case round =>
    obtain ⟨k, s, hk, rfl, rfl, hs0, hs1, hkr, HF⟩ := hrel
    have HKr := Lib.hid hkr
    by_cases hlt : k < l.length
    · obtain ⟨A', c', e, _, _, hin⟩ := H.out.kept hkr (fun _ _ h => h)
      cases e
      obtain ⟨b, o, e, hb, u, c0, c1, hrV⟩ := hin k _ (List.getElem?_eq_getElem hlt)
      cases e
      obtain ⟨Au, cu, rfl, _⟩ := hrV.slice
      have hp := HB.out _ (List.getElem_mem hlt)
      have HN := Lib.hid (bytesP_next hlt)
      clear hin hrV hkr
      generalize l[k] = p at *
      obtain ⟨pk, pv⟩ := p
      simp only at c0 c1 hp HN
      have zk := str_size pk
      generalize str pk = sk at *
      have hp3 := hp.2.2.1
      have hp4 := hp.2.2.2
      clear hp
      go_wp2
      refine Canon.row [0, 1, 2, 3, 4, 8, 9, 10, 11, 5, 6, 7, 12, 13, 14, 15] (by kernel_rfl) (by kernel_rfl) (by repeat (first | (with_reducible exact Safe.body) | (with_reducible apply Safe.then) | (with_reducible apply Safe.inBlock) | (dsimp +zetaDelta only))) ?_
      simp only [Canon.pick, Canon.wpPlan, List.getElem?_toArray, List.getElem?_cons_zero, List.getElem?_cons_succ]
      have HKd := Lib.hid (HKr.out.drew)
      go_wp2
      refine ⟨by rfl, trivial, ?_⟩
      go_wp2
      go_roundw
      case rel => exact ⟨k + 1, s + pk.length + pv.length, by omega, by go_num, by go_num, by omega, by omega, HKd.out, Lib.hid (by rw [HN.out, HF.out])⟩
      case measure => simp [intOf]; omega
    · obtain rfl : k = l.length := by omega
      have HE := Lib.hid (show bytesP l = s by have := HF.out; rwa [List.take_length] at this)
      clear hkr
      go_wp2
      go_ret
      exact ⟨by rw [HE.out] <;> rfl, HKr.out⟩
def getP (l : List KV) (k : List Int) : Option (List Int) := (l.find? fun p => decide (p.1 = k)).map (·.2)
/-- A value, if there is one. -/
def GetIs (w : World) (ok : Nat → Prop) (r : Option (List Int)) : Value → World → Prop := fun v w' => Keeps (fun _ => False) w w' ∧ match r with
  | none => v = .tuple #[.slice none 0 0, .bool false]
  | some x => ∃ u, v = .tuple #[u, .bool true] ∧ Rd w' ok u x.length (Disk.bytes8 x)
set_option maxHeartbeats 3200000 in
set_option maxRecDepth 100000 in
theorem rget11_c {w : World} {ok : Nat → Prop} (l : List KV) (hB : PB l) (hl : l.length ≤ 1000000) (x : Nat) (v lv qv : Value) (hx : w.heap[x]? = some (.cells [lv, qv, v].toArray 77 (0, 0))) (h : Pairs w ok v l) (key : List Int) (hk : IsB key) : Calls Try.prog 39 #[.pointer (some ⟨x, 0, none⟩), .string (str key)] w (Rets (GetIs w ok (getP l key))) := by
  obtain ⟨A, c, rfl, hlc, _, _⟩ := id h
  have H := Lib.hid h
  have HB := Lib.hid hB
  have cx : w.cell? ⟨x, 2, none⟩ = some (.slice A l.length c) := cell_of_row w x 2 _ _ _ hx
  have HkB := Lib.hid hk
  obtain ⟨sk, hsk⟩ : ∃ s, s = str key := ⟨_, rfl⟩
  have HSk := Lib.hid hsk
  rw [← hsk]
  clear h hB hk hsk hx
  go_enter Try.func39, Try.ntmps39
  go_wp2
  go_loopw [6] (fun iv wr => ∃ k : Nat, k ≤ l.length ∧ iv = .int .i64 k ∧ wr = w ∧ Hid (getP l key = getP (l.drop k) key)) (fun iv _ => l.length - (intOf iv).toNat)
  case atStart => exact ⟨0, Nat.zero_le _, rfl, rfl, Lib.hid rfl⟩
  case round =>
    obtain ⟨k, hk, rfl, rfl, HF⟩ := hrel
    by_cases hlt : k < l.length
    · obtain ⟨A', c', e, _, _, hin⟩ := H.out
      cases e
      obtain ⟨b, o, e, hb, u, c0, c1, hrV⟩ := hin k _ (List.getElem?_eq_getElem hlt)
      cases e
      obtain ⟨Au, cu, rfl, _⟩ := hrV.slice
      have hp := HB.out _ (List.getElem_mem hlt)
      have HF2 := Lib.hid (HF.out.trans (congrArg (fun z => getP z key) (List.drop_eq_getElem_cons hlt)))
      have he := str_eq hp.1 HkB.out
      rw [← HSk.out] at he
      have HRV := Lib.hid hrV
      clear hin hrV HF hp
      generalize l[k] = p at *
      obtain ⟨pk, pv⟩ := p
      simp only at c0 c1 he HF2 HRV
      generalize str pk = sp at *
      by_cases hkk : pk = key
      · have HG := Lib.hid (show getP l key = some pv by rw [HF2.out]; unfold getP; rw [List.find?_cons_of_pos (by simpa using hkk)]; rfl)
        rw [decide_eq_true hkk] at he
        clear hkk
        go_wp2
        go_ret2
        rw [HG.out]
        exact ⟨Keeps.refl _ _, _, rfl, HRV.out⟩
      · have HG := Lib.hid (show getP l key = getP (l.drop (k + 1)) key by rw [HF2.out]; unfold getP; rw [List.find?_cons_of_neg (by simpa using hkk)])
        rw [decide_eq_false hkk] at he
        clear hkk
        go_wp2
        go_roundw
        case rel => exact ⟨k + 1, by omega, by go_num, by trivial, HG⟩
        case measure => simp [intOf]; omega
    · obtain rfl : k = l.length := by omega
      have HG := Lib.hid (show getP l key = none by rw [HF.out, List.drop_length]; rfl)
      go_wp2
      go_ret2
      rw [HG.out]
      exact ⟨Keeps.refl _ _, rfl⟩
end Go.Proofs.Ytbiohidelhfaiaa
end

section
namespace Go.Proofs.Ytbiohidelhfaiaa
open Go.RowKit Go.Canon Go.Mem Go.Args
open Go.Disk (St)
set_option linter.unusedVariables false
set_option linter.unusedSimpArgs false
set_option maxHeartbeats 1600000 in
set_option maxRecDepth 100000 in
theorem room_c {w : World} {P Q : Nat → Prop} {g x : Nat} {s : St} {L : LogS} (hd : DIs w P g s) (hm : LogMem w x Q g L) (hn : L.next ≤ s.now.length) : Calls Try.prog 63 #[.pointer (some ⟨x, 0, none⟩)] w (Rets (Still (.int .i64 (roomP s.now.length L.next)) w)) := by
  obtain ⟨c0, c2, _⟩ := hm.cells
  have hmost := hd.ok.most
  have HDd := Lib.hid (hd.kept ((Keeps.refl (fun _ => False) w).drew) (fun _ _ h => h))
  have HSec := Lib.hid (dSectors_c HDd.out)
  have c0d := ((Keeps.refl (fun _ => False) w).drew).cell c0 (fun h => h)
  have c2d := ((Keeps.refl (fun _ => False) w).drew).cell c2 (fun h => h)
  have HKd := Lib.hid ((Keeps.refl (fun _ => False) w).drew)
  clear hd hm
  generalize L.next = nx at *
  generalize s.now.length = N at *
  obtain ⟨z, hz⟩ : ∃ z : Int, (N : Int) - nx = z := ⟨_, rfl⟩
  have hz0 : 0 ≤ z := by omega
  have hz1 : z ≤ 4096 := by omega
  have HR := Lib.hid (show roomP N nx = if z * 64 - 20 < -1 then -1 else if 16384 < z * 64 - 20 then 16384 else z * 64 - 20 by unfold roomP; rw [hz, Int.mul_comm])
  have HSz := Lib.hid (fun w => size0_c w)
  generalize roomP N nx = r at *
  go_enter Try.func63, Try.ntmps63
  go_wp2
  refine Canon.region [4] [(⟨x, 2, none⟩, .int .i64 nx)] [(8, 0)] (.hold [0, 1, 2, 5, 6, 7, 3, 8] (.loud 4 (.seg [9, 10, 11] .stop))) (by kernel_rfl) (by kernel_rfl) (by repeat (first | (with_reducible exact Safe.body) | (with_reducible apply Safe.then) | (with_reducible apply Safe.inBlock) | (dsimp +zetaDelta only))) ?_
  simp only [Canon.pick, Canon.wpPlan, List.getElem?_toArray, List.getElem?_cons_zero, List.getElem?_cons_succ]
  generalize w.drew = wd at *
  have HX := Lib.hid (show ∀ p ∈ [((⟨x, 2, none⟩ : Addr), Value.int .i64 nx)], wd.cell? p.1 = some p.2 by
    intro p hp; rw [List.mem_singleton] at hp; subst hp; exact c2d)
  refine ⟨HX.out, ?_⟩
  go_wp2_with (go_at_call 67; go_loud (refine Rets.use HSec.out ?_); rintro _ _ ⟨rfl, rfl⟩)
  refine ⟨HX.out, ?_⟩
  go_wp2
  refine ⟨by rfl, ⟨fun _ => rfl, trivial⟩, ?_⟩
  by_cases h1 : z * 64 - 20 < -1
  · have e : r = -1 := by have := HR.out; rwa [if_pos h1] at this
    have h2 : z * 64 - 20 < 16384 := by omega
    go_wp2_with (go_at_call 80; go_loud (refine Rets.use (HSz.out _) ?_); rintro _ _ ⟨rfl, rfl⟩)
    go_ret
    rw [e]
    refine ⟨?_, HKd.out⟩
    first | rfl | (show Value.int .i64 (min (max (z * 64 - 20) (-1)) 16384) = Value.int .i64 (-1); congr 1; omega)
  · have h1b : -1 < z * 64 - 20 := by omega
    by_cases h2 : 16384 < z * 64 - 20
    · have e : r = 16384 := by have := HR.out; rwa [if_neg h1, if_pos h2] at this
      go_wp2_with (go_at_call 80; go_loud (refine Rets.use (HSz.out _) ?_); rintro _ _ ⟨rfl, rfl⟩)
      go_ret
      rw [e]
      refine ⟨?_, HKd.out⟩
      first | rfl | (show Value.int .i64 (min (max (z * 64 - 20) (-1)) 16384) = Value.int .i64 16384; congr 1; omega)
    · have e : r = z * 64 - 20 := by have := HR.out; rwa [if_neg h1, if_neg h2] at this
      have h2b : z * 64 - 20 < 16384 := by omega
      go_wp2_with (go_at_call 80; go_loud (refine Rets.use (HSz.out _) ?_); rintro _ _ ⟨rfl, rfl⟩)
      go_ret
      rw [e]
      refine ⟨?_, HKd.out⟩
      first | rfl | (show Value.int .i64 (min (max (z * 64 - 20) (-1)) 16384) = Value.int .i64 (z * 64 - 20); congr 1; omega)
theorem SIs.c0 {w : World} {x bm n : Nat} {R : Nat → Prop} {lv : Value} {q : Int} {s : Sto.Mp × Int} (h : SIs w x bm R lv q n s) : w.cell? ⟨x, 0, none⟩ = some lv := (cell_of_row w _ 0 _ _ _ h.blk).trans rfl
set_option maxHeartbeats 1600000 in
theorem room11_c {W w : World} {g x : Nat} {s : St} {S : StoS} (h : SL W w g x s S) (hn : S.L.next ≤ s.now.length) : Calls Try.prog 37 #[.pointer (some ⟨x, 0, none⟩)] w (Rets (Still (.int .i64 (roomP s.now.length S.L.next)) w)) := by
  obtain ⟨h0, y, bm, P, Q, R, h⟩ := h
  have c0 := h.s.c0
  have HR := Lib.hid (room_c h.d h.m hn)
  clear h
  generalize roomP s.now.length S.L.next = r at *
  go_enter Try.func37, Try.ntmps37
  go_wp2_with (go_at_call 63; refine Rets.use HR.out ?_; rintro _ w2 ⟨rfl, hk2⟩)
  go_ret
  exact ⟨rfl, hk2⟩
/-- A value in memory of the call's own, whether there is one. -/
def GotIs (w : World) (r : Option (List Int)) : Value → World → Prop := fun v w' => Keeps (fun _ => False) w w' ∧ ∃ u, v = .tuple #[u, .bool r.isSome] ∧ OwnRow w' (fun j => w.heap.size ≤ j) 5 1 u (r.getD []).length (Disk.bytes8 (r.getD []))
set_option maxHeartbeats 1600000 in
set_option maxRecDepth 100000 in
theorem get11_c {w : World} {x bm n : Nat} {R : Nat → Prop} {lv : Value} {q : Int} {s : Sto.Mp × Int} (h : SIs w x bm R lv q n s) (k : List Int) (hB : IsB k) (hl : k.length ≤ 1000000) : Calls Try.prog 38 #[.pointer (some ⟨x, 0, none⟩), .string (str k)] w (Rets (GotIs w (Sto.look s.1 k))) := by
  have c3 := h.c3
  obtain ⟨D, hown, hin⟩ := h.map
  have hs := str_size k
  obtain ⟨v, ps, hrun, hv⟩ := hown.look_ok strLaw Try.underlying80 (zeroE w) (show Rv (.slice none 0 0) = some (.held (.slice none 0 0), []) from rfl) (keyLit_of k hl)
  have hk := hin k hB
  have HCn := Lib.hid (fun (u : Value) (l : List Int) (hr : Rd w (fun _ => True) u l.length (Disk.bytes8 l)) (hl : l.length ≤ 1000000) => clone_c u l hr (by omega))
  generalize str k = sk at *
  cases hL : Sto.look s.1 k with
  | none =>
    rw [hL] at hk
    simp only at hk
    rw [hk] at hrun
    have hv0 : v = .slice none 0 0 := by
      have := hown
      rw [Maps.atKey_of_not_has hk] at hv
      simp only [Rv, Option.some.injEq, Prod.mk.injEq, DataW.held.injEq] at hv
      exact hv.1
    subst hv0
    have HC := Lib.hid (HCn.out (.slice none 0 0) [] (OwnRow.nil w (fun _ => True) 5 1).rd (by simp))
    clear hown hin hv hL h
    go_enter Try.func38, Try.ntmps38
    go_wp2_with (go_at_call 64; refine Rets.use HC.out ?_; rintro v2 w2 ⟨hO2, hk2⟩)
    go_ret2
    exact ⟨hk2, _, rfl, hO2⟩
  | some val =>
    rw [hL] at hk
    simp only at hk
    obtain ⟨h1, u, h2, hO, hc3⟩ := hk
    rw [h1] at hrun
    rw [h2] at hv
    obtain rfl : v = u := by
      simp only [Rv, Option.some.injEq, Prod.mk.injEq, DataW.held.injEq] at hv
      exact hv.1
    obtain ⟨A, c, rfl, hc1, hc2, _⟩ := hO.slice
    have HC := Lib.hid (HCn.out _ val (hO.rd.mono (fun _ _ => trivial)) hc3)
    clear hown hin hv hL hO h2 h
    go_enter Try.func38, Try.ntmps38
    go_wp2_with (go_at_call 64; refine Rets.use HC.out ?_; rintro v2 w2 ⟨hO2, hk2⟩)
    go_ret2
    exact ⟨hk2, _, rfl, hO2⟩
end Go.Proofs.Ytbiohidelhfaiaa
end

section
namespace Go.Proofs.Ytbiohidelhfaiaa
open Go.RowKit Go.Canon Go.Mem Go.Args
open Go.Disk (St)
open Go.Proofs.Ytbiohidelhfaiaa.Sto (Chg)
set_option linter.unusedVariables false
set_option linter.unusedSimpArgs false
structure SInv (s : St) (S : StoS) (l : List KV) : Prop where
  w : WInv s S.L
  q : s.armed = false
  o : s.opn = []
  all : AllIs S.M l
  u : S.u = bytesP l
  pb : PB l
  n : l.length ≤ S.n
theorem chkGo_apart : ∀ (l a : List Chg), Sto.chkGo a l = 0 → l.Pairwise (fun c d => c.key ≠ d.key) ∧ ∀ c ∈ l, ∀ d ∈ a, d.key ≠ c.key := by
  intro l
  induction l with
  | nil => intro a _; exact ⟨List.Pairwise.nil, fun c hc => by cases hc⟩
  | cons c l ih =>
    intro a h
    rw [Sto.chkGo] at h
    split at h
    · rename_i h1; exact (h1 h).elim
    · rename_i h1
      obtain ⟨i1, i2⟩ := ih _ h
      have h2 := Classical.not_not.1 h1
      have h3 : ∀ d ∈ a, d.key ≠ c.key := by
        intro d hd e
        unfold Sto.chk1 at h2
        have : (a.any fun a => decide (a.key = c.key)) = true := List.any_eq_true.2 ⟨d, hd, by simpa using e⟩
        rw [this] at h2
        simp only [if_true] at h2
        split at h2
        · cases h2
        · split at h2
          · cases h2
          · split at h2 <;> cases h2
      refine ⟨List.pairwise_cons.2 ⟨fun d hd => ?_, i1⟩, fun d hd => ?_⟩
      · exact i2 d hd c (List.mem_append_right _ (List.mem_singleton.2 rfl))
      · rcases List.mem_cons.1 hd with rfl | hd
        · exact h3
        · exact fun e he => i2 d hd e (List.mem_append_left _ he)
theorem thenGo_doF (M0 : Sto.Mp) : ∀ (l : List Chg) (M : Sto.Mp) (t : Int), (∀ c ∈ l, Sto.look M c.key = Sto.look M0 c.key) → l.Pairwise (fun c d => c.key ≠ d.key) → Sto.thenGo M0 t l = (Sto.doF (M, t) l).2 := by
  intro l
  induction l with
  | nil => intro M t _ _; rfl
  | cons c l ih =>
    intro M t h1 h2
    obtain ⟨h3, h4⟩ := List.pairwise_cons.1 h2
    have e1 : Sto.costF M c.key = Sto.costF M0 c.key := by unfold Sto.costF; rw [h1 c (List.mem_cons_self ..)]
    have e2 : Sto.costF (Sto.do1 M c) c.key = if c.del = true then 0 else (c.key.length : Int) + c.val.length := by
      unfold Sto.do1 Sto.costF
      cases c.del with
      | true => rw [if_pos rfl, Sto.look_del]; rfl
      | false => rw [if_neg (by simp), Sto.look_put]; rfl
    have e3 : Sto.thenGo M0 t (c :: l) = Sto.thenGo M0 (t - Sto.costF M c.key + Sto.costF (Sto.do1 M c) c.key) l := by
      unfold Sto.thenGo
      rw [List.foldl_cons, e1, e2]
      cases c.del <;> simp
    rw [e3, ih (Sto.do1 M c) _ (fun d hd => ?_) h4]
    · rfl
    · rw [← h1 d (List.mem_cons_of_mem _ hd)]
      have hne := (h3 d hd).symm
      unfold Sto.do1
      split
      · exact Sto.look_del_other M hne
      · exact Sto.look_put_other M _ hne
theorem chk_apart {l : List Chg} (h : Sto.chk l = 0) : l.Pairwise (fun c d => c.key ≠ d.key) := by
  unfold Sto.chk at h
  split at h
  · cases h
  · exact (chkGo_apart l [] h).1
theorem bytesP_most : ∀ {l : List KV}, PB l → 0 ≤ bytesP l ∧ bytesP l ≤ 2000000 * l.length := by
  intro l
  induction l with
  | nil => intro _; exact ⟨Int.le_refl _, Int.le_refl _⟩
  | cons p l ih =>
    intro h
    have h1 := ih (fun q hq => h q (List.mem_cons_of_mem _ hq))
    have h2 := h p (List.mem_cons_self ..)
    have e : bytesP (p :: l) = (p.1.length : Int) + p.2.length + bytesP l := by unfold bytesP; rw [List.map_cons, List.sum_cons]
    rw [e, List.length_cons]
    omega
theorem AllIs.get {M : Sto.Mp} {l : List KV} (h : AllIs M l) {k : List Int} (hk : IsB k) : getP l k = Sto.look M k := by
  unfold getP
  cases hf : l.find? (fun p => decide (p.1 = k)) with
  | none =>
    cases hL : Sto.look M k with
    | none => rfl
    | some v => exact absurd (List.find?_eq_none.1 hf _ (h.2.2 k v hk hL)) (by simp)
  | some p =>
    have h1 : p.1 = k := by simpa using List.find?_some hf
    have h2 := (h.2.1 p (List.mem_of_find?_eq_some hf)).2.1
    rw [h1] at h2
    rw [h2]; rfl
/-- A commit on a quiet store. -/
theorem SInv.commit {s : St} {S : StoS} {l : List KV} (h : SInv s S l) (c : List Chg) (hc : ChgB c) :
    ((commitP s S c).1 = 0 ∧ SInv (commitP s S c).2.1 (commitP s S c).2.2 (doneP l c) ∧ (commitP s S c).2.1.now.length = s.now.length ∧ (commitP s S c).2.2.q = S.q ∧ (commitP s S c).2.2.n = S.n + c.length ∧ ¬ (S.q < bytesP (doneP l c) ∧ bytesP l < bytesP (doneP l c))) ∨
    ((commitP s S c).1 ≠ 0 ∧ (commitP s S c).2 = (s, S)) := by
  have hck : ∀ d ∈ c, IsB d.key ∧ d.key.length ≤ maxLen := fun d hd => ⟨(hc d hd).1, by have := (hc d hd).2.2.1; simp only [maxLen]; omega⟩
  unfold commitP
  by_cases h1 : Sto.chk c = 0
  · rw [if_neg (fun h => h h1)]
    have ht : Sto.thenGo S.M S.u c = bytesP (doneP l c) := by
      rw [thenGo_doF S.M c S.M S.u (fun _ _ => rfl) (chk_apart h1)]
      exact bytes_done h.all h.u c hck
    rw [ht, h.u]
    by_cases h2 : S.q < bytesP (doneP l c) ∧ bytesP l < bytesP (doneP l c)
    · rw [if_pos h2]; exact .inr ⟨by show (12 : Int) ≠ 0; decide, rfl⟩
    · rw [if_neg h2]
      rcases h.w.append h.q (Sto.encL c) h.o with ⟨a1, a2, a3, a4, a5, a6, a7, a8⟩ | ⟨a1, a2, a3⟩
      · rw [if_neg (fun h => h a1)]
        refine .inl ⟨rfl, ⟨a3, a4, a5, ?_, ?_, (PB.done h.pb c hc).1, ?_⟩, a6, rfl, rfl, h2⟩
        · simp only
          rw [doF_fst]
          exact h.all.done c hck
        · exact bytes_done h.all rfl c hck
        · have := (PB.done h.pb c hc).2
          have := h.n
          simp only
          omega
      · rw [if_pos (by rcases a1 with a1 | a1 <;> rw [a1] <;> decide)]
        refine .inr ⟨by rcases a1 with a1 | a1 <;> rw [a1] <;> decide, ?_⟩
        rw [a3, ← h.u]
  · rw [if_pos h1]; exact .inr ⟨h1, rfl⟩
theorem openS_fresh (n : Nat) (q : Int) (hq : 0 ≤ q) : openS (fresh n) q = (0, some ⟨⟨[], 0, false⟩, q, [], 0, 0⟩, fresh n) := by
  unfold openS
  rw [if_neg (by omega), openP_fresh]
  rfl
theorem SInv.fresh (n : Nat) (hn : n ≤ 4096) (q : Int) : SInv (fresh n) ⟨⟨[], 0, false⟩, q, [], 0, 0⟩ [] := by
  refine ⟨⟨rfl, rfl, ⟨n, rfl⟩, rfl, fun t ht => (by cases ht), by simp [Go.Proofs.Ytbiohidelhfaiaa.fresh]; exact hn⟩, rfl, rfl, ?_, rfl, fun p hp => (by cases hp), Nat.le_refl _⟩
  exact ⟨List.Pairwise.nil, fun p hp => (by cases hp), fun k v _ h => (by cases h)⟩
theorem SInv.ready {s : St} {S : StoS} {l : List KV} (h : SInv s S l) (hn : S.n ≤ 900000) : s.opn.length ≤ 900000 ∧ S.L.next ≤ s.now.length ∧ S.L.texts.length ≤ 4096 ∧ -100000000000000 ≤ S.u ∧ S.u ≤ 100000000000000 := by
  have h1 := h.w.nexts
  have h2 := h.w.most
  have h3 := bytesP_most h.pb
  have h4 := h.u
  have h5 := h.n
  refine ⟨by rw [h.o]; exact Nat.zero_le _, h1.1, by omega, by omega, by omega⟩
theorem SLZ.bound {W w : World} {Z : Nat → Prop} {g x : Nat} {s : St} {S : StoS} (h : SLZ W w Z g x s S) : SLZ W w (fun k => Z k ∧ k < w.heap.size) g x s S := by
  obtain ⟨h0, hZ, y, bm, P, Q, R, h, h3⟩ := h
  refine ⟨h0, fun k hk => hZ k hk.1, y, bm, P, Q, R, h, fun k e => ⟨h3 k e, ?_⟩⟩
  have h1 := h.s.lt
  rcases e with e | e | e | rfl | rfl
  · exact (h.p k e).2.1
  · exact (h.q k e).2.1
  · exact (h.r k e).2
  · exact h1.1
  · exact h1.2
/-- The blocks of a store that was opened ahead of n2; what was made from there up to n4 is another's. -/
def Zn (W : World) (n2 n4 : Nat) (w : World) : Nat → Prop := fun k => (W.heap.size ≤ k ∧ k < n2) ∨ (n4 ≤ k ∧ k < w.heap.size)
theorem Zn.from {W w : World} {n2 n4 k : Nat} (h1 : W.heap.size ≤ n2) (h2 : n2 ≤ n4) (h : Zn W n2 n4 w k) : W.heap.size ≤ k := h.elim (fun e => e.1) (fun e => by have := e.1; omega)
/-- A store that is quiet. -/
structure WSt (W w : World) (n2 n4 g x : Nat) (s : St) (S : StoS) (l : List KV) : Prop where
  z : SLZ W w (Zn W n2 n4 w) g x s S
  i : SInv s S l
  n : S.n ≤ 800000
  b : W.heap.size ≤ n2 ∧ n2 ≤ n4
section
variable {W w : World} {n2 n4 g x : Nat} {s : St} {S : StoS} {l : List KV}
theorem WSt.kept {w' : World} (h : WSt W w n2 n4 g x s S l) (hk : Keeps (fun _ => False) w w') : WSt W w' n2 n4 g x s S l := by
  have hz := hk.size
  exact ⟨(h.z.kept hk).mono (fun k e => e.imp id (fun e => ⟨e.1, by omega⟩)) (fun k e => Zn.from h.b.1 h.b.2 e), h.i, h.n, h.b⟩
def WPost (W w w5 : World) (n2 n4 g x : Nat) (r : Int × St × StoS) : Value → World → Prop := fun v w' => v = .int .i64 r.1 ∧ SLZ W w' (Zn W n2 n4 w') g x r.2.1 r.2.2 ∧ Keeps (Zn W n2 n4 w) w5 w'
theorem WSt.com {w5 : World} {ok : Nat → Prop} (h : WSt W w n2 n4 g x s S l) (hk : Keeps (fun _ => False) w w5) (c : List Chg) (hB : ChgB c) (hl : c.length ≤ 1000000) (v : Value) (hc : Chgs w5 ok v c) (hok : ∀ k, ok k → ¬ Zn W n2 n4 w k ∧ k < w5.heap.size) (h4 : n4 ≤ w.heap.size) : Calls Try.prog 26 #[.pointer (some ⟨x, 0, none⟩), v] w5 (Rets (WPost W w w5 n2 n4 g x (commitP s S c))) := by
  obtain ⟨r1, r2, r3, r4⟩ := h.i.ready (by have := h.n; omega)
  refine Rets.use (commitz_c (h.z.kept hk) r1 r2 r3 (by have := h.n; omega) r4 c hB hl v hc hok) ?_
  rintro v' w' ⟨rfl, hz, hk'⟩
  have z1 := hk.size
  have z2 := hk'.size
  refine ⟨rfl, hz.bound.mono (fun k e => ?_) (fun k e => Zn.from h.b.1 h.b.2 e), hk'⟩
  rcases e with ⟨(e | e) | e, e2⟩
  · exact .inl e
  · exact .inr ⟨e.1, e2⟩
  · exact .inr ⟨by omega, e2⟩
theorem WSt.all (h : WSt W w n2 n4 g x s S l) : Calls Try.prog 28 #[.pointer (some ⟨x, 0, none⟩)] w (Rets fun v w' => Keeps (fun _ => False) w w' ∧ Pairs w' (fun j => w.heap.size ≤ j) v l) := by
  obtain ⟨h0, _, y, bm, P, Q, R, hs, _⟩ := h.z
  refine Rets.use (all_c hs.s (fun j hj => (hs.r j hj).2) (by have := h.n; omega)) ?_
  rintro v w' ⟨hk, ps, _, hA, hr⟩
  have := hA.unique h.i.all
  refine ⟨hk, ?_⟩
  rw [← this]
  exact hr.pairs
theorem WSt.used (h : WSt W w n2 n4 g x s S l) : Calls Try.prog 35 #[.pointer (some ⟨x, 0, none⟩)] w (Rets (Only (.int .i64 (bytesP l)) w)) := by
  obtain ⟨h0, _, y, bm, P, Q, R, hs, _⟩ := h.z
  have := used_c hs.s
  rw [← h.i.u]
  exact this
theorem WSt.room (h : WSt W w n2 n4 g x s S l) : Calls Try.prog 37 #[.pointer (some ⟨x, 0, none⟩)] w (Rets (Still (.int .i64 (roomP s.now.length S.L.next)) w)) := room11_c h.z.sl h.i.w.nexts.1
theorem WSt.get (h : WSt W w n2 n4 g x s S l) (k : List Int) (hB : IsB k) (hl : k.length ≤ 1000000) : Calls Try.prog 38 #[.pointer (some ⟨x, 0, none⟩), .string (str k)] w (Rets (GotIs w (getP l k))) := by
  obtain ⟨h0, _, y, bm, P, Q, R, hs, _⟩ := h.z
  rw [h.i.all.get hB]
  exact get11_c hs.s k hB hl
end
theorem GetIs.one {w w' : World} {ok : Nat → Prop} {r : Option (List Int)} {v : Value} (h : GetIs w ok r v w') : Keeps (fun _ => False) w w' ∧ ∃ u, v = .tuple #[u, .bool r.isSome] ∧ Rd w' ok u (r.getD []).length (Disk.bytes8 (r.getD [])) := by
  obtain ⟨hk, h⟩ := h
  cases r with
  | none => exact ⟨hk, _, h, (OwnRow.nil w' ok 5 1).rd⟩
  | some v => exact ⟨hk, h⟩
end Go.Proofs.Ytbiohidelhfaiaa
end

section
namespace Go.Proofs.Ytbiohidelhfaiaa
open Go.RowKit Go.Canon Go.Mem Go.Args
open Go.Proofs.Ytbiohidelhfaiaa.Sto (Chg)
set_option linter.unusedVariables false
set_option linter.unusedSimpArgs false
theorem cut4_c (l : List Int) (n : Nat) (w : World) : Calls Try.prog 21 #[.string (str l), .int .i64 n] w (Rets (Only (.string (str (l.take n))) w)) := by
  have hs := str_size l
  by_cases h : n < l.length
  · have HE := Lib.hid (slice_to (l := l) (j := n) (by omega))
    have hc := HE.out w
    generalize str l = s at *
    go_enter Try.func21, Try.ntmps21
    go_wp2
    go_ret
    exact ⟨rfl, rfl⟩
  · have e : l.take n = l := List.take_of_length_le (by omega)
    rw [e]
    generalize str l = s at *
    go_enter Try.func21, Try.ntmps21
    go_wp2
    go_ret
    exact ⟨rfl, rfl⟩
def cutC (c : Chg) : Chg := ⟨c.key.take 60, c.del, c.val.take 4200⟩
def fewC (l : List Chg) : List Chg := (l.take 20).map cutC
/-- Changes whose texts are bytes. -/
def ChgW (l : List Chg) : Prop := ∀ c ∈ l, IsB c.key ∧ IsB c.val ∧ c.key.length ≤ maxLen ∧ c.val.length ≤ maxLen
theorem fewC_B {l : List Chg} (h : ChgW l) : ChgB (fewC l) := by
  intro c hc
  obtain ⟨d, hd, rfl⟩ := List.mem_map.1 hc
  obtain ⟨h1, h2, _, _⟩ := h d (List.mem_of_mem_take hd)
  refine ⟨fun x hx => h1 x (List.mem_of_mem_take hx), fun x hx => h2 x (List.mem_of_mem_take hx), ?_, ?_⟩
  · simp only [cutC, List.length_take]; omega
  · simp only [cutC, List.length_take]; omega
theorem fewC_len (l : List Chg) : (fewC l).length ≤ 20 := by unfold fewC; rw [List.length_map, List.length_take]; omega
theorem ChgB.wide {l : List Chg} (h : ChgB l) : ChgW l := fun c hc => by
  obtain ⟨h1, h2, h3, h4⟩ := h c hc
  refine ⟨h1, h2, ?_, ?_⟩ <;> simp only [maxLen] <;> omega
theorem cutC_cutC (c : Chg) : cutC (cutC c) = cutC c := by unfold cutC; simp [List.take_take]
theorem fewC_fewC (l : List Chg) : fewC (fewC l) = fewC l := by
  unfold fewC
  rw [← List.map_take, List.map_map, List.take_take, Nat.min_self]
  congr 1
  funext c
  exact cutC_cutC c
theorem few_next {l : List Chg} {k : Nat} (h : k < l.length) : (l.take (k + 1)).map cutC = (l.take k).map cutC ++ [cutC l[k]] := by
  rw [List.take_add_one, List.getElem?_eq_getElem h, List.map_append]; rfl
/-- Changes in memory of the call's own. -/
def FewIs (w : World) (l : List Chg) : Value → World → Prop := fun v w' => Keeps (fun _ => False) w w' ∧ ChgOwn w' (fun j => w.heap.size ≤ j ∧ j < w'.heap.size) v l
set_option maxHeartbeats 6400000 in
set_option maxRecDepth 100000 in
theorem few_c {w : World} {ok : Nat → Prop} (l : List Chg) (hB : ChgW l) (hl : l.length ≤ maxLen) (v : Value) (h : Chgs w ok v l) (hok : ∀ k, ok k → k < w.heap.size) : Calls Try.prog 9 #[v] w (Rets (FewIs w (fewC l))) := by
  obtain ⟨A, c, rfl, hlc, _, _⟩ := id h
  have H := Lib.hid h
  have HB := Lib.hid hB
  have hl := (by simp only [maxLen] at hl; exact hl : l.length ≤ 9223372036854775807)
  clear h hB
  go_enter Try.func9, Try.ntmps9
  go_wp2
  go_loopw [3, 4] (fun ov iv wr => ∃ k : Nat, k ≤ l.length ∧ k ≤ 20 ∧ iv = .int .i64 k ∧ Keeps (fun _ => False) w wr ∧ ChgOwn wr (fun j => w.heap.size ≤ j ∧ j < wr.heap.size) ov ((l.take k).map cutC)) (fun _ iv _ => 20 - (intOf iv).toNat)
  case atStart => exact ⟨0, Nat.zero_le _, Nat.zero_le _, rfl, Keeps.refl _ _, ChgOwn.nil _ _⟩
  case round =>
    obtain ⟨k, hk, hk20, rfl, hkr, hO⟩ := hrel
    have HKr := Lib.hid hkr
    have HO := Lib.hid hO
    have hwr := hkr.size
    obtain ⟨Al, cl, rfl, _⟩ := hO.slice
    have hlen : ((l.take k).map cutC).length = k := by rw [List.length_map, List.length_take]; omega
    rw [hlen] at HO ⊢
    by_cases hlt : k < l.length ∧ k < 20
    · obtain ⟨hlt, h20⟩ := hlt
      obtain ⟨A', c', e, _, _, hin⟩ := H.out
      cases e
      obtain ⟨b, o, e, hb, vV, c0, c1, c2, hrV⟩ := hin k _ (List.getElem?_eq_getElem hlt)
      cases e
      obtain ⟨Av, cv, rfl, _⟩ := hrV.slice
      obtain ⟨hb1, hb2, hb3, hb4⟩ := HB.out _ (List.getElem_mem hlt)
      have HN := Lib.hid (few_next hlt)
      have c0 := hkr.cell c0 (fun h => h)
      have c1 := hkr.cell c1 (fun h => h)
      have c2 := hkr.cell c2 (fun h => h)
      have hbw := hok b hb
      have HRV := Lib.hid ((hrV.mono (ok' := fun j => j < w.heap.size) hok).kept hkr (fun _ _ h => h))
      generalize l[k] = d at *
      obtain ⟨key, del, val⟩ := d
      simp only at c0 c1 c2 hb1 hb2 hb3 hb4 HRV
      have hb3 := (by simp only [maxLen] at hb3; exact hb3 : key.length ≤ 9223372036854775807)
      have zk := str_size key
      have HKs := Lib.hid (show True from trivial)
      clear hin hrV hkr hb1 hb2 hb4
      by_cases h60 : 60 < key.length
      · have HSl := Lib.hid (slice_to (l := key) (j := 60) (by omega))
        have HEx := Lib.hid (show (str key).extract 0 60 = str (key.take 60) by rw [str_cut]; simp)
        have HN2 := Lib.hid (show (l.take (k + 1)).map cutC = (l.take k).map cutC ++ [⟨key.take 60, del, val.take 4200⟩] from HN.out)
        go_wp2_with (first
          | ((with_reducible refine at_ 5 rfl ?_); go_must (refine step_alloc rfl _ rfl _ chgZ row_chg rfl ?_); intro w3 hb3' hk3 hs3)
          | ((with_reducible refine at_store 41 (.tmp 5) (.tmp 19) rfl ?_); go_must (refine step_store rfl _ _ _ rfl wr.heap.size 0 [.string (str key), .bool del, .slice Av val.length cv] _ _ rfl rfl hb3' (by simp [chgZ]) info_chg (by simp [Value.oneCell']) ?_); intro w4 hb4' hk4 hs4; rw [put_whole (by rfl)] at hb4'; have d0 : w4.cell? ⟨wr.heap.size, 0, none⟩ = some (.string (str key)) := cell_of_row w4 _ _ _ _ _ hb4'; have d2 : w4.cell? ⟨wr.heap.size, 2, none⟩ = some (.slice Av val.length cv) := cell_of_row w4 _ _ _ _ _ hb4'; have hsl := HSl.out w4; have HK4 := Lib.hid (((Keeps.refl (fun _ => False) wr).trans hk3 (fun _ _ h => h) |>.mono (S' := fun j => wr.heap.size ≤ j) (fun _ _ h => h.elim)).trans hk4 (fun j _ h => by omega) |>.mono (S' := fun _ => False) (fun j hj h => by omega)); have HB4 := Lib.hid hb4'; have hz4 : wr.heap.size < w4.heap.size := by omega)
          | ((with_reducible refine at_store 9 (.tmp 27) (.tmp 26) rfl ?_); go_must (rw [HEx.out]; refine step_store1 rfl _ _ _ rfl wr.heap.size 0 (.string (str (key.take 60))) _ _ rfl rfl rfl hb4' (by simp) info_str ?_); intro w5 hb5' hk5 hs5; have d2 : w5.cell? ⟨wr.heap.size, 2, none⟩ = some (.slice Av val.length cv) := cell_of_row w5 _ _ _ _ _ hb5'; have HK5 := Lib.hid ((HK4.out.mono (S' := fun j => wr.heap.size ≤ j) (fun _ _ h => h.elim)).trans hk5 (fun j _ h => by omega) |>.mono (S' := fun _ => False) (fun j hj h => by omega)); have HB5 := Lib.hid hb5'; have hz5 : wr.heap.size < w5.heap.size := by omega)
          | (go_at_call 10; refine Rets.use (cut_c _ val (HRV.out.kept HK5.out (fun _ _ h => h)) 4200) ?_; rintro v7 _ ⟨hr7, rfl⟩)
          | (go_at_call 11; refine Rets.use (copy_c v7 (val.take 4200) hr7 (by rw [List.length_take]; omega)) ?_; rintro v8 w8 hO8; have hk8 := hO8.2; have hz8 := hk8.size; have hb8' := hk8.heap HB5.out (fun h => h); have hone := Rd.one hO8.1.rd)
          | ((with_reducible refine at_store 23 (.tmp 32) (.tmp 31) rfl ?_); go_must (refine step_store1 rfl _ _ _ rfl wr.heap.size 2 v8 _ _ rfl rfl hone hb8' (by simp) info_bytes ?_); intro w9 hb9' hk9 hs9; have hb9' : w9.heap[wr.heap.size]? = some (.cells (chgC ⟨key.take 60, del, val.take 4200⟩ v8).toArray 41 (0, 0)) := hb9'; have HK9 := Lib.hid (((HK5.out.trans hk8 (fun _ _ h => h)).mono (S' := fun j => wr.heap.size ≤ j) (fun _ _ h => h.elim)).trans hk9 (fun j _ h => by omega) |>.mono (S' := fun _ => False) (fun j hj h => by omega)); have HV9 := Lib.hid ((hO8.1.mono (ok' := fun j => w5.heap.size ≤ j ∧ j < w8.heap.size) (fun j hj h => ⟨h, hj⟩)).kept hk9 (fun j h e => by omega)); have HO9 := Lib.hid (HO.out.kept HK9.out (fun _ _ h => h)))
          | ((with_reducible refine at_ 34 rfl ?_); go_must (refine step_load rfl _ _ rfl wr.heap.size 0 (chgC ⟨key.take 60, del, val.take 4200⟩ v8) _ _ _ _ rfl hb9' rfl Try.underlying41 rfl (info_chgC _ _) ?_))
          | ((with_reducible refine at_ 35 rfl ?_); go_must (refine step_lit rfl 22 _ 1 rfl [.agg (chgC ⟨key.take 60, del, val.take 4200⟩ v8).toArray] rfl rfl (by decide) 41 _ 3 Try.underlying22 row2_chg (by decide) (by decide) (by intro v hv; rw [List.mem_singleton] at hv; subst hv; exact chgC_cells _ v8 hone) ?_); intro w10 hb10 hk10 hs10)
          | ((with_reducible refine at_ 36 rfl ?_); go_must (refine step_push (ok := fun j => w.heap.size ≤ j) rfl _ _ rfl (.slice Al k cl) ((l.take k).map cutC) rfl ((HO9.out.mono (fun j _ h => h.1)).kept hk10 (fun _ _ h => h)) ⟨key.take 60, del, val.take 4200⟩ v8 w9.heap.size rfl (by rw [hb10]; exact congrArg _ (congrArg (fun z => Obj.cells z _ _) (chgC_flat _ v8 hone))) ((HV9.out.mono (fun j _ h => Nat.le_trans hwr (Nat.le_trans (Nat.le_of_lt (by first | exact hz5 | exact hz4)) h.1))).kept hk10 (fun _ _ h => h)) (fun j h e => by have h1 := (HO9.out.blk j h).2; have h2 := (HV9.out.2 j e).1; omega) (by rw [hlen]; omega) ?_); intro v11 w11 hO11 hk11; have HK11 := Lib.hid (((HK9.out.trans hk10 (fun _ _ h => h)).mono (S' := fun j => w.heap.size ≤ j) (fun _ _ h => h.elim)).trans hk11 (fun j _ h => (HO9.out.blk j h).1) |>.mono (S' := fun j => w.heap.size ≤ j) (fun _ _ h => h))))
        go_roundw
        case rel => exact ⟨k + 1, hlt, h20, by go_num, (HKr.out.mono (S' := fun j => w.heap.size ≤ j) (fun _ _ h => h.elim)).trans HK11.out (fun _ _ h => h) |>.mono (fun j hj h => by omega), by rw [HN2.out]; exact hO11.mono (fun j hj h => ⟨h.elim (fun h => h) (fun h => by omega), hj⟩)⟩
        case measure => simp [intOf]; omega
      · have HSl := Lib.hid (slice_to (l := key) (j := 0) (by omega))
        have HN2 := Lib.hid (show (l.take (k + 1)).map cutC = (l.take k).map cutC ++ [⟨key, del, val.take 4200⟩] by rw [HN.out]; unfold cutC; rw [List.take_of_length_le (show key.length ≤ 60 by omega)])
        go_wp2_with (first
          | ((with_reducible refine at_ 5 rfl ?_); go_must (refine step_alloc rfl _ rfl _ chgZ row_chg rfl ?_); intro w3 hb3' hk3 hs3)
          | ((with_reducible refine at_store 41 (.tmp 5) (.tmp 19) rfl ?_); go_must (refine step_store rfl _ _ _ rfl wr.heap.size 0 [.string (str key), .bool del, .slice Av val.length cv] _ _ rfl rfl hb3' (by simp [chgZ]) info_chg (by simp [Value.oneCell']) ?_); intro w4 hb4' hk4 hs4; rw [put_whole (by rfl)] at hb4'; have d0 : w4.cell? ⟨wr.heap.size, 0, none⟩ = some (.string (str key)) := cell_of_row w4 _ _ _ _ _ hb4'; have d2 : w4.cell? ⟨wr.heap.size, 2, none⟩ = some (.slice Av val.length cv) := cell_of_row w4 _ _ _ _ _ hb4'; have hsl := HSl.out w4; have HK4 := Lib.hid (((Keeps.refl (fun _ => False) wr).trans hk3 (fun _ _ h => h) |>.mono (S' := fun j => wr.heap.size ≤ j) (fun _ _ h => h.elim)).trans hk4 (fun j _ h => by omega) |>.mono (S' := fun _ => False) (fun j hj h => by omega)); have HB4 := Lib.hid hb4'; have hz4 : wr.heap.size < w4.heap.size := by omega)
          | (go_at_call 10; refine Rets.use (cut_c _ val (HRV.out.kept HK4.out (fun _ _ h => h)) 4200) ?_; rintro v7 _ ⟨hr7, rfl⟩)
          | (go_at_call 11; refine Rets.use (copy_c v7 (val.take 4200) hr7 (by rw [List.length_take]; omega)) ?_; rintro v8 w8 hO8; have hk8 := hO8.2; have hz8 := hk8.size; have hb8' := hk8.heap HB4.out (fun h => h); have hone := Rd.one hO8.1.rd)
          | ((with_reducible refine at_store 23 (.tmp 32) (.tmp 31) rfl ?_); go_must (refine step_store1 rfl _ _ _ rfl wr.heap.size 2 v8 _ _ rfl rfl hone hb8' (by simp) info_bytes ?_); intro w9 hb9' hk9 hs9; have hb9' : w9.heap[wr.heap.size]? = some (.cells (chgC ⟨key, del, val.take 4200⟩ v8).toArray 41 (0, 0)) := hb9'; have HK9 := Lib.hid (((HK4.out.trans hk8 (fun _ _ h => h)).mono (S' := fun j => wr.heap.size ≤ j) (fun _ _ h => h.elim)).trans hk9 (fun j _ h => by omega) |>.mono (S' := fun _ => False) (fun j hj h => by omega)); have HV9 := Lib.hid ((hO8.1.mono (ok' := fun j => w4.heap.size ≤ j ∧ j < w8.heap.size) (fun j hj h => ⟨h, hj⟩)).kept hk9 (fun j h e => by omega)); have HO9 := Lib.hid (HO.out.kept HK9.out (fun _ _ h => h)))
          | ((with_reducible refine at_ 34 rfl ?_); go_must (refine step_load rfl _ _ rfl wr.heap.size 0 (chgC ⟨key, del, val.take 4200⟩ v8) _ _ _ _ rfl hb9' rfl Try.underlying41 rfl (info_chgC _ _) ?_))
          | ((with_reducible refine at_ 35 rfl ?_); go_must (refine step_lit rfl 22 _ 1 rfl [.agg (chgC ⟨key, del, val.take 4200⟩ v8).toArray] rfl rfl (by decide) 41 _ 3 Try.underlying22 row2_chg (by decide) (by decide) (by intro v hv; rw [List.mem_singleton] at hv; subst hv; exact chgC_cells _ v8 hone) ?_); intro w10 hb10 hk10 hs10)
          | ((with_reducible refine at_ 36 rfl ?_); go_must (refine step_push (ok := fun j => w.heap.size ≤ j) rfl _ _ rfl (.slice Al k cl) ((l.take k).map cutC) rfl ((HO9.out.mono (fun j _ h => h.1)).kept hk10 (fun _ _ h => h)) ⟨key, del, val.take 4200⟩ v8 w9.heap.size rfl (by rw [hb10]; exact congrArg _ (congrArg (fun z => Obj.cells z _ _) (chgC_flat _ v8 hone))) ((HV9.out.mono (fun j _ h => Nat.le_trans hwr (Nat.le_trans (Nat.le_of_lt (by first | exact hz5 | exact hz4)) h.1))).kept hk10 (fun _ _ h => h)) (fun j h e => by have h1 := (HO9.out.blk j h).2; have h2 := (HV9.out.2 j e).1; omega) (by rw [hlen]; omega) ?_); intro v11 w11 hO11 hk11; have HK11 := Lib.hid (((HK9.out.trans hk10 (fun _ _ h => h)).mono (S' := fun j => w.heap.size ≤ j) (fun _ _ h => h.elim)).trans hk11 (fun j _ h => (HO9.out.blk j h).1) |>.mono (S' := fun j => w.heap.size ≤ j) (fun _ _ h => h))))
        go_roundw
        case rel => exact ⟨k + 1, hlt, h20, by go_num, (HKr.out.mono (S' := fun j => w.heap.size ≤ j) (fun _ _ h => h.elim)).trans HK11.out (fun _ _ h => h) |>.mono (fun j hj h => by omega), by rw [HN2.out]; exact hO11.mono (fun j hj h => ⟨h.elim (fun h => h) (fun h => by omega), hj⟩)⟩
        case measure => simp [intOf]; omega
    · have e : (l.take k).map cutC = fewC l := by
        unfold fewC
        congr 1
        rcases Nat.lt_or_ge k l.length with h | h
        · rw [show k = 20 by omega]
        · rw [List.take_of_length_le h, List.take_of_length_le (by omega)]
      rw [e] at HO
      by_cases hkl : k < l.length
      · obtain rfl : k = 20 := by omega
        go_wp2
        go_ret
        exact ⟨HKr.out, HO.out⟩
      · go_wp2
        go_ret
        exact ⟨HKr.out, HO.out⟩
end Go.Proofs.Ytbiohidelhfaiaa
end

section
namespace Go.Proofs.Ytbiohidelhfaiaa
open Go.RowKit Go.Canon Go.Mem Go.Args
open Go.Proofs.Ytbiohidelhfaiaa.Sto (Chg)
set_option linter.unusedVariables false
set_option linter.unusedSimpArgs false
/-! ### the arguments -/
abbrev KChg : Kd := .slice (.st (.fld .str (.fld .bool (.fld (.slice (.int .u8)) .fin))))
def toC (d : ByteArray × Bool × List Int × Unit) : Chg := ⟨bytesOf d.1, d.2.1, d.2.2.1⟩
theorem bytesOf_len (s : ByteArray) : (bytesOf s).length = s.size := by
  have := str_size (bytesOf s)
  rw [← str_of] at this
  exact this.symm
theorem chg_byte {w : World} {v : Value} {l : List Int} (h : Has w (.slice (.int .u8)) [v] l) : IsB l := by
  obtain ⟨A, c, _, _, _, _, h5⟩ := h
  intro x hx
  obtain ⟨i, hi, rfl⟩ := List.getElem_of_mem hx
  obtain ⟨a, es, _, _, _, h6⟩ := h5 i l[i] (List.getElem?_eq_getElem hi)
  have := h6.2
  simp [Lit.wf, IntKind.min, IntKind.max, IntKind.signed, IntKind.bits] at this
  omega
theorem KChg_of {W : World} {A : Option Addr} {n c : Nat} {x : List (ByteArray × Bool × List Int × Unit)} (H : Has W KChg [.slice A n c] x) : ∃ l : List Chg, ChgW l ∧ l.length ≤ maxLen ∧ Chgs W (fun k => k < W.heap.size) (.slice A n c) l := by
  obtain ⟨A', c', e, hlc, hcm, hz, hin⟩ := id H
  cases e
  refine ⟨x.map toC, ?_, by rw [List.length_map]; exact Nat.le_trans hlc hcm, A, c, by rw [List.length_map]; rfl, by rw [List.length_map]; exact hlc, hz, ?_⟩
  · intro d hd
    obtain ⟨y, hy, rfl⟩ := List.mem_map.1 hd
    obtain ⟨i, hi⟩ := List.mem_iff_getElem?.1 hy
    obtain ⟨a, es, _, _, _, hh⟩ := hin i y hi
    obtain ⟨c0, r0, _, _, ⟨_, hs⟩, c1, r1, _, _, _, c2, r2, _, h3, hb, _⟩ := hh
    obtain ⟨v, rfl⟩ : ∃ v, c2 = [v] := by
      cases c2 with
      | nil => cases h3
      | cons v t => cases t with
        | nil => exact ⟨v, rfl⟩
        | cons => cases h3
    exact ⟨bytesOf_byte _, chg_byte hb, by show (bytesOf y.1).length ≤ maxLen; rw [bytesOf_len]; exact hs, (Has.bytes hb).2⟩
  · intro i d hi
    rw [List.getElem?_map] at hi
    cases hx : x[i]? with
    | none => rw [hx] at hi; cases hi
    | some y =>
      rw [hx] at hi
      simp only [Option.map_some, Option.some.injEq] at hi
      subst hi
      have hpos : 0 < x.length := by have := (List.getElem?_eq_some_iff.1 hx).1; omega
      obtain ⟨b, o, c', e, _, _, hbW⟩ := Has.plain H (by decide) hpos
      cases e
      obtain ⟨es, hes, hcell, hh⟩ := Has.elem H hx
      obtain ⟨c0, r0, rfl, _, ⟨rfl, hs⟩, c1, r1, rfl, _, rfl, c2, r2, rfl, h3, hb, rfl⟩ := hh
      obtain ⟨v, rfl⟩ : ∃ v, c2 = [v] := by
        cases c2 with
        | nil => cases h3
        | cons v t => cases t with
          | nil => exact ⟨v, rfl⟩
          | cons => cases h3
      refine ⟨b, o, rfl, hbW, v, ?_, ?_, ?_, (Has.bytes hb).1⟩
      · have := hcell 0 _ rfl
        show W.cell? ⟨b, o + i * 3, none⟩ = some (.string (str (bytesOf y.1)))
        rw [← str_of]
        exact this
      · have := hcell 1 _ rfl
        exact this
      · have := hcell 2 _ rfl
        exact this
theorem encL_byte {l : List Chg} (hB : ChgB l) (hl : l.length ≤ 1000000) : IsB (Sto.encL l) := by
  have h9 : ∀ x, x < 18446744073709551616 → IsB (Sto.varF x) := fun x hx => var_byte 9 x (by
    have h10 : (128 : Nat) ^ (9 + 1) = 1180591620717411303424 := by decide
    omega)
  unfold Sto.encL
  refine (h9 _ (by omega)).app ?_
  intro x hx
  obtain ⟨c, hc, hx⟩ := List.mem_flatMap.1 hx
  obtain ⟨h1, h2, h3, h4⟩ := hB c hc
  unfold Sto.enc1 at hx
  rcases List.mem_cons.1 hx with h | h
  · split at h <;> omega
  · have hk : IsB (Sto.counted c.key) := (h9 _ (by omega)).app h1
    have hv : IsB (Sto.counted c.val) := (h9 _ (by omega)).app h2
    rcases List.mem_append.1 h with h | h
    · exact hk x h
    · split at h
      · simp at h
      · exact hv x h
theorem encL_len {l : List Chg} (h : Sto.chk l = 0) : (Sto.encL l).length ≤ 100000 := by
  have h1 := Sto.chk_good h
  have h2 := encs_len l (fun c hc => ⟨(h1.1 c hc).2.1, (h1.1 c hc).2.2⟩)
  have h3 := varF_len l.length
  unfold Sto.encL
  rw [List.length_append]; omega
end Go.Proofs.Ytbiohidelhfaiaa
end

section
namespace Go.Proofs.Ytbiohidelhfaiaa
open Go.RowKit Go.Canon Go.Mem Go.Args
open Go.Proofs.Ytbiohidelhfaiaa.Sto (Chg)
set_option linter.unusedVariables false
set_option linter.unusedSimpArgs false
abbrev KDo11 : Kd := .st (.fld (.int .i64) (.fld (.int .i64) (.fld KChg (.fld (.slice .bool) .fin))))
structure Do11 where
  kind : Int
  n : Int
  l : List Chg
  keep : List Bool
theorem i64_le11 {x : Int} (h : (Lit.int .i64 x).wf = true) : -9223372036854775808 ≤ x ∧ x ≤ 9223372036854775807 := by
  simp [Lit.wf, IntKind.min, IntKind.max, IntKind.signed, IntKind.bits] at h
  omega
abbrev bools11 (l : List Bool) : List Value := l.map Value.bool
/-- The cells of a call. -/
def DoCells11 (W : World) (b o : Nat) (d : Do11) : Prop :=
  ∃ vL vK, W.cell? ⟨b, o, none⟩ = some (.int .i64 d.kind) ∧ W.cell? ⟨b, o + 1, none⟩ = some (.int .i64 d.n) ∧ W.cell? ⟨b, o + 2, none⟩ = some vL ∧ W.cell? ⟨b, o + 3, none⟩ = some vK ∧
    Chgs W (fun k => k < W.heap.size) vL d.l ∧ ChgW d.l ∧ d.l.length ≤ maxLen ∧ Rd W (fun k => k < W.heap.size) vK d.keep.length (bools11 d.keep) ∧ d.keep.length ≤ maxLen ∧ (-9223372036854775808 ≤ d.n ∧ d.n ≤ 9223372036854775807)
/-- The calls lie there. -/
def Dos11 (W : World) (v : Value) (l : List Do11) : Prop := ∃ A c, v = .slice A l.length c ∧ l.length ≤ c ∧ c ≤ maxLen ∧ (A = none → c = 0) ∧ ∀ (i : Nat) (d : Do11), l[i]? = some d → ∃ b o, A = some ⟨b, o, none⟩ ∧ b < W.heap.size ∧ DoCells11 W b (o + i * 4) d
theorem do11_of {W : World} {es : List Value} {x : KDo11.Dat} (H : Has W KDo11 es x) : ∃ (vL vK : Value) (d : Do11), es = [.int .i64 d.kind, .int .i64 d.n, vL, vK] ∧ Chgs W (fun k => k < W.heap.size) vL d.l ∧ ChgW d.l ∧ d.l.length ≤ maxLen ∧ Rd W (fun k => k < W.heap.size) vK d.keep.length (bools11 d.keep) ∧ d.keep.length ≤ maxLen ∧ (-9223372036854775808 ≤ d.n ∧ d.n ≤ 9223372036854775807) := by
  obtain ⟨c1, r1, rfl, _, ⟨rfl, _⟩, c2, r2, rfl, _, ⟨rfl, w2⟩, c3, r3, rfl, _, h3, c4, r4, rfl, _, h4, h5⟩ := H
  obtain ⟨A, n, c, rfl⟩ : ∃ A n c, c3 = [.slice A n c] := by
    obtain ⟨A, c, e, _⟩ := id h3
    exact ⟨A, _, c, e⟩
  obtain ⟨B, m, d, rfl⟩ : ∃ A n c, c4 = [.slice A n c] := by
    obtain ⟨A, c, e, _⟩ := id h4
    exact ⟨A, _, c, e⟩
  have h5' : r4 = [] := h5
  subst h5'
  obtain ⟨l, g1, g2, g3⟩ := KChg_of h3
  have hb := Has.bools h4
  exact ⟨_, _, ⟨x.1, x.2.1, l, x.2.2.2.1⟩, rfl, g3, g1, g2, hb.1, hb.2, i64_le11 w2⟩
theorem Dos11.of {W : World} {A : Option Addr} {n c : Nat} {x : List KDo11.Dat} (H : Has W (.slice KDo11) [.slice A n c] x) : ∃ l : List Do11, Dos11 W (.slice A n c) l := by
  obtain ⟨A', c', e, hlc, hcm, hz⟩ := H.len
  cases e
  obtain ⟨l, hl, hp⟩ := get_has x.length (fun i (d : Do11) => ∃ b o, A = some ⟨b, o, none⟩ ∧ b < W.heap.size ∧ DoCells11 W b (o + i * 4) d) (fun i hi => by
    have hx : x[i]? = some x[i] := List.getElem?_eq_getElem hi
    obtain ⟨b, o, c', e, _, _, hb⟩ := H.plain (by decide) (by omega)
    cases e
    obtain ⟨es, h5, h6, h7⟩ := H.elem hx
    obtain ⟨vL, vK, d, rfl, g1, g2, g3, g4, g5, g6⟩ := do11_of h7
    refine ⟨d, b, o, rfl, hb, vL, vK, ?_, ?_, ?_, ?_, g1, g2, g3, g4, g5, g6⟩
    · have := h6 0 _ rfl; simpa [Kd.sz] using this
    · have := h6 1 _ rfl; simpa [Kd.sz, Nat.add_assoc] using this
    · have := h6 2 _ rfl; simpa [Kd.sz, Nat.add_assoc] using this
    · have := h6 3 _ rfl; simpa [Kd.sz, Nat.add_assoc] using this)
  exact ⟨l, A, c, by rw [hl], by rw [hl]; exact hlc, hcm, hz, fun i d hi => hp i d hi⟩
theorem DoCells11.kept {W w : World} {b o : Nat} {d : Do11} (h : DoCells11 W b o d) (hk : Keeps (fun _ => False) W w) : DoCells11 w b o d := by
  obtain ⟨vL, vK, h1, h2, h3, h4, h5, h6, h7, h8, h9, h10⟩ := h
  have hs := hk.size
  exact ⟨vL, vK, hk.cell h1 (fun h => h), hk.cell h2 (fun h => h), hk.cell h3 (fun h => h), hk.cell h4 (fun h => h), (h5.kept hk (fun _ _ h => h)).mono (fun k hk => by omega), h6, h7, (h8.kept hk (fun _ _ h => h)).mono (fun k hk => by omega), h9, h10⟩
theorem Dos11.kept {W w : World} {v : Value} {l : List Do11} (h : Dos11 W v l) (hk : Keeps (fun _ => False) W w) : Dos11 w v l := by
  obtain ⟨A, c, h1, h2, h3, h4, h5⟩ := h
  refine ⟨A, c, h1, h2, h3, h4, fun i d hi => ?_⟩
  obtain ⟨b, o, e, hb, hc⟩ := h5 i d hi
  exact ⟨b, o, e, by have := hk.size; omega, hc.kept hk⟩
theorem Dos11.front {W : World} {A : Option Addr} {n c : Nat} {l : List Do11} (h : Dos11 W (.slice A n c) l) (m : Nat) (hm : m ≤ l.length) : Dos11 W (.slice A m c) (l.take m) := by
  obtain ⟨A', c', h1, h2, h3, h4, h5⟩ := h
  cases h1
  refine ⟨A, c, by rw [List.length_take, Nat.min_eq_left hm], by rw [List.length_take]; omega, h3, h4, fun i d hi => h5 i d ?_⟩
  rw [List.getElem?_take] at hi
  split at hi
  · exact hi
  · cases hi
def FewD (w : World) (v0 : Value) (l : List Do11) : Value → World → Prop := fun v w' => Keeps (fun _ => False) w w' ∧ ∃ (m : Nat) (A : Option Addr) (c : Nat), v0 = .slice A l.length c ∧ v = .slice A m c ∧ m ≤ l.length ∧ m ≤ 25
set_option maxHeartbeats 3200000 in
set_option maxRecDepth 100000 in
theorem fewd11_c {w : World} {v : Value} {l : List Do11} (h : Dos11 w v l) : Calls Try.prog 25 #[v] w (Rets (FewD w v l)) := by
  obtain ⟨A, c, rfl, h2, h3, h4, hin⟩ := id h
  have HIn := Lib.hid hin
  clear h hin
  simp only [maxLen] at h3
  go_enter Try.func25, Try.ntmps25
  go_wp2
  go_loopw [3, 4] (fun nv iv wr => ∃ (k : Nat) (n : Nat), k ≤ l.length ∧ k ≤ 25 ∧ iv = .int .i64 k ∧ nv = .int .i64 n ∧ n ≤ 60000 ∧ Keeps (fun _ => False) w wr) (fun _ iv _ => l.length - (intOf iv).toNat)
  case atStart => exact ⟨0, 0, Nat.zero_le _, Nat.zero_le _, rfl, rfl, Nat.zero_le _, Keeps.refl _ _⟩
  case round =>
    obtain ⟨k, n, hk, hk25, rfl, rfl, hn, hK⟩ := hrel
    have HK := Lib.hid hK
    by_cases hlt : k < l.length
    · by_cases h25 : k < 25
      · have hd : (k : Int) < 25 := by omega
        obtain ⟨b, o, e, hb, vL, vK, c0, c1, c2, c3, g1, g2, g3, _⟩ := HIn.out k _ (List.getElem?_eq_getElem hlt)
        cases e
        have c2 := hK.cell c2 (fun h => h)
        obtain ⟨AL, cL, rfl, _⟩ := id g1
        have hzr := hK.size
        have HF := Lib.hid (few_c (l[k].l) g2 g3 _ (g1.kept hK (fun _ _ h => h)) (fun j h => by omega))
        have hfl := fewC_len l[k].l
        have HFB := Lib.hid (show ∀ d ∈ fewC l[k].l, d.val.length ≤ 4200 from fun d hd => by
          obtain ⟨e, _, rfl⟩ := List.mem_map.1 hd
          show (e.val.take 4200).length ≤ 4200
          rw [List.length_take]; omega)
        generalize fewC l[k].l = cs at *
        generalize l[k].l.length = nL at *
        clear c0 c1 c3 g1 g2 g3 hK
        go_wp2_with (go_at_call 9; refine Rets.use HF.out ?_; rintro v5 w5 ⟨hk5, hO5⟩; obtain ⟨A5, c5, rfl, _⟩ := hO5.slice)
        have HK5 := Lib.hid (HK.out.trans hk5 (fun _ _ h => h))
        have HC5 := Lib.hid hO5.chgs
        clear hk5 hO5
        go_loopw [3, 6] (fun nv jv ws => ∃ (j : Nat) (m : Nat), j ≤ cs.length ∧ jv = .int .i64 j ∧ nv = .int .i64 m ∧ m ≤ 60000 + 4260 * j ∧ ws = w5) (fun _ jv _ => cs.length - (intOf jv).toNat)
        case atStart => exact ⟨0, n, Nat.zero_le _, rfl, rfl, by omega, rfl⟩
        case round =>
          obtain ⟨j, m, hj, rfl, rfl, hm, rfl⟩ := hrel
          by_cases hjl : j < cs.length
          · obtain ⟨A', c', e, _, _, hin5⟩ := HC5.out
            cases e
            obtain ⟨b2, o2, e, _, vV, d0, d1, d2, hrV⟩ := hin5 j _ (List.getElem?_eq_getElem hjl)
            cases e
            obtain ⟨Av, cv, rfl, _⟩ := hrV.slice
            have hv := HFB.out _ (List.getElem_mem hjl)
            clear hin5 hrV d0 d1
            generalize cs[j].val.length = vl at *
            obtain ⟨mm, hmm⟩ : ∃ mm, mm = m + 60 + vl := ⟨_, rfl⟩
            have emm : (m : Int) + 60 + vl = (mm : Int) := by omega
            have hmm2 : mm ≤ 60000 + 4260 * (j + 1) := by omega
            clear hmm
            go_wp2
            go_roundw
            case rel => exact ⟨j + 1, mm, by omega, by go_num, by go_num, by omega, by trivial⟩
            case measure => simp [intOf]; omega
          · obtain rfl : j = cs.length := by omega
            by_cases hbig : 60000 < m
            · have hbi : (60000 : Int) < m := by omega
              go_wp2
              go_ret
              exact ⟨HK5.out, k, _, _, rfl, rfl, hk, hk25⟩
            · have hbi : (m : Int) ≤ 60000 := by omega
              go_wp2
              go_roundw
              case rel => exact ⟨k + 1, m, hlt, by omega, by go_num, rfl, by omega, HK5.out⟩
              case measure => simp [intOf]; omega
      · obtain rfl : k = 25 := by omega
        by_cases hl25 : 25 < l.length
        · have hl25 : (25 : Int) < l.length := by omega
          go_wp2
          go_ret
          exact ⟨HK.out, 25, _, _, rfl, rfl, hk, Nat.le_refl _⟩
        · exact (hl25 hlt).elim
    · obtain rfl : k = l.length := by omega
      have hl25 : (l.length : Int) ≤ 25 := by omega
      go_wp2
      go_ret
      exact ⟨HK.out, l.length, _, _, rfl, rfl, Nat.le_refl _, hk25⟩
end Go.Proofs.Ytbiohidelhfaiaa
end

section
namespace Go.Proofs.Ytbiohidelhfaiaa
open Go.RowKit Go.Canon Go.Mem Go.Args
open Go.Disk (St)
open Go.Proofs.Ytbiohidelhfaiaa.Sto (Chg)
set_option linter.unusedVariables false
set_option linter.unusedSimpArgs false
theorem Zn.gap {W w : World} {n2 n4 k : Nat} (h1 : n2 ≤ k) (h2 : k < n4) : ¬ Zn W n2 n4 w k := fun h => by unfold Zn at h; omega
theorem Zn.new {W w : World} {n2 n4 k : Nat} (h1 : n2 ≤ n4) (h2 : n4 ≤ w.heap.size) (h3 : w.heap.size ≤ k) : ¬ Zn W n2 n4 w k := fun h => by unfold Zn at h; omega
set_option maxHeartbeats 12800000 in
set_option maxRecDepth 100000 in
theorem whole11_in (W : World) (sec q0 : Int) (vd vc : Value) (ld : List Do11) (c : List Chg) (key : List Int) (hd : Dos11 W vd ld) (hcW : ChgW c) (hcl : c.length ≤ maxLen) (hc : Chgs W (fun k => k < W.heap.size) vc c) (hk : IsB key) : Calls Try.prog 7 #[.int .i64 sec, .int .i64 q0, vd, vc, .string (str key)] W (Rets (Yes W)) := by
  have HF := Lib.hid (fun (w' : World) (K : Keeps (fun _ => False) W w') => few_c c hcW hcl vc (hc.kept K (fun _ _ h => h)) (fun k h => by have := K.size; omega))
  have HC4 := Lib.hid (fun w => cut4_c key 60 w)
  have hkB : IsB (key.take 60) := fun x hx => hk x (List.mem_of_mem_take hx)
  have hkl : (key.take 60).length ≤ 60 := by rw [List.length_take]; omega
  have hCB := fewC_B hcW
  have hCl := fewC_len c
  obtain ⟨A0, c0, hvc, _⟩ := id hc
  obtain ⟨Ad, cd, hvd, hdl, hdm, _⟩ := id hd
  simp only [maxLen] at hdm
  have HD := Lib.hid hd
  clear hd hc hcW hcl
  generalize fewC c = C at *
  obtain ⟨Q, hQ⟩ : ∃ Q, least q0 0 1099511627776 = Q := ⟨_, rfl⟩
  have hQ0 : 0 ≤ Q := by rw [← hQ]; unfold least; split <;> (try split) <;> omega
  have hQ1 : Q ≤ 1099511627776 := by rw [← hQ]; unfold least; split <;> (try split) <;> omega
  obtain ⟨n, hn⟩ : ∃ n : Nat, least sec 1 200 = (n : Int) := ⟨(least sec 1 200).toNat, by unfold least; split <;> (try split) <;> omega⟩
  have hn1 : 1 ≤ n ∧ n ≤ 200 := by
    have h1 : 1 ≤ least sec 1 200 ∧ least sec 1 200 ≤ 200 := by unfold least; split <;> (try split) <;> omega
    omega
  have hn2 : n ≤ 4096 := by omega
  have hn3 := hn1.1
  have HQ := Lib.hid hQ
  have HN := Lib.hid hn
  have HO := Lib.hid (openS_fresh n Q hQ0)
  have HB := Lib.hid (flat_fresh n)
  have HP2 := Lib.hid (show ∀ L, (openP (fresh n)).2.1 = some L → L.texts.length ≤ 4096 ∧ ∀ t ∈ L.texts, IsB t ∧ t.length ≤ 1000000 from fun L h => by
    rw [openP_fresh] at h
    cases h
    exact ⟨by decide, fun t ht => by cases ht⟩)
  have HI0 := Lib.hid (SInv.fresh n hn2 Q)
  have HKB := Lib.hid hkB
  have HCB := Lib.hid hCB
  clear hQ hn hkB hCB hn1
  generalize key.take 60 = ky at *
  subst hvc hvd
  have HDf := Lib.hid (fun (w' : World) (K : Keeps (fun _ => False) W w') => fewd11_c (HD.out.kept K))
  go_enter Try.func7, Try.ntmps7
  go_wp2_with (first
    | (go_at_call 22; go_loud (refine Rets.use (least_c _ _ _ _) ?_); go_loud ((first | rw [HQ.out] | rw [HN.out])); rintro _ _ ⟨rfl, rfl⟩)
    | (go_at_call 21; go_loud (refine Rets.use (HC4.out _) ?_); rintro _ _ ⟨rfl, rfl⟩)
    | (go_at_call 23; go_loud (refine Rets.use (dNew_c n hn3 hn2 _) ?_); rintro v1 w1 ⟨hk1, g, rfl, hd1⟩)
    | (go_at_call 24; go_loud (refine Rets.use (open_c (W := W) (w := w1) (g := g) (s := fresh n) ⟨hk1, _, hd1, fun k h => h⟩ Q (by show (fresh n).opn.length ≤ _; exact Nat.zero_le _) HB.out HP2.out) ?_); intro v2 w2 hp2; rw [HO.out] at hp2; obtain ⟨x, rfl, hS2⟩ := hp2; have hz1 := hk1.size; have hz2 := hS2.1.size)
    | (go_at_call 25; go_loud (refine Rets.use (HDf.out _ hS2.1) ?_); rintro v3 w3 ⟨hk3, m, A3, c3, e3, rfl, hm, hm25⟩; obtain ⟨rfl, _, rfl⟩ := Value.slice.inj e3; clear e3; have hz3 := hk3.size)
    | (go_at_call 9; go_loud (refine Rets.use (HF.out _ (hS2.1.trans hk3 (fun _ _ h => h))) ?_); rintro v4 w4 ⟨hk4, hO4⟩; obtain ⟨A4, c4, rfl, _⟩ := hO4.slice; have hz4 := hk4.size))
  have HS4 := Lib.hid (show WSt W w4 w2.heap.size w4.heap.size g x (fresh n) ⟨⟨[], 0, false⟩, Q, [], 0, 0⟩ [] from ⟨(hS2.z (hk3.trans hk4 (fun _ _ h => h))).mono (fun k h => .inl h) (fun k h => Zn.from hz2 (by omega) h), HI0.out, Nat.zero_le _, hz2, by omega⟩)
  have HD4 := Lib.hid (HD.out.kept HS4.out.z.1)
  have HCh4 := Lib.hid hO4.chgs
  have z23 : w2.heap.size ≤ w3.heap.size := hz3
  clear hk1 hd1 hS2 hk3 hk4 hO4 HF HO HB HP2 HI0 HN HQ HDf HC4
  generalize w2.heap.size = n2 at *
  go_loopw [15] (fun iv wr => ∃ (k : Nat) (s : St) (S : StoS) (l : List KV), k ≤ m ∧ iv = .int .i64 k ∧ WSt W wr n2 w4.heap.size g x s S l ∧ Hid (S.q = Q) ∧ S.n ≤ 20 * k ∧ Keeps (fun j => W.heap.size ≤ j ∧ j < n2) w4 wr) (fun iv _ => m - (intOf iv).toNat)
  case atStart => exact ⟨0, _, _, _, Nat.zero_le _, rfl, HS4.out, Lib.hid rfl, Nat.zero_le _, Keeps.refl _ _⟩
  case round =>
    obtain ⟨k, s, S, l, hkm, rfl, hW, HSq, hSn, hkr⟩ := hrel
    have HW := Lib.hid hW
    have HKr := Lib.hid hkr
    have hzr := hkr.size
    by_cases hlt : k < m
    · have hltd : k < ld.length := by omega
      obtain ⟨A', c', e, _, _, _, hin⟩ := HD.out.kept hW.z.1
      cases e
      obtain ⟨b, o, e, hb, vL, vK, x0, x1, x2, x3, g1, g2, g3, _⟩ := hin k _ (List.getElem?_eq_getElem hltd)
      cases e
      obtain ⟨AL, cL, rfl, _⟩ := id g1
      have HFw := Lib.hid (few_c (ld[k].l) g2 g3 _ g1 (fun j h => h))
      have hfl := fewC_len ld[k].l
      have HFB := Lib.hid (fewC_B g2)
      have HCo := Lib.hid (hW.i.commit (fewC ld[k].l) HFB.out)
      generalize fewC ld[k].l = cs at *
      generalize ld[k].l.length = nL at *
      clear hin x0 x1 x3 g1 g2 g3 hW hkr
      go_wp2_with (first
        | (go_at_call 9; go_loud (refine Rets.use HFw.out ?_); rintro v5 w5 ⟨hk5, hO5⟩; obtain ⟨A5, c5, rfl, _⟩ := hO5.slice; have hz5 := hk5.size)
        | (go_at_call 26; go_loud (refine Rets.use (HW.out.com hk5 cs HFB.out (by omega) _ hO5.chgs (fun j h => ⟨Zn.new (by omega) (by omega) h.1, h.2⟩) (by omega)) ?_); rintro v6 w6 ⟨rfl, hs6, hk6⟩))
      have hz6 := hk6.size
      have hk46 : Keeps (fun j => W.heap.size ≤ j ∧ j < n2) w4 w6 := (HKr.out.trans hk5 (fun _ _ h => h.elim)).trans hk6 (fun j hj h => by unfold Zn at h; omega)
      rcases HCo.out with ⟨a1, a2, a3, a4, a5, a6⟩ | ⟨a1, a2⟩
      · go_roundw
        case rel => exact ⟨k + 1, _, _, _, by omega, by go_num, ⟨hs6, a2, by omega, HW.out.b⟩, Lib.hid (a4.trans HSq.out), by omega, hk46⟩
        case measure => simp [intOf]; omega
      · rw [a2] at hs6
        go_roundw
        case rel => exact ⟨k + 1, s, S, l, by omega, by go_num, ⟨hs6, HW.out.i, HW.out.n, HW.out.b⟩, HSq, by omega, hk46⟩
        case measure => simp [intOf]; omega
    · obtain rfl : k = m := by omega
      have HCh := Lib.hid (HCh4.out.kept hkr (fun j h h2 => by omega))
      have HAl := Lib.hid (fun (w' : World) (h : WSt W w' n2 w4.heap.size g x s S l) => h.all)
      have HUs := Lib.hid (fun (w' : World) (h : WSt W w' n2 w4.heap.size g x s S l) => h.used)
      have HRm := Lib.hid (fun (w' : World) (h : WSt W w' n2 w4.heap.size g x s S l) => h.room)
      have HCm := Lib.hid (fun (w' : World) (K : Keeps (fun _ => False) wr w') => hW.com K C HCB.out (by omega) _ (HCh.out.kept K (fun _ _ h => h)) (fun j h => ⟨Zn.gap (by omega) (by omega), by have := K.size; omega⟩) (by omega))
      have HPB := Lib.hid hW.i.pb
      have HI := Lib.hid hW.i
      have hSn8 := hW.n
      have hbb := hW.b
      have hlen : l.length ≤ 801000 := by have := hW.i.n; have := hW.n; omega
      have HCo := Lib.hid (hW.i.commit C HCB.out)
      rw [HSq.out] at HCo
      clear hW hkr
      rcases HCo.out with ⟨a1, a2, a3, a4, a5, a6⟩ | ⟨a1, a2⟩
      · obtain ⟨s', S', he⟩ : ∃ s' S', commitP s S C = (0, s', S') := ⟨_, _, by rw [← a1]⟩
        rw [he] at a2 a5 HCm
        simp only at a2 a5
        have hDP := PB.done HPB.out C HCB.out
        have HDn := Lib.hid (fun (w' : World) (ok ok2 : Nat → Prop) (v vc : Value) (h : Pairs w' ok v l) (hc : Chgs w' ok2 vc C) => done11_c l HPB.out (by omega) v h C HCB.out (by omega) vc hc)
        have HI2 := Lib.hid a2
        have hSn9 : S'.n ≤ 800000 := by omega
        clear a1 a2 a3 a4 a5 he HCo
        generalize doneP l C = D at *
        have HDP := Lib.hid hDP.1
        have hDl : D.length ≤ 802000 := by have := hDP.2; omega
        have HAl2 := Lib.hid (fun (w' : World) (h : WSt W w' n2 w4.heap.size g x s' S' D) => h.all)
        have HUs2 := Lib.hid (fun (w' : World) (h : WSt W w' n2 w4.heap.size g x s' S' D) => h.used)
        have HGt := Lib.hid (fun (w' : World) (h : WSt W w' n2 w4.heap.size g x s' S' D) => h.get ky HKB.out (by omega))
        have HRg := Lib.hid (fun (w' : World) (ok : Nat → Prop) (x : Nat) (v lv qv : Value) (hx : w'.heap[x]? = some (.cells [lv, qv, v].toArray 77 (0, 0))) (h : Pairs w' ok v D) => rget11_c D HDP.out (by omega) x v lv qv hx h ky HKB.out)
        have HSm := Lib.hid (fun (w' : World) (ok ok2 : Nat → Prop) (va vb : Value) (ha : Pairs w' ok va D) (hb : Pairs w' ok2 vb D) => same11_c D D HDP.out HDP.out (by omega) (by omega) va vb ha hb)
        rw [decide_eq_true (rfl : D = D)] at HSm
        have hvl : ((getP D ky).getD []).length ≤ 1000000 := by
          cases hg : getP D ky with
          | none => exact Nat.zero_le _
          | some v =>
            unfold getP at hg
            cases hf : D.find? (fun p => decide (p.1 = ky)) with
            | none => rw [hf] at hg; cases hg
            | some p =>
              rw [hf] at hg
              cases hg
              exact (HDP.out p (List.mem_of_find?_eq_some hf)).2.2.2
        clear hDP
        generalize getP D ky = r at *
        generalize bytesP l = u at *
        generalize bytesP D = u2 at *
        generalize roomP s.now.length S.L.next = rm at *
        have HGI := Lib.hid (fun (w w' : World) (ok : Nat → Prop) (v : Value) (h : GetIs w ok r v w') => h.one)
        have hgi : ∀ (w w' : World) (v : Value), GotIs w r v w' → Keeps (fun _ => False) w w' ∧ ∃ u, v = .tuple #[u, .bool r.isSome] ∧ OwnRow w' (fun j => w.heap.size ≤ j) 5 1 u (r.getD []).length (Disk.bytes8 (r.getD [])) := fun _ _ _ h => h
        have HGO := Lib.hid hgi
        clear hgi
        generalize r.isSome = bb at *
        generalize r.getD [] = vv at *
        have qb : (bb == bb) = true := by simp
        by_cases h1 : Q < u2
        · have h2 : u2 ≤ u := by omega
          clear a6
          go_wp2_with (first
            | (go_at_call 20; refine Rets.use (lives11_c _) ?_; rintro _ w16 ⟨rfl, hk16⟩)
            | (go_at_call 16; go_loud (refine Rets.use (same_c _ _ vv vv (((hOg.rd.kept hk12 (fun _ _ h => h)).kept hk13 (fun _ _ h => h)).kept hk14 (fun _ _ h => h)) hRr (by omega)) ?_); rintro _ w15 ⟨rfl, hk15⟩; rw [decide_eq_true (rfl : vv = vv)])
            | (go_at_call 39; go_loud (refine Rets.use (HRg.out _ _ _ _ _ _ hb13 (hD12.kept hk13 (fun _ _ h => h))) ?_); rintro vr w14 hg14; obtain ⟨hk14, ur, rfl, hRr⟩ := HGI.out _ _ _ _ hg14; obtain ⟨Ar, cr, rfl, _⟩ := hRr.slice)
            | ((with_reducible refine at_ 119 rfl ?_); go_must (refine step_box rfl 77 _ rfl _ rfl [.pointer none, .int .i64 0, .slice A12 D.length c12] rfl ?_); intro w13 hb13 hk13 hs13)
            | (go_at_call 31; (have hz := hOg); clear hz; go_loud (refine Rets.use (HDn.out _ _ _ _ _ hP11 (hC11)) ?_); rintro v12 w12 ⟨hk12, hD12⟩; obtain ⟨A12, c12, rfl, _⟩ := id hD12)
            | (go_at_call 38; go_loud (refine Rets.use (HGt.out _ (((HW7.out.kept hk8).kept hk9).kept hk10)) ?_); rintro vg w11 hg11; obtain ⟨hk11, ug, rfl, hOg⟩ := HGO.out _ _ _ hg11; obtain ⟨Ag, cg, rfl, _⟩ := hOg.slice; have hP11 := ((hP8w.kept hk9 (fun _ _ h => h)).kept hk10 (fun _ _ h => h)).kept hk11 (fun _ _ h => h); have hC11 := ((hC8.kept hk9 (fun _ _ h => h)).kept hk10 (fun _ _ h => h)).kept hk11 (fun _ _ h => h))
            | (go_at_call 30; go_loud (refine Rets.use (HSm.out _ _ _ _ _ (hP8.kept hk9 (fun _ _ h => h)) hD9) ?_); rintro _ w10 ⟨rfl, hk10⟩)
            | (go_at_call 31; go_loud (refine Rets.use (HDn.out _ _ _ _ _ hP8w hC8) ?_); rintro v9 w9 ⟨hk9, hD9⟩; obtain ⟨A9, c9, rfl, _⟩ := id hD9)
            | (go_at_call 28; (have hz := HW7); clear hz; go_loud (refine Rets.use (HAl2.out _ HW7.out) ?_); rintro v8 w8 ⟨hk8, hP8⟩; obtain ⟨A8, c8, rfl, _⟩ := id hP8; have hP8w := hP7.kept hk8 (fun _ _ h => h); have hC8 := hC7.kept hk8 (fun _ _ h => h))
            | (go_at_call 35; (have hz := HW7); clear hz; go_loud (refine Rets.use (HUs2.out _ HW7.out) ?_); rintro _ _ ⟨rfl, rfl⟩)
            | (go_at_call 26; go_loud (refine Rets.use (HCm.out _ (hk5.trans hk6 (fun _ _ h => h))) ?_); rintro v7 w7 ⟨hv7, hs7, hk7⟩; obtain rfl : v7 = .int .i64 0 := hv7; have HW7 := Lib.hid (show WSt W w7 n2 w4.heap.size g x s' S' D from ⟨hs7, HI2.out, hSn9, hbb⟩); have hP7 := (hP5.kept hk6 (fun _ _ h => h)).kept hk7 (fun j h => Zn.new hbb.2 hzr h); have hC7 := ((HCh.out.kept hk5 (fun _ _ h => h)).kept hk6 (fun _ _ h => h)).kept hk7 (fun j h => Zn.gap (by omega) h.2))
            | (go_at_call 37; go_loud (refine Rets.use (HRm.out _ (HW.out.kept hk5)) ?_); rintro _ w6 ⟨rfl, hk6⟩)
            | (go_at_call 35; go_loud (refine Rets.use (HUs.out _ (HW.out.kept hk5)) ?_); rintro _ _ ⟨rfl, rfl⟩)
            | (go_at_call 28; go_loud (refine Rets.use (HAl.out _ HW.out) ?_); rintro vw w5 ⟨hk5, hP5⟩; obtain ⟨Aw, cw, rfl, _⟩ := id hP5))
          go_ret
          exact ⟨rfl, (((((((((HW7.out.kept hk8).kept hk9).kept hk10).kept hk11).kept hk12).kept hk13).kept hk14).kept hk15).kept hk16).z.1⟩
        · have h1b : u2 ≤ Q := by omega
          clear a6 h1
          go_wp2_with (first
            | (go_at_call 20; refine Rets.use (lives11_c _) ?_; rintro _ w16 ⟨rfl, hk16⟩)
            | (go_at_call 16; go_loud (refine Rets.use (same_c _ _ vv vv (((hOg.rd.kept hk12 (fun _ _ h => h)).kept hk13 (fun _ _ h => h)).kept hk14 (fun _ _ h => h)) hRr (by omega)) ?_); rintro _ w15 ⟨rfl, hk15⟩; rw [decide_eq_true (rfl : vv = vv)])
            | (go_at_call 39; go_loud (refine Rets.use (HRg.out _ _ _ _ _ _ hb13 (hD12.kept hk13 (fun _ _ h => h))) ?_); rintro vr w14 hg14; obtain ⟨hk14, ur, rfl, hRr⟩ := HGI.out _ _ _ _ hg14; obtain ⟨Ar, cr, rfl, _⟩ := hRr.slice)
            | ((with_reducible refine at_ 119 rfl ?_); go_must (refine step_box rfl 77 _ rfl _ rfl [.pointer none, .int .i64 0, .slice A12 D.length c12] rfl ?_); intro w13 hb13 hk13 hs13)
            | (go_at_call 31; (have hz := hOg); clear hz; go_loud (refine Rets.use (HDn.out _ _ _ _ _ hP11 (hC11)) ?_); rintro v12 w12 ⟨hk12, hD12⟩; obtain ⟨A12, c12, rfl, _⟩ := id hD12)
            | (go_at_call 38; go_loud (refine Rets.use (HGt.out _ (((HW7.out.kept hk8).kept hk9).kept hk10)) ?_); rintro vg w11 hg11; obtain ⟨hk11, ug, rfl, hOg⟩ := HGO.out _ _ _ hg11; obtain ⟨Ag, cg, rfl, _⟩ := hOg.slice; have hP11 := ((hP8w.kept hk9 (fun _ _ h => h)).kept hk10 (fun _ _ h => h)).kept hk11 (fun _ _ h => h); have hC11 := ((hC8.kept hk9 (fun _ _ h => h)).kept hk10 (fun _ _ h => h)).kept hk11 (fun _ _ h => h))
            | (go_at_call 30; go_loud (refine Rets.use (HSm.out _ _ _ _ _ (hP8.kept hk9 (fun _ _ h => h)) hD9) ?_); rintro _ w10 ⟨rfl, hk10⟩)
            | (go_at_call 31; go_loud (refine Rets.use (HDn.out _ _ _ _ _ hP8w hC8) ?_); rintro v9 w9 ⟨hk9, hD9⟩; obtain ⟨A9, c9, rfl, _⟩ := id hD9)
            | (go_at_call 28; (have hz := HW7); clear hz; go_loud (refine Rets.use (HAl2.out _ HW7.out) ?_); rintro v8 w8 ⟨hk8, hP8⟩; obtain ⟨A8, c8, rfl, _⟩ := id hP8; have hP8w := hP7.kept hk8 (fun _ _ h => h); have hC8 := hC7.kept hk8 (fun _ _ h => h))
            | (go_at_call 35; (have hz := HW7); clear hz; go_loud (refine Rets.use (HUs2.out _ HW7.out) ?_); rintro _ _ ⟨rfl, rfl⟩)
            | (go_at_call 26; go_loud (refine Rets.use (HCm.out _ (hk5.trans hk6 (fun _ _ h => h))) ?_); rintro v7 w7 ⟨hv7, hs7, hk7⟩; obtain rfl : v7 = .int .i64 0 := hv7; have HW7 := Lib.hid (show WSt W w7 n2 w4.heap.size g x s' S' D from ⟨hs7, HI2.out, hSn9, hbb⟩); have hP7 := (hP5.kept hk6 (fun _ _ h => h)).kept hk7 (fun j h => Zn.new hbb.2 hzr h); have hC7 := ((HCh.out.kept hk5 (fun _ _ h => h)).kept hk6 (fun _ _ h => h)).kept hk7 (fun j h => Zn.gap (by omega) h.2))
            | (go_at_call 37; go_loud (refine Rets.use (HRm.out _ (HW.out.kept hk5)) ?_); rintro _ w6 ⟨rfl, hk6⟩)
            | (go_at_call 35; go_loud (refine Rets.use (HUs.out _ (HW.out.kept hk5)) ?_); rintro _ _ ⟨rfl, rfl⟩)
            | (go_at_call 28; go_loud (refine Rets.use (HAl.out _ HW.out) ?_); rintro vw w5 ⟨hk5, hP5⟩; obtain ⟨Aw, cw, rfl, _⟩ := id hP5))
          go_ret
          exact ⟨rfl, (((((((((HW7.out.kept hk8).kept hk9).kept hk10).kept hk11).kept hk12).kept hk13).kept hk14).kept hk15).kept hk16).z.1⟩
      · obtain ⟨e, he⟩ : ∃ e, commitP s S C = (e, s, S) := ⟨(commitP s S C).1, by rw [← a2]⟩
        rw [he] at a1 HCm
        have qe : (e != 0) = true := by simpa using a1
        clear a1 a2 he HCo
        generalize bytesP l = u at *
        generalize roomP s.now.length S.L.next = rm at *
        have qu : (u == u) = true := by simp
        have qr : (rm == rm) = true := by simp
        have HSm := Lib.hid (fun (w' : World) (ok ok2 : Nat → Prop) (va vb : Value) (ha : Pairs w' ok va l) (hb : Pairs w' ok2 vb l) => same11_c l l HPB.out HPB.out (by omega) (by omega) va vb ha hb)
        rw [decide_eq_true (rfl : l = l)] at HSm
        go_wp2_with (first
          | (go_at_call 20; refine Rets.use (lives11_c _) ?_; rintro _ w15 ⟨rfl, hk15⟩)
          | (go_at_call 37; (have hz := hk9); clear hz; go_loud (refine Rets.use (HRm.out _ (HW8.out.kept hk9)) ?_); rintro _ w10 ⟨rfl, hk10⟩)
          | (go_at_call 35; (have hz := hk9); clear hz; go_loud (refine Rets.use (HUs.out _ (HW8.out.kept hk9)) ?_); rintro _ _ ⟨rfl, rfl⟩)
          | (go_at_call 30; go_loud (refine Rets.use (HSm.out _ _ _ _ _ hP8 hQ8) ?_); rintro _ w9 ⟨rfl, hk9⟩)
          | (go_at_call 28; (have hz := HW7); clear hz; go_loud (refine Rets.use (HAl.out _ HW7.out) ?_); rintro v8 w8 ⟨hk8, hP8⟩; obtain ⟨A8, c8, rfl, _⟩ := id hP8; have HW8 := Lib.hid (HW7.out.kept hk8); have hQ8 := hP7.kept hk8 (fun _ _ h => h))
          | (go_at_call 26; go_loud (refine Rets.use (HCm.out _ (hk5.trans hk6 (fun _ _ h => h))) ?_); rintro v7 w7 ⟨hv7, hs7, hk7⟩; obtain rfl : v7 = .int .i64 e := hv7; have HW7 := Lib.hid (show WSt W w7 n2 w4.heap.size g x s S l from ⟨hs7, HI.out, hSn8, hbb⟩); have hP7 := (hP5.kept hk6 (fun _ _ h => h)).kept hk7 (fun j h => Zn.new hbb.2 hzr h))
          | (go_at_call 37; go_loud (refine Rets.use (HRm.out _ (HW.out.kept hk5)) ?_); rintro _ w6 ⟨rfl, hk6⟩)
          | (go_at_call 35; go_loud (refine Rets.use (HUs.out _ (HW.out.kept hk5)) ?_); rintro _ _ ⟨rfl, rfl⟩)
          | (go_at_call 28; go_loud (refine Rets.use (HAl.out _ HW.out) ?_); rintro vw w5 ⟨hk5, hP5⟩; obtain ⟨Aw, cw, rfl, _⟩ := id hP5))
        go_ret
        exact ⟨rfl, (((HW8.out.kept hk9).kept hk10).kept hk15).z.1⟩
theorem storeWhole_walk (W : World) (m0 : Int) (hm0 : (Lit.int .i64 m0).wf = true) (m1 : Int) (hm1 : (Lit.int .i64 m1).wf = true) (a0 : Option Addr) (len0 cap0 : Nat) (x0 : List KDo11.Dat) (H0 : Has W (.slice KDo11) [.slice a0 len0 cap0] x0) (a1 : Option Addr) (len1 cap1 : Nat) (x1 : List (ByteArray × Bool × List Int × Unit)) (H1 : Has W KChg [.slice a1 len1 cap1] x1) (s : ByteArray) (hs : s.size ≤ maxLen) : Calls Try.prog 7 #[.int .i64 m0, .int .i64 m1, .slice a0 len0 cap0, .slice a1 len1 cap1, .string s] W (Rets (Yes W)) := by
  obtain ⟨l, h1, h2, h3⟩ := KChg_of H1
  obtain ⟨ld, h4⟩ := Dos11.of H0
  rw [str_of s]
  exact whole11_in W m0 m1 _ _ ld l _ h4 h1 h2 h3 (bytesOf_byte _)
end Go.Proofs.Ytbiohidelhfaiaa
end
