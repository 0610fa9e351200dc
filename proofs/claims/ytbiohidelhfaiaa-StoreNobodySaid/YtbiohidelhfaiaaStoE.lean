/-
  store.do: the walk.
-/
import Derived.Test.YtbiohidelhfaiaaStoD
import Derived.Test.YtbiohidelhfaiaaClone
namespace Go.Proofs.Ytbiohidelhfaiaa
open Go.RowKit Go.Canon Go.Mem
open Go.Proofs.Ytbiohidelhfaiaa.Sto (Chg)
set_option linter.unusedVariables false
set_option linter.unusedSimpArgs false
def DoPost (w : World) (x bm : Nat) (R : Nat → Prop) (lv : Value) (q : Int) (n : Nat) (s : Sto.Mp × Int) : Value → World → Prop := fun v w' => v = .tuple #[] ∧ Keeps (fun j => j = x ∨ j = bm) w w' ∧ SIs w' x bm (fun j => R j ∨ w.heap.size ≤ j) lv q n s
set_option maxHeartbeats 12800000 in
set_option maxRecDepth 100000 in
theorem do_b {w : World} {ok R : Nat → Prop} {x bm n : Nat} {lv : Value} {q : Int} {s : Sto.Mp × Int} (hS : SIs w x bm R lv q n s) (hR : ∀ j, R j → j < w.heap.size) (l : List Chg) (hB : ChgB l) (hl : l.length ≤ 1000000) (hn : n ≤ 1000000) (hu : -1000000000000000 ≤ s.2 ∧ s.2 ≤ 1000000000000000) (v : Value) (h : Chgs w ok v l) (hok : ∀ j, ok j → j < w.heap.size ∧ j ≠ x ∧ j ≠ bm) :
    Calls Try.prog 52 #[.pointer (some ⟨x, 0, none⟩), v] w (Rets fun v w' => DoPost w x bm R lv q (n + l.length) (Sto.doF s l) v w' ∧ s.2 - 4000000 * l.length ≤ (Sto.doF s l).2 ∧ (Sto.doF s l).2 ≤ s.2 + 4000000 * l.length) := by
  obtain ⟨A, c, rfl, hlc, _, _⟩ := id h
  have H := Lib.hid h
  have HB := Lib.hid hB
  have HS0 := Lib.hid hS
  have HR := Lib.hid hR
  obtain ⟨hx, hbm⟩ := hS.lt
  have hne := hS.ne
  clear h hB hS hR
  go_enter Try.func52, Try.ntmps52
  go_wp2
  go_loopw [8] (fun i wr => ∃ k : Nat, k ≤ l.length ∧ i = .int .i64 k ∧ Keeps (fun j => j = x ∨ j = bm) w wr ∧ SIs wr x bm (fun j => R j ∨ w.heap.size ≤ j) lv q (n + k) (Sto.doF s (l.take k)) ∧ s.2 - 4000000 * k ≤ (Sto.doF s (l.take k)).2 ∧ (Sto.doF s (l.take k)).2 ≤ s.2 + 4000000 * k) (fun i _ => l.length - (intOf i).toNat)
  case atStart => exact ⟨0, Nat.zero_le _, rfl, Keeps.refl _ _, ⟨HS0.out.blk, HS0.out.map.mono (Nat.le_refl _) (fun _ _ h => .inl h), fun h => h.elim HS0.out.r1 (fun h => by omega), fun h => h.elim HS0.out.r2 (fun h => by omega), hne⟩, by simp [Sto.doF], by simp [Sto.doF]⟩
  case round =>
    obtain ⟨k, hk, rfl, hkr, hSr, hu1, hu2⟩ := hrel
    have hwr := hkr.size
    by_cases hlt : k < l.length
    · obtain ⟨A', c', e, _, _, hin⟩ := H.out
      cases e
      obtain ⟨b, o, e, hb, vV, c0, c1, c2, hrV⟩ := hin k _ (List.getElem?_eq_getElem hlt)
      cases e
      obtain ⟨Av, cv, rfl, _⟩ := hrV.slice
      obtain ⟨hb1, hb2, hb3, hb4⟩ := HB.out _ (List.getElem_mem hlt)
      obtain ⟨hbw, hbx, hbb⟩ := hok b hb
      have HNX := Lib.hid (Sto.doF_next s hlt)
      have c0 := hkr.cell c0 (fun h => h.elim hbx hbb)
      have c1 := hkr.cell c1 (fun h => h.elim hbx hbb)
      have c2 := hkr.cell c2 (fun h => h.elim hbx hbb)
      have hrV' := (hrV.lt.mono (ok' := fun j => j < w.heap.size ∧ j ≠ x ∧ j ≠ bm) (fun j h => hok j h.1)).kept hkr (fun j h h' => h'.elim h.2.1 h.2.2)
      have hcs := hSr.map.cost hb1 hb3
      have HKy := Lib.hid hb1
      have HKr := Lib.hid hkr
      have hur1 : -1004000000000000 ≤ (Sto.doF s (l.take k)).2 := by omega
      have hur2 : (Sto.doF s (l.take k)).2 ≤ 1004000000000000 := by omega
      generalize Sto.doF s (l.take k) = s1 at *
      obtain ⟨M, u⟩ := s1
      generalize l[k] = d at *
      obtain ⟨key, del, val⟩ := d
      simp only at c0 c1 c2 hb1 hb2 hb3 hb4 hrV' hcs hur1 hur2 HKy hSr hu1 hu2
      have zk := str_size key
      have HCst := Lib.hid (fun (w : World) (R : Nat → Prop) (n : Nat) (h : SIs w x bm R lv q n (M, u)) => cost_c h.c3 h.map key hb1 hb3)
      obtain ⟨sk, hsk⟩ : ∃ s, s = str key := ⟨_, rfl⟩
      have HSk := Lib.hid hsk
      rw [← hsk] at c0 zk HCst
      have HSr := Lib.hid hSr
      have HRV := Lib.hid hrV'
      have HU1 := Lib.hid hu1
      have HU2 := Lib.hid hu2
      clear hin hrV hsk hkr hb1 hb2 hSr hrV' hu1 hu2
      go_wp2_with (first
        | ((with_reducible refine at_ 5 rfl ?_); go_must (refine step_alloc rfl _ rfl _ chgZ row_chg rfl ?_); intro w3 hb3' hk3 hs3)
        | ((with_reducible refine at_store 41 (.tmp 5) (.tmp 11) rfl ?_); go_must (refine step_store rfl _ _ _ rfl wr.heap.size 0 [.string sk, .bool del, .slice Av val.length cv] _ _ rfl rfl hb3' (by simp [chgZ]) info_chg (by simp [Value.oneCell']) ?_); intro w4 hb4' hk4 hs4; rw [put_whole (by rfl)] at hb4'))
      have KS := (((Keeps.refl (fun _ => False) wr).trans hk3 (fun _ _ h => h) |>.mono (S' := fun j => wr.heap.size ≤ j) (fun _ _ h => h.elim)).trans hk4 (fun j _ h => by omega) |>.mono (S' := fun _ => False) (fun j hj h => by omega))
      have KD := KS.drew
      have HKd := Lib.hid (HKr.out.trans KD (fun _ _ h => h.elim))
      have HSd := Lib.hid (HSr.out.kept0 KD)
      have HRVd := Lib.hid (HRV.out.kept KD (fun _ _ h => h))
      have HBd : Hid (w4.drew.heap[wr.heap.size]? = some (.cells [Value.string sk, .bool del, .slice Av val.length cv].toArray 41 (0, 0))) := Lib.hid hb4'
      have hzd : wr.heap.size < w4.drew.heap.size := by show wr.heap.size < w4.heap.size; omega
      refine Canon.region [7] [(⟨x, 2, none⟩, .int .i64 u)] [(3, 0)] (.hold [0, 1, 2, 4, 5, 6, 3] (.loud 7 (.seg [8, 9, 10, 11] .stop))) (by kernel_rfl) (by kernel_rfl) (by repeat (first | (with_reducible exact Safe.body) | (with_reducible apply Safe.then) | (with_reducible apply Safe.inBlock) | (dsimp +zetaDelta only))) ?_
      simp only [Canon.pick, Canon.wpPlan, List.getElem?_toArray, List.getElem?_cons_zero, List.getElem?_cons_succ]
      generalize w4.drew = wd at *
      clear hb3' hb4' hk3 hk4 hs3 hs4 KS KD c0 c1 c2
      generalize wr.heap.size = B at *
      have HLx := Lib.hid (fun (y : World) (u : Int) (h : SIs y x bm (fun j => R j ∨ w.heap.size ≤ j) lv q (n + k) (M, u)) => (by
        intro p hp
        rw [List.mem_singleton] at hp
        subst hp
        exact h.c2 : Cells [(⟨x, 2, none⟩, Value.int .i64 u)] y))
      have e0 : wd.cell? ⟨B, 0, none⟩ = some (.string sk) := cell_of_row wd _ 0 _ _ _ HBd.out
      have e2 : wd.cell? ⟨x, 2, none⟩ = some (.int .i64 u) := HSd.out.c2
      refine ⟨HLx.out _ _ HSd.out, ?_⟩
      go_wp2_with (go_at_call 53; refine Rets.use (HCst.out _ _ _ HSd.out) ?_; rintro _ _ ⟨rfl, rfl⟩)
      refine ⟨HLx.out _ _ HSd.out, ?_⟩
      go_wp2_with ((with_reducible refine at_store 3 (.tmp 22) (.tmp 20) rfl ?_); go_must (refine step_store1 rfl _ _ _ rfl x 2 (.int .i64 (u - Sto.costF M key)) _ _ rfl rfl rfl HSd.out.blk (by simp [stoC]) info_int ?_); intro w5 hb5 hk5 hs5)
      refine ⟨by rfl, ⟨fun _ => rfl, trivial⟩, ?_⟩
      have hS5 := HSd.out.setU hk5 hb5
      have hB5 := hk5.heap HBd.out (fun e => by omega)
      have hK5 := HKd.out.trans (hk5.mono (S' := fun j => j = x ∨ j = bm) (fun j _ h => .inl h)) (fun _ _ h => h)
      have hRV5 := HRVd.out.kept hk5 (fun j h e => h.2.1 e)
      clear hb5 hk5 e0 e2
      have c1 : w5.cell? ⟨B, 1, none⟩ = some (.bool del) := cell_of_row w5 _ 1 _ _ _ hB5
      have HS5 := Lib.hid hS5
      have HB5 := Lib.hid hB5
      have HK5 := Lib.hid hK5
      have HRV5 := Lib.hid hRV5
      have hz5 : B < w5.heap.size := by omega
      clear hS5 hB5 hK5 hRV5
      cases del with
      | true =>
        go_wp2
        have KD : Keeps (fun _ => False) w5 w5.drew := (Keeps.refl _ w5).drew
        have HS6 := Lib.hid (HS5.out.kept0 KD)
        have HB6 := Lib.hid (KD.heap HB5.out (fun h => h))
        have HK6 := Lib.hid (HK5.out.trans KD (fun _ _ h => h.elim))
        have hz6 : B < w5.drew.heap.size := hz5
        refine Canon.row [0, 1, 2, 4, 3, 5, 6] (by kernel_rfl) (by kernel_rfl) (by repeat (first | (with_reducible exact Safe.body) | (with_reducible apply Safe.then) | (with_reducible apply Safe.inBlock) | (dsimp +zetaDelta only))) ?_
        simp only [Canon.pick, Canon.wpPlan, List.getElem?_toArray, List.getElem?_cons_zero, List.getElem?_cons_succ]
        generalize w5.drew = we at *
        have e0 : we.cell? ⟨B, 0, none⟩ = some (.string sk) := cell_of_row we _ 0 _ _ _ HB6.out
        have e3 : we.cell? ⟨x, 3, none⟩ = some (.map (some bm)) := HS6.out.c3
        clear KD c1
        go_wp2_with ((with_reducible refine at_del (.tmp 28) (.tmp 30) (by with_reducible rfl) ?_); go_loud (refine step_del rfl _ _ rfl bm (n + k) M rfl HS6.out.map HS6.out.r2 sk key rfl HSk.out HKy.out hb3 ?_); intro w7 hM7 hk7 hs7)
        refine ⟨by rfl, trivial, ?_⟩
        have HS7 := Lib.hid (show SIs w7 x bm (fun j => R j ∨ w.heap.size ≤ j) lv q (n + k) (Sto.del M key, u - Sto.costF M key) from ⟨hk7.heap HS6.out.blk (fun e => hne e), hM7, HS6.out.r1, HS6.out.r2, hne⟩)
        have HB7 := Lib.hid (hk7.heap HB6.out (fun e => by omega))
        have HK7 := Lib.hid (HK6.out.trans (hk7.mono (S' := fun j => j = x ∨ j = bm) (fun j _ h => .inr h)) (fun _ _ h => h))
        have hz7 : B < w7.heap.size := by omega
        clear hM7 hk7 e0 e3
        go_wp2
        have KD : Keeps (fun _ => False) w7 w7.drew := (Keeps.refl _ w7).drew
        have HS8 := Lib.hid (HS7.out.kept0 KD)
        have HB8 := Lib.hid (KD.heap HB7.out (fun h => h))
        have HK8 := Lib.hid (HK7.out.trans KD (fun _ _ h => h.elim))
        refine Canon.region [7] [(⟨x, 2, none⟩, .int .i64 (u - Sto.costF M key))] [(3, 0)] (.hold [0, 1, 2, 4, 5, 6, 3] (.loud 7 (.seg [8, 9, 10, 11] .stop))) (by kernel_rfl) (by kernel_rfl) (by repeat (first | (with_reducible exact Safe.body) | (with_reducible apply Safe.then) | (with_reducible apply Safe.inBlock) | (dsimp +zetaDelta only))) ?_
        simp only [Canon.pick, Canon.wpPlan, List.getElem?_toArray, List.getElem?_cons_zero, List.getElem?_cons_succ]
        generalize w7.drew = wf at *
        have hcs2 := HS8.out.map.cost HKy.out hb3
        have HC2 := Lib.hid (cost_c HS8.out.c3 HS8.out.map key HKy.out hb3)
        rw [← HSk.out] at HC2
        have HLy := Lib.hid (fun (y : World) (h : y.cell? ⟨x, 2, none⟩ = some (Value.int .i64 (u - Sto.costF M key))) => (by
          intro p hp
          rw [List.mem_singleton] at hp
          subst hp
          exact h : Cells [(⟨x, 2, none⟩, Value.int .i64 (u - Sto.costF M key))] y))
        have e0 : wf.cell? ⟨B, 0, none⟩ = some (.string sk) := cell_of_row wf _ 0 _ _ _ HB8.out
        have e2 : wf.cell? ⟨x, 2, none⟩ = some (.int .i64 (u - Sto.costF M key)) := HS8.out.c2
        clear KD
        refine ⟨HLy.out _ HS8.out.c2, ?_⟩
        go_wp2_with (go_at_call 53; refine Rets.use HC2.out ?_; rintro _ _ ⟨rfl, rfl⟩)
        refine ⟨HLy.out _ HS8.out.c2, ?_⟩
        go_wp2_with ((with_reducible refine at_store 3 (.tmp 50) (.tmp 48) rfl ?_); go_must (refine step_store1 rfl _ _ _ rfl x 2 (.int .i64 (u - Sto.costF M key + Sto.costF (Sto.del M key) key)) _ _ rfl rfl rfl HS8.out.blk (by simp [stoC]) info_int ?_); intro w9 hb9 hk9 hs9)
        refine ⟨by rfl, ⟨fun _ => rfl, trivial⟩, ?_⟩
        have HS9 := Lib.hid (HS8.out.setU hk9 hb9)
        have HK9 := Lib.hid (HK8.out.trans (hk9.mono (S' := fun j => j = x ∨ j = bm) (fun j _ h => .inl h)) (fun _ _ h => h))
        clear hb9 hk9 e0 e2
        go_wp2
        go_roundw
        case rel => exact ⟨k + 1, hlt, by go_num, HK9.out, by rw [HNX.out]; exact ⟨HS9.out.blk, HS9.out.map.mono (by omega) (fun _ _ h => h), HS9.out.r1, HS9.out.r2, hne⟩, by rw [HNX.out]; have := HU1.out; simp only [Sto.step, Sto.do1, if_true]; omega, by rw [HNX.out]; have := HU2.out; simp only [Sto.step, Sto.do1, if_true]; omega⟩
        case measure => simp [intOf]; omega
      | false =>
        go_wp2
        have KD : Keeps (fun _ => False) w5 w5.drew := (Keeps.refl _ w5).drew
        have HS6 := Lib.hid (HS5.out.kept0 KD)
        have HB6 := Lib.hid (KD.heap HB5.out (fun h => h))
        have HK6 := Lib.hid (HK5.out.trans KD (fun _ _ h => h.elim))
        have HRV6 := Lib.hid (HRV5.out.kept KD (fun _ _ h => h))
        have hz6 : B < w5.drew.heap.size := hz5
        refine Canon.region [8] [(⟨x, 3, none⟩, .map (some bm)), (⟨B, 0, none⟩, .string sk)] [(3, 0), (5, 1)] (.hold [0, 1, 2, 4, 6, 7, 3, 5] (.loud 8 (.seg [9] .stop))) (by kernel_rfl) (by kernel_rfl) (by repeat (first | (with_reducible exact Safe.body) | (with_reducible apply Safe.then) | (with_reducible apply Safe.inBlock) | (dsimp +zetaDelta only))) ?_
        simp only [Canon.pick, Canon.wpPlan, List.getElem?_toArray, List.getElem?_cons_zero, List.getElem?_cons_succ]
        generalize w5.drew = we at *
        have e0 : we.cell? ⟨B, 0, none⟩ = some (.string sk) := cell_of_row we _ 0 _ _ _ HB6.out
        have e2 : we.cell? ⟨B, 2, none⟩ = some (.slice Av val.length cv) := cell_of_row we _ 2 _ _ _ HB6.out
        have e3 : we.cell? ⟨x, 3, none⟩ = some (.map (some bm)) := HS6.out.c3
        have HLz := Lib.hid (fun (y : World) (h1 : y.cell? ⟨x, 3, none⟩ = some (Value.map (some bm))) (h2 : y.cell? ⟨B, 0, none⟩ = some (Value.string sk)) => (by
          intro p hp
          rw [List.mem_cons, List.mem_singleton] at hp
          rcases hp with rfl | rfl
          · exact h1
          · exact h2 : Cells [(⟨x, 3, none⟩, Value.map (some bm)), (⟨B, 0, none⟩, Value.string sk)] y))
        have HCl := Lib.hid (clone_c _ val HRV6.out (by omega))
        clear KD c1
        refine ⟨HLz.out _ e3 e0, ?_⟩
        go_wp2_with (go_at_call 64; refine Rets.use HCl.out ?_; rintro v6 w6 hO6)
        have HS6' := Lib.hid (HS6.out.kept0 hO6.2)
        have HB6' := Lib.hid (hO6.2.heap HB6.out (fun h => h))
        have HK6' := Lib.hid (HK6.out.trans hO6.2 (fun _ _ h => h.elim))
        have HO6 := Lib.hid hO6.1
        have hz6' := hO6.2.size
        have f0 : w6.cell? ⟨B, 0, none⟩ = some (.string sk) := cell_of_row w6 _ 0 _ _ _ HB6'.out
        have f3 : w6.cell? ⟨x, 3, none⟩ = some (.map (some bm)) := HS6'.out.c3
        clear hO6 e0 e2 e3
        refine ⟨HLz.out _ f3 f0, ?_⟩
        have hwz : w.heap.size ≤ we.heap.size := HK6.out.size
        go_wp2_with (at_mapUpdate; go_loud (refine step_put (R2 := fun j => we.heap.size ≤ j) rfl _ _ _ rfl bm (n + k) M rfl HS6'.out.map HS6'.out.r2 (by omega) sk key rfl HSk.out HKy.out hb3 v6 val rfl HO6.out (by omega) hb4 ?_); intro w7 hM7 hk7 hs7)
        refine ⟨by rfl, ⟨fun _ => rfl, fun _ => rfl, trivial⟩, ?_⟩
        have HS7 := Lib.hid (show SIs w7 x bm (fun j => R j ∨ w.heap.size ≤ j) lv q (n + k + 1) (Sto.put M key val, u - Sto.costF M key) from ⟨hk7.heap HS6'.out.blk (fun e => hne e), hM7.mono (Nat.le_refl _) (fun j _ h => h.elim (fun h => h) (fun h => .inr (by omega))), HS6'.out.r1, HS6'.out.r2, hne⟩)
        have HB7 := Lib.hid (hk7.heap HB6'.out (fun e => by omega))
        have HK7 := Lib.hid (HK6'.out.trans (hk7.mono (S' := fun j => j = x ∨ j = bm) (fun j _ h => .inr h)) (fun _ _ h => h))
        have hz7 : B < w7.heap.size := by omega
        clear hM7 hk7 f0 f3
        go_wp2
        have KD : Keeps (fun _ => False) w7 w7.drew := (Keeps.refl _ w7).drew
        have HS8 := Lib.hid (HS7.out.kept0 KD)
        have HB8 := Lib.hid (KD.heap HB7.out (fun h => h))
        have HK8 := Lib.hid (HK7.out.trans KD (fun _ _ h => h.elim))
        refine Canon.region [7] [(⟨x, 2, none⟩, .int .i64 (u - Sto.costF M key))] [(3, 0)] (.hold [0, 1, 2, 4, 5, 6, 3] (.loud 7 (.seg [8, 9, 10, 11] .stop))) (by kernel_rfl) (by kernel_rfl) (by repeat (first | (with_reducible exact Safe.body) | (with_reducible apply Safe.then) | (with_reducible apply Safe.inBlock) | (dsimp +zetaDelta only))) ?_
        simp only [Canon.pick, Canon.wpPlan, List.getElem?_toArray, List.getElem?_cons_zero, List.getElem?_cons_succ]
        generalize w7.drew = wf at *
        have hcs2 := HS8.out.map.cost HKy.out hb3
        have HC2 := Lib.hid (cost_c HS8.out.c3 HS8.out.map key HKy.out hb3)
        rw [← HSk.out] at HC2
        have HLy := Lib.hid (fun (y : World) (h : y.cell? ⟨x, 2, none⟩ = some (Value.int .i64 (u - Sto.costF M key))) => (by
          intro p hp
          rw [List.mem_singleton] at hp
          subst hp
          exact h : Cells [(⟨x, 2, none⟩, Value.int .i64 (u - Sto.costF M key))] y))
        have e0 : wf.cell? ⟨B, 0, none⟩ = some (.string sk) := cell_of_row wf _ 0 _ _ _ HB8.out
        have e2 : wf.cell? ⟨x, 2, none⟩ = some (.int .i64 (u - Sto.costF M key)) := HS8.out.c2
        clear KD
        refine ⟨HLy.out _ HS8.out.c2, ?_⟩
        go_wp2_with (go_at_call 53; refine Rets.use HC2.out ?_; rintro _ _ ⟨rfl, rfl⟩)
        refine ⟨HLy.out _ HS8.out.c2, ?_⟩
        go_wp2_with ((with_reducible refine at_store 3 (.tmp 50) (.tmp 48) rfl ?_); go_must (refine step_store1 rfl _ _ _ rfl x 2 (.int .i64 (u - Sto.costF M key + Sto.costF (Sto.put M key val) key)) _ _ rfl rfl rfl HS8.out.blk (by simp [stoC]) info_int ?_); intro w9 hb9 hk9 hs9)
        refine ⟨by rfl, ⟨fun _ => rfl, trivial⟩, ?_⟩
        have HS9 := Lib.hid (HS8.out.setU hk9 hb9)
        have HK9 := Lib.hid (HK8.out.trans (hk9.mono (S' := fun j => j = x ∨ j = bm) (fun j _ h => .inl h)) (fun _ _ h => h))
        clear hb9 hk9 e0 e2
        go_wp2
        go_roundw
        case rel => exact ⟨k + 1, hlt, by go_num, HK9.out, by rw [HNX.out]; exact ⟨HS9.out.blk, HS9.out.map.mono (by omega) (fun _ _ h => h), HS9.out.r1, HS9.out.r2, hne⟩, by rw [HNX.out]; have := HU1.out; simp only [Sto.step, Sto.do1]; simp only [Bool.false_eq_true, if_false]; omega, by rw [HNX.out]; have := HU2.out; simp only [Sto.step, Sto.do1]; simp only [Bool.false_eq_true, if_false]; omega⟩
        case measure => simp [intOf]; omega
    · obtain rfl : k = l.length := by omega
      rw [List.take_length] at hSr
      have HSr := Lib.hid hSr
      have HKr := Lib.hid hkr
      rw [List.take_length] at hu1 hu2
      have HU1 := hu1
      have HU2 := hu2
      clear hkr hSr hu1 hu2
      go_wp2
      ((try simp only [Exit.inBlock, Exit.then]); refine bodyPost_ret (results_none rfl _ _ _) rfl ?_)
      exact ⟨⟨rfl, HKr.out, HSr.out⟩, HU1, HU2⟩
theorem do_c {w : World} {ok R : Nat → Prop} {x bm n : Nat} {lv : Value} {q : Int} {s : Sto.Mp × Int} (hS : SIs w x bm R lv q n s) (hR : ∀ j, R j → j < w.heap.size) (l : List Chg) (hB : ChgB l) (hl : l.length ≤ 1000000) (hn : n ≤ 1000000) (hu : -1000000000000000 ≤ s.2 ∧ s.2 ≤ 1000000000000000) (v : Value) (h : Chgs w ok v l) (hok : ∀ j, ok j → j < w.heap.size ∧ j ≠ x ∧ j ≠ bm) :
    Calls Try.prog 52 #[.pointer (some ⟨x, 0, none⟩), v] w (Rets (DoPost w x bm R lv q (n + l.length) (Sto.doF s l))) :=
  Rets.use (do_b hS hR l hB hl hn hu v h hok) fun v w' h => h.1
end Go.Proofs.Ytbiohidelhfaiaa
