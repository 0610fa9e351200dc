/-
  Changes in memory; Check.
-/
import Derived.Test.YtbiohidelhfaiaaStV
namespace Go.Proofs.Ytbiohidelhfaiaa
open Go.RowKit Go.Canon Go.Mem
open Go.Proofs.Ytbiohidelhfaiaa.Sto (Chg)
set_option linter.unusedVariables false
set_option linter.unusedSimpArgs false
def chgC (c : Chg) (v : Value) : List Value := [.string (str c.key), .bool c.del, v]
def chgZ : List Value := [.string ⟨#[]⟩, .bool false, .slice none 0 0]
theorem info_chg : (Try.prog.info? 41).map (·.size) = some 3 := by kernel_rfl
theorem info_chgC (c : Chg) (v : Value) : (Try.prog.info? 41).map (·.size) = some (chgC c v).length := info_chg
theorem row_chg : (Try.prog.info? 41).map (fun i => i.zero) = some (some (.agg #[.string ⟨#[]⟩, .bool false, .slice none 0 0])) := by kernel_rfl
def ChgCells (w : World) (ok : Nat → Prop) (b o : Nat) (c : Chg) : Prop := ∃ vV, w.cell? ⟨b, o, none⟩ = some (.string (str c.key)) ∧ w.cell? ⟨b, o + 1, none⟩ = some (.bool c.del) ∧ w.cell? ⟨b, o + 2, none⟩ = some vV ∧ Rd w ok vV c.val.length (Disk.bytes8 c.val)
/-- The changes lie there. -/
def Chgs (w : World) (ok : Nat → Prop) (v : Value) (l : List Chg) : Prop := ∃ A c, v = .slice A l.length c ∧ l.length ≤ c ∧ (A = none → c = 0) ∧ ∀ (i : Nat) (d : Chg), l[i]? = some d → ∃ b o, A = some ⟨b, o, none⟩ ∧ ok b ∧ ChgCells w ok b (o + i * 3) d
theorem Chgs.kept {w w' : World} {ok S : Nat → Prop} {v : Value} {l : List Chg} (h : Chgs w ok v l) (hk : Keeps S w w') (hn : ∀ k, ok k → ¬ S k) : Chgs w' ok v l := by
  obtain ⟨A, c, h1, h2, h3, h4⟩ := h
  refine ⟨A, c, h1, h2, h3, fun i d hi => ?_⟩
  obtain ⟨b, o, e, hb, vV, c0, c1, c2, hr⟩ := h4 i d hi
  exact ⟨b, o, e, hb, vV, hk.cell c0 (hn b hb), hk.cell c1 (hn b hb), hk.cell c2 (hn b hb), hr.kept hk hn⟩
theorem Chgs.mono {w : World} {ok ok' : Nat → Prop} {v : Value} {l : List Chg} (h : Chgs w ok v l) (ho : ∀ k, ok k → ok' k) : Chgs w ok' v l := by
  obtain ⟨A, c, h1, h2, h3, h4⟩ := h
  refine ⟨A, c, h1, h2, h3, fun i d hi => ?_⟩
  obtain ⟨b, o, e, hb, vV, c0, c1, c2, hr⟩ := h4 i d hi
  exact ⟨b, o, e, ho b hb, vV, c0, c1, c2, hr.mono ho⟩
/-- Changes whose texts are bytes, not too many. -/
def ChgB (l : List Chg) : Prop := ∀ c ∈ l, IsB c.key ∧ IsB c.val ∧ c.key.length ≤ 1000000 ∧ c.val.length ≤ 1000000
theorem take_any {l : List Chg} {k : Nat} {f : Chg → Bool} (h : k < l.length) : (l.take (k + 1)).any f = ((l.take k).any f || f l[k]) := by
  rw [List.take_add_one, List.getElem?_eq_getElem h, List.any_append]; simp
theorem chkGo_next {l : List Chg} {k : Nat} (h : k < l.length) : Sto.chkGo (l.take k) (l.drop k) = if Sto.chk1 (l.take k) l[k] ≠ 0 then Sto.chk1 (l.take k) l[k] else Sto.chkGo (l.take (k + 1)) (l.drop (k + 1)) := by
  rw [List.drop_eq_getElem_cons h, Sto.chkGo, List.take_add_one, List.getElem?_eq_getElem h]; rfl
set_option maxHeartbeats 6400000 in
set_option maxRecDepth 100000 in
theorem check_c {w : World} {ok : Nat → Prop} (l : List Chg) (hB : ChgB l) (hl : l.length ≤ 1000000) (v : Value) (h : Chgs w ok v l) (hok : ∀ k, ok k → k < w.heap.size) : Calls Try.prog 18 #[v] w (Rets (Still (.int .i64 (Sto.chk l)) w)) := by
  obtain ⟨A, c, rfl, hlc, _, _⟩ := id h
  have H := Lib.hid h
  have HB := Lib.hid hB
  clear h hB
  by_cases hbad : l.length = 0 ∨ 16 < l.length
  · have HZ := Lib.hid (show Sto.chk l = 2 by unfold Sto.chk; rw [if_pos hbad])
    rcases hbad with h0 | h0
    · have hq : ((l.length : Int) == 0) = true := by rw [h0]; rfl
      clear h0
      go_enter Try.func18, Try.ntmps18
      go_wp2
      go_ret
      exact ⟨by rw [HZ.out] <;> rfl, Keeps.refl _ _⟩
    · have hq : ((l.length : Int) == 0) = false := by rw [beq_eq_false_iff_ne]; omega
      go_enter Try.func18, Try.ntmps18
      go_wp2
      go_ret
      exact ⟨by rw [HZ.out] <;> rfl, Keeps.refl _ _⟩
  · have HZ := Lib.hid (show Sto.chk l = Sto.chkGo [] l by unfold Sto.chk; rw [if_neg hbad])
    have hl1 : 0 < l.length := by omega
    have hl2 : l.length ≤ 16 := by omega
    have hq : ((l.length : Int) == 0) = false := by rw [beq_eq_false_iff_ne]; omega
    clear hbad
    go_enter Try.func18, Try.ntmps18
    go_wp2
    go_loopw [17] (fun i wr => ∃ k : Nat, k ≤ l.length ∧ i = .int .i64 k ∧ Keeps (fun _ => False) w wr ∧ Hid (Sto.chk l = Sto.chkGo (l.take k) (l.drop k))) (fun i _ => l.length - (intOf i).toNat)
    case atStart => exact ⟨0, Nat.zero_le _, rfl, Keeps.refl _ _, Lib.hid HZ.out⟩
    case round =>
      obtain ⟨k, hk, rfl, hkr, HF⟩ := hrel
      have HKr := Lib.hid hkr
      by_cases hlt : k < l.length
      · obtain ⟨A', c', e, _, _, hin⟩ := H.out
        cases e
        obtain ⟨b, o, e, hb, vV, c0, c1, c2, hrV⟩ := hin k _ (List.getElem?_eq_getElem hlt)
        cases e
        obtain ⟨Av, cv, rfl, _⟩ := hrV.slice
        obtain ⟨hb1, hb2, hb3, hb4⟩ := HB.out _ (List.getElem_mem hlt)
        have HF2 := Lib.hid (HF.out.trans (chkGo_next hlt))
        have c0 := hkr.cell c0 (fun h => h)
        have c1 := hkr.cell c1 (fun h => h)
        have c2 := hkr.cell c2 (fun h => h)
        have hbw := hok b hb
        generalize l[k] = d at *
        obtain ⟨key, del, val⟩ := d
        simp only at c0 c1 c2 hb1 hb2 hb3 hb4
        have zk := str_size key
        have HNm := Lib.hid (fun w => named_c key hb1 hb3 w)
        have HKy := Lib.hid hb1
        obtain ⟨sk, hsk⟩ : ∃ s, s = str key := ⟨_, rfl⟩
        have HSk := Lib.hid hsk
        rw [← hsk] at c0 zk HNm
        clear hin hrV HF hsk hkr hb1 hb2
        by_cases hkf : Sto.keyF key = true
        · rw [hkf] at HNm
          by_cases hvb : 4096 < val.length
          · have HG := Lib.hid (show Sto.chk l = 5 by
              have h1 : Sto.chk1 (l.take k) ⟨key, del, val⟩ = 5 := by unfold Sto.chk1; rw [if_neg (by rw [hkf]; simp), if_pos hvb]
              rw [HF2.out, h1]; rfl)
            go_wp2_with (first
              | ((with_reducible refine at_ 4 rfl ?_); go_must (refine step_alloc rfl _ rfl _ chgZ row_chg rfl ?_); intro w3 hb3 hk3 hs3)
              | ((with_reducible refine at_store 41 (.tmp 4) (.tmp 21) rfl ?_); go_must (refine step_store rfl _ _ _ rfl wr.heap.size 0 [.string sk, .bool del, .slice Av val.length cv] _ _ rfl rfl hb3 (by simp [chgZ]) info_chg (by simp [Value.oneCell']) ?_); intro w4 hb4 hk4 hs4; rw [put_whole (by rfl)] at hb4; have d0 : w4.cell? ⟨wr.heap.size, 0, none⟩ = some (.string sk) := cell_of_row w4 _ _ _ _ _ hb4; have d1 : w4.cell? ⟨wr.heap.size, 1, none⟩ = some (.bool del) := cell_of_row w4 _ _ _ _ _ hb4; have d2 : w4.cell? ⟨wr.heap.size, 2, none⟩ = some (.slice Av val.length cv) := cell_of_row w4 _ _ _ _ _ hb4; have HK4 := Lib.hid (HKr.out.trans (((Keeps.refl (fun _ => False) wr).trans hk3 (fun _ _ h => h) |>.mono (S' := fun j => wr.heap.size ≤ j) (fun _ _ h => h.elim)).trans hk4 (fun j _ h => by omega) |>.mono (S' := fun _ => False) (fun j hj h => by omega)) (fun _ _ h => h)))
              | (go_at_call 48; refine Rets.use (HNm.out _) ?_; rintro _ _ ⟨rfl, rfl⟩))
            go_ret
            exact ⟨by rw [HG.out] <;> rfl, HK4.out⟩
          · cases del with
            | true =>
              by_cases hv0 : 0 < val.length
              · have HG := Lib.hid (show Sto.chk l = 2 by
                  have h1 : Sto.chk1 (l.take k) ⟨key, true, val⟩ = 2 := by unfold Sto.chk1; rw [if_neg (by rw [hkf]; simp), if_neg hvb, if_pos ⟨rfl, hv0⟩]
                  rw [HF2.out, h1]; rfl)
                go_wp2_with (first
                  | ((with_reducible refine at_ 4 rfl ?_); go_must (refine step_alloc rfl _ rfl _ chgZ row_chg rfl ?_); intro w3 hb3 hk3 hs3)
                  | ((with_reducible refine at_store 41 (.tmp 4) (.tmp 21) rfl ?_); go_must (refine step_store rfl _ _ _ rfl wr.heap.size 0 [.string sk, .bool true, .slice Av val.length cv] _ _ rfl rfl hb3 (by simp [chgZ]) info_chg (by simp [Value.oneCell']) ?_); intro w4 hb4 hk4 hs4; rw [put_whole (by rfl)] at hb4; have d0 : w4.cell? ⟨wr.heap.size, 0, none⟩ = some (.string sk) := cell_of_row w4 _ _ _ _ _ hb4; have d1 : w4.cell? ⟨wr.heap.size, 1, none⟩ = some (.bool true) := cell_of_row w4 _ _ _ _ _ hb4; have d2 : w4.cell? ⟨wr.heap.size, 2, none⟩ = some (.slice Av val.length cv) := cell_of_row w4 _ _ _ _ _ hb4; have HK4 := Lib.hid (HKr.out.trans (((Keeps.refl (fun _ => False) wr).trans hk3 (fun _ _ h => h) |>.mono (S' := fun j => wr.heap.size ≤ j) (fun _ _ h => h.elim)).trans hk4 (fun j _ h => by omega) |>.mono (S' := fun _ => False) (fun j hj h => by omega)) (fun _ _ h => h)))
                  | (go_at_call 48; refine Rets.use (HNm.out _) ?_; rintro _ _ ⟨rfl, rfl⟩))
                go_ret
                exact ⟨by rw [HG.out] <;> rfl, HK4.out⟩
              · have HF3 := Lib.hid (show Sto.chk l = if ((l.take k).any fun a => decide (a.key = key)) = true then 10 else Sto.chkGo (l.take (k + 1)) (l.drop (k + 1)) by
                  have h1 : Sto.chk1 (l.take k) ⟨key, true, val⟩ = if ((l.take k).any fun a => decide (a.key = key)) = true then 10 else 0 := by unfold Sto.chk1; rw [if_neg (by rw [hkf]; simp), if_neg hvb, if_neg (fun h => hv0 h.2)]
                  rw [HF2.out, h1]
                  split <;> simp_all)
                go_wp2_with (first
                  | ((with_reducible refine at_ 4 rfl ?_); go_must (refine step_alloc rfl _ rfl _ chgZ row_chg rfl ?_); intro w3 hb3 hk3 hs3)
                  | ((with_reducible refine at_store 41 (.tmp 4) (.tmp 21) rfl ?_); go_must (refine step_store rfl _ _ _ rfl wr.heap.size 0 [.string sk, .bool true, .slice Av val.length cv] _ _ rfl rfl hb3 (by simp [chgZ]) info_chg (by simp [Value.oneCell']) ?_); intro w4 hb4 hk4 hs4; rw [put_whole (by rfl)] at hb4; have d0 : w4.cell? ⟨wr.heap.size, 0, none⟩ = some (.string sk) := cell_of_row w4 _ _ _ _ _ hb4; have d1 : w4.cell? ⟨wr.heap.size, 1, none⟩ = some (.bool true) := cell_of_row w4 _ _ _ _ _ hb4; have d2 : w4.cell? ⟨wr.heap.size, 2, none⟩ = some (.slice Av val.length cv) := cell_of_row w4 _ _ _ _ _ hb4; have HK4 := Lib.hid (HKr.out.trans (((Keeps.refl (fun _ => False) wr).trans hk3 (fun _ _ h => h) |>.mono (S' := fun j => wr.heap.size ≤ j) (fun _ _ h => h.elim)).trans hk4 (fun j _ h => by omega) |>.mono (S' := fun _ => False) (fun j hj h => by omega)) (fun _ _ h => h)))
                  | (go_at_call 48; refine Rets.use (HNm.out _) ?_; rintro _ _ ⟨rfl, rfl⟩))
                go_loopw [45] (fun i wr => ∃ j : Nat, j ≤ k ∧ i = .int .i64 j ∧ Keeps (fun _ => False) w4 wr ∧ Hid (((l.take j).any fun a => decide (a.key = key)) = false)) (fun i _ => k - (intOf i).toNat)
                case atStart => exact ⟨0, Nat.zero_le _, rfl, Keeps.refl _ _, Lib.hid rfl⟩
                case round =>
                  obtain ⟨j, hj, rfl, hkj, HM⟩ := hrel
                  have HKj := Lib.hid (HK4.out.trans hkj (fun _ _ h => h))
                  have HKj4 := Lib.hid hkj
                  by_cases hjk : j < k
                  · have hjl : j < l.length := by omega
                    obtain ⟨A', c', e, _, _, hin⟩ := H.out
                    cases e
                    obtain ⟨b2, o2, e, _, vV2, e0, e1, e2, hr2⟩ := hin j _ (List.getElem?_eq_getElem hjl)
                    cases e
                    obtain ⟨Av2, cv2, rfl, _⟩ := hr2.slice
                    have hB2 := (HB.out _ (List.getElem_mem hjl)).1
                    have HMn := Lib.hid (take_any (f := fun a => decide (a.key = key)) hjl)
                    have HMk := Lib.hid (fun h : l[j].key = key => (List.any_eq_true.2 ⟨l[j], by rw [List.mem_iff_getElem]; exact ⟨j, by rw [List.length_take]; omega, by rw [List.getElem_take]⟩, decide_eq_true h⟩ : ((l.take k).any fun a => decide (a.key = key)) = true))
                    have e0 := HKj.out.cell e0 (fun h => h)
                    have e1 := HKj.out.cell e1 (fun h => h)
                    have e2 := HKj.out.cell e2 (fun h => h)
                    have d0 := hkj.cell d0 (fun h => h)
                    have he := str_eq hB2 HKy.out
                    rw [← HSk.out] at he
                    generalize l[j] = g at *
                    obtain ⟨key2, del2, val2⟩ := g
                    simp only at e0 e1 e2 he HMn HMk
                    generalize str key2 = sk2 at *
                    clear hin hr2 hB2 hkj
                    by_cases hkk : key2 = key
                    · have HG := Lib.hid (show Sto.chk l = 10 by rw [HF3.out, if_pos (HMk.out hkk)])
                      rw [decide_eq_true hkk] at he
                      clear hkk
                      go_wp2_with (first
                        | ((with_reducible refine at_ 6 rfl ?_); go_must (refine step_alloc rfl _ rfl _ chgZ row_chg rfl ?_); intro w5 hb5 hk5 hs5)
                        | ((with_reducible refine at_store 41 (.tmp 6) (.tmp 48) rfl ?_); go_must (refine step_store rfl _ _ _ rfl wr.heap.size 0 [.string sk2, .bool del2, .slice Av2 val2.length cv2] _ _ rfl rfl hb5 (by simp [chgZ]) info_chg (by simp [Value.oneCell']) ?_); intro w6 hb6 hk6 hs6; rw [put_whole (by rfl)] at hb6; have f0 : w6.cell? ⟨wr.heap.size, 0, none⟩ = some (.string sk2) := cell_of_row w6 _ _ _ _ _ hb6; have KS := (((Keeps.refl (fun _ => False) wr).trans hk5 (fun _ _ h => h) |>.mono (S' := fun j => wr.heap.size ≤ j) (fun _ _ h => h.elim)).trans hk6 (fun j _ h => by omega) |>.mono (S' := fun _ => False) (fun j hj h => by omega)); have g0 := KS.cell d0 (fun h => h); have HK6 := Lib.hid (HKj.out.trans KS (fun _ _ h => h)); have HK46 := Lib.hid (HKj4.out.trans KS (fun _ _ h => h))))
                      go_ret
                      exact ⟨by rw [HG.out] <;> rfl, HK6.out⟩
                    · have HM2 := Lib.hid (show ((l.take (j + 1)).any fun a => decide (a.key = key)) = false by rw [HMn.out, HM.out, decide_eq_false hkk]; rfl)
                      rw [decide_eq_false hkk] at he
                      clear hkk
                      go_wp2_with (first
                        | ((with_reducible refine at_ 6 rfl ?_); go_must (refine step_alloc rfl _ rfl _ chgZ row_chg rfl ?_); intro w5 hb5 hk5 hs5)
                        | ((with_reducible refine at_store 41 (.tmp 6) (.tmp 48) rfl ?_); go_must (refine step_store rfl _ _ _ rfl wr.heap.size 0 [.string sk2, .bool del2, .slice Av2 val2.length cv2] _ _ rfl rfl hb5 (by simp [chgZ]) info_chg (by simp [Value.oneCell']) ?_); intro w6 hb6 hk6 hs6; rw [put_whole (by rfl)] at hb6; have f0 : w6.cell? ⟨wr.heap.size, 0, none⟩ = some (.string sk2) := cell_of_row w6 _ _ _ _ _ hb6; have KS := (((Keeps.refl (fun _ => False) wr).trans hk5 (fun _ _ h => h) |>.mono (S' := fun j => wr.heap.size ≤ j) (fun _ _ h => h.elim)).trans hk6 (fun j _ h => by omega) |>.mono (S' := fun _ => False) (fun j hj h => by omega)); have g0 := KS.cell d0 (fun h => h); have HK6 := Lib.hid (HKj.out.trans KS (fun _ _ h => h)); have HK46 := Lib.hid (HKj4.out.trans KS (fun _ _ h => h))))
                      go_roundw
                      case rel => exact ⟨j + 1, by omega, by go_num, HK46.out, HM2⟩
                      case measure => simp [intOf]; omega
                  · obtain rfl : j = k := by omega
                    have HF4 := Lib.hid (show Sto.chk l = Sto.chkGo (l.take (j + 1)) (l.drop (j + 1)) by rw [HF3.out, if_neg (by rw [HM.out]; simp)])
                    clear hkj
                    go_wp2
                    go_roundw
                    case rel => exact ⟨j + 1, by omega, by go_num, HKj.out, HF4⟩
                    case measure => simp [intOf]; omega
            | false =>
              have HF3 := Lib.hid (show Sto.chk l = if ((l.take k).any fun a => decide (a.key = key)) = true then 10 else Sto.chkGo (l.take (k + 1)) (l.drop (k + 1)) by
                have h1 : Sto.chk1 (l.take k) ⟨key, false, val⟩ = if ((l.take k).any fun a => decide (a.key = key)) = true then 10 else 0 := by unfold Sto.chk1; rw [if_neg (by rw [hkf]; simp), if_neg hvb, if_neg (fun h => by cases h.1)]
                rw [HF2.out, h1]
                split <;> simp_all)
              go_wp2_with (first
                | ((with_reducible refine at_ 4 rfl ?_); go_must (refine step_alloc rfl _ rfl _ chgZ row_chg rfl ?_); intro w3 hb3 hk3 hs3)
                | ((with_reducible refine at_store 41 (.tmp 4) (.tmp 21) rfl ?_); go_must (refine step_store rfl _ _ _ rfl wr.heap.size 0 [.string sk, .bool false, .slice Av val.length cv] _ _ rfl rfl hb3 (by simp [chgZ]) info_chg (by simp [Value.oneCell']) ?_); intro w4 hb4 hk4 hs4; rw [put_whole (by rfl)] at hb4; have d0 : w4.cell? ⟨wr.heap.size, 0, none⟩ = some (.string sk) := cell_of_row w4 _ _ _ _ _ hb4; have d1 : w4.cell? ⟨wr.heap.size, 1, none⟩ = some (.bool false) := cell_of_row w4 _ _ _ _ _ hb4; have d2 : w4.cell? ⟨wr.heap.size, 2, none⟩ = some (.slice Av val.length cv) := cell_of_row w4 _ _ _ _ _ hb4; have HK4 := Lib.hid (HKr.out.trans (((Keeps.refl (fun _ => False) wr).trans hk3 (fun _ _ h => h) |>.mono (S' := fun j => wr.heap.size ≤ j) (fun _ _ h => h.elim)).trans hk4 (fun j _ h => by omega) |>.mono (S' := fun _ => False) (fun j hj h => by omega)) (fun _ _ h => h)))
                | (go_at_call 48; refine Rets.use (HNm.out _) ?_; rintro _ _ ⟨rfl, rfl⟩))
              go_loopw [45] (fun i wr => ∃ j : Nat, j ≤ k ∧ i = .int .i64 j ∧ Keeps (fun _ => False) w4 wr ∧ Hid (((l.take j).any fun a => decide (a.key = key)) = false)) (fun i _ => k - (intOf i).toNat)
              case atStart => exact ⟨0, Nat.zero_le _, rfl, Keeps.refl _ _, Lib.hid rfl⟩
              case round =>
                obtain ⟨j, hj, rfl, hkj, HM⟩ := hrel
                have HKj := Lib.hid (HK4.out.trans hkj (fun _ _ h => h))
                have HKj4 := Lib.hid hkj
                by_cases hjk : j < k
                · have hjl : j < l.length := by omega
                  obtain ⟨A', c', e, _, _, hin⟩ := H.out
                  cases e
                  obtain ⟨b2, o2, e, _, vV2, e0, e1, e2, hr2⟩ := hin j _ (List.getElem?_eq_getElem hjl)
                  cases e
                  obtain ⟨Av2, cv2, rfl, _⟩ := hr2.slice
                  have hB2 := (HB.out _ (List.getElem_mem hjl)).1
                  have HMn := Lib.hid (take_any (f := fun a => decide (a.key = key)) hjl)
                  have HMk := Lib.hid (fun h : l[j].key = key => (List.any_eq_true.2 ⟨l[j], by rw [List.mem_iff_getElem]; exact ⟨j, by rw [List.length_take]; omega, by rw [List.getElem_take]⟩, decide_eq_true h⟩ : ((l.take k).any fun a => decide (a.key = key)) = true))
                  have e0 := HKj.out.cell e0 (fun h => h)
                  have e1 := HKj.out.cell e1 (fun h => h)
                  have e2 := HKj.out.cell e2 (fun h => h)
                  have d0 := hkj.cell d0 (fun h => h)
                  have he := str_eq hB2 HKy.out
                  rw [← HSk.out] at he
                  generalize l[j] = g at *
                  obtain ⟨key2, del2, val2⟩ := g
                  simp only at e0 e1 e2 he HMn HMk
                  generalize str key2 = sk2 at *
                  clear hin hr2 hB2 hkj
                  by_cases hkk : key2 = key
                  · have HG := Lib.hid (show Sto.chk l = 10 by rw [HF3.out, if_pos (HMk.out hkk)])
                    rw [decide_eq_true hkk] at he
                    clear hkk
                    go_wp2_with (first
                      | ((with_reducible refine at_ 6 rfl ?_); go_must (refine step_alloc rfl _ rfl _ chgZ row_chg rfl ?_); intro w5 hb5 hk5 hs5)
                      | ((with_reducible refine at_store 41 (.tmp 6) (.tmp 48) rfl ?_); go_must (refine step_store rfl _ _ _ rfl wr.heap.size 0 [.string sk2, .bool del2, .slice Av2 val2.length cv2] _ _ rfl rfl hb5 (by simp [chgZ]) info_chg (by simp [Value.oneCell']) ?_); intro w6 hb6 hk6 hs6; rw [put_whole (by rfl)] at hb6; have f0 : w6.cell? ⟨wr.heap.size, 0, none⟩ = some (.string sk2) := cell_of_row w6 _ _ _ _ _ hb6; have KS := (((Keeps.refl (fun _ => False) wr).trans hk5 (fun _ _ h => h) |>.mono (S' := fun j => wr.heap.size ≤ j) (fun _ _ h => h.elim)).trans hk6 (fun j _ h => by omega) |>.mono (S' := fun _ => False) (fun j hj h => by omega)); have g0 := KS.cell d0 (fun h => h); have HK6 := Lib.hid (HKj.out.trans KS (fun _ _ h => h)); have HK46 := Lib.hid (HKj4.out.trans KS (fun _ _ h => h))))
                    go_ret
                    exact ⟨by rw [HG.out] <;> rfl, HK6.out⟩
                  · have HM2 := Lib.hid (show ((l.take (j + 1)).any fun a => decide (a.key = key)) = false by rw [HMn.out, HM.out, decide_eq_false hkk]; rfl)
                    rw [decide_eq_false hkk] at he
                    clear hkk
                    go_wp2_with (first
                      | ((with_reducible refine at_ 6 rfl ?_); go_must (refine step_alloc rfl _ rfl _ chgZ row_chg rfl ?_); intro w5 hb5 hk5 hs5)
                      | ((with_reducible refine at_store 41 (.tmp 6) (.tmp 48) rfl ?_); go_must (refine step_store rfl _ _ _ rfl wr.heap.size 0 [.string sk2, .bool del2, .slice Av2 val2.length cv2] _ _ rfl rfl hb5 (by simp [chgZ]) info_chg (by simp [Value.oneCell']) ?_); intro w6 hb6 hk6 hs6; rw [put_whole (by rfl)] at hb6; have f0 : w6.cell? ⟨wr.heap.size, 0, none⟩ = some (.string sk2) := cell_of_row w6 _ _ _ _ _ hb6; have KS := (((Keeps.refl (fun _ => False) wr).trans hk5 (fun _ _ h => h) |>.mono (S' := fun j => wr.heap.size ≤ j) (fun _ _ h => h.elim)).trans hk6 (fun j _ h => by omega) |>.mono (S' := fun _ => False) (fun j hj h => by omega)); have g0 := KS.cell d0 (fun h => h); have HK6 := Lib.hid (HKj.out.trans KS (fun _ _ h => h)); have HK46 := Lib.hid (HKj4.out.trans KS (fun _ _ h => h))))
                    go_roundw
                    case rel => exact ⟨j + 1, by omega, by go_num, HK46.out, HM2⟩
                    case measure => simp [intOf]; omega
                · obtain rfl : j = k := by omega
                  have HF4 := Lib.hid (show Sto.chk l = Sto.chkGo (l.take (j + 1)) (l.drop (j + 1)) by rw [HF3.out, if_neg (by rw [HM.out]; simp)])
                  clear hkj
                  go_wp2
                  go_roundw
                  case rel => exact ⟨j + 1, by omega, by go_num, HKj.out, HF4⟩
                  case measure => simp [intOf]; omega
        · have hkf : Sto.keyF key = false := by simpa using hkf
          rw [hkf] at HNm
          have HG := Lib.hid (show Sto.chk l = 2 by
            have h1 : Sto.chk1 (l.take k) ⟨key, del, val⟩ = 2 := by unfold Sto.chk1; rw [if_pos hkf]
            rw [HF2.out, h1]; rfl)
          go_wp2_with (first
            | ((with_reducible refine at_ 4 rfl ?_); go_must (refine step_alloc rfl _ rfl _ chgZ row_chg rfl ?_); intro w3 hb3 hk3 hs3)
            | ((with_reducible refine at_store 41 (.tmp 4) (.tmp 21) rfl ?_); go_must (refine step_store rfl _ _ _ rfl wr.heap.size 0 [.string sk, .bool del, .slice Av val.length cv] _ _ rfl rfl hb3 (by simp [chgZ]) info_chg (by simp [Value.oneCell']) ?_); intro w4 hb4 hk4 hs4; rw [put_whole (by rfl)] at hb4; have d0 : w4.cell? ⟨wr.heap.size, 0, none⟩ = some (.string sk) := cell_of_row w4 _ _ _ _ _ hb4; have d1 : w4.cell? ⟨wr.heap.size, 1, none⟩ = some (.bool del) := cell_of_row w4 _ _ _ _ _ hb4; have d2 : w4.cell? ⟨wr.heap.size, 2, none⟩ = some (.slice Av val.length cv) := cell_of_row w4 _ _ _ _ _ hb4; have HK4 := Lib.hid (HKr.out.trans (((Keeps.refl (fun _ => False) wr).trans hk3 (fun _ _ h => h) |>.mono (S' := fun j => wr.heap.size ≤ j) (fun _ _ h => h.elim)).trans hk4 (fun j _ h => by omega) |>.mono (S' := fun _ => False) (fun j hj h => by omega)) (fun _ _ h => h)))
            | (go_at_call 48; refine Rets.use (HNm.out _) ?_; rintro _ _ ⟨rfl, rfl⟩))
          go_ret
          exact ⟨by rw [HG.out] <;> rfl, HK4.out⟩
      · obtain rfl : k = l.length := by omega
        have HG := Lib.hid (show Sto.chk l = 0 by rw [HF.out, List.drop_length]; rfl)
        clear hkr
        go_wp2
        go_ret
        exact ⟨by rw [HG.out] <;> rfl, HKr.out⟩
end Go.Proofs.Ytbiohidelhfaiaa
