/-
  Several texts in one:
  Changes in memory; Check.
  The walk of Encode.
  A store's map in memory; cost.
  store.do.
  bytes.Clone.
  store.do: the walk.
  The walks of package disk: each method does what the plain disk does.
  The walk of Write where it writes (or the power goes off with it).
  The walk of Sync.
  The walk of Crash; of New; of what no call made.
-/
import Derived.Maps.OwnSet
import Derived.Maps.Views
import Derived.StringKeys
import Derived.Test.YtbiohidelhfaiaaChecked
import Derived.WalkKit
import Derived.WalkSpells
import Derived.WalkLawsBesides
import Derived.Lib.Hide
import Derived.Test.YtbiohidelhfaiaaStoreWholeP0
import Derived.Test.YtbiohidelhfaiaaStoreWholeP1
section
namespace Go.Proofs.Ytbiohidelhfaiaa
open Go.RowKit Go.Canon Go.Mem
open Go.Proofs.Ytbiohidelhfaiaa.Sto (Chg)
set_option linter.unusedVariables false
set_option linter.unusedSimpArgs false
def chgC (c : Chg) (v : Value) : List Value := [.string (str c.key), .bool c.del, v]
def chgZ : List Value := [.string ⟨#[]⟩, .bool false, .slice none 0 0]
theorem info_chg : (Try.prog.info? 41).map (·.size) = some 3 := by kernel_rfl
theorem info_chgC (c : Chg) (v : Value) : (Try.prog.info? 41).map (·.size) = some (chgC c v).length := info_chg
theorem row_chg : (Try.prog.info? 41).map (fun i => i.zero) = some (some (.agg #[.string ⟨#[]⟩, .bool false, .slice none 0 0])) := by kernel_rfl
def ChgCells (w : World) (ok : Nat → Prop) (b o : Nat) (c : Chg) : Prop := ∃ vV, w.cell? ⟨b, o, none⟩ = some (.string (str c.key)) ∧ w.cell? ⟨b, o + 1, none⟩ = some (.bool c.del) ∧ w.cell? ⟨b, o + 2, none⟩ = some vV ∧ Rd w ok vV c.val.length (Disk.bytes8 c.val)
/-- The changes lie there. -/
def Chgs (w : World) (ok : Nat → Prop) (v : Value) (l : List Chg) : Prop := ∃ A c, v = .slice A l.length c ∧ l.length ≤ c ∧ (A = none → c = 0) ∧ ∀ (i : Nat) (d : Chg), l[i]? = some d → ∃ b o, A = some ⟨b, o, none⟩ ∧ ok b ∧ ChgCells w ok b (o + i * 3) d
theorem Chgs.kept {w w' : World} {ok S : Nat → Prop} {v : Value} {l : List Chg} (h : Chgs w ok v l) (hk : Keeps S w w') (hn : ∀ k, ok k → ¬ S k) : Chgs w' ok v l := by
  obtain ⟨A, c, h1, h2, h3, h4⟩ := h
  refine ⟨A, c, h1, h2, h3, fun i d hi => ?_⟩
  obtain ⟨b, o, e, hb, vV, c0, c1, c2, hr⟩ := h4 i d hi
  exact ⟨b, o, e, hb, vV, hk.cell c0 (hn b hb), hk.cell c1 (hn b hb), hk.cell c2 (hn b hb), hr.kept hk hn⟩
theorem Chgs.mono {w : World} {ok ok' : Nat → Prop} {v : Value} {l : List Chg} (h : Chgs w ok v l) (ho : ∀ k, ok k → ok' k) : Chgs w ok' v l := by
  obtain ⟨A, c, h1, h2, h3, h4⟩ := h
  refine ⟨A, c, h1, h2, h3, fun i d hi => ?_⟩
  obtain ⟨b, o, e, hb, vV, c0, c1, c2, hr⟩ := h4 i d hi
  exact ⟨b, o, e, ho b hb, vV, c0, c1, c2, hr.mono ho⟩
/-- Changes whose texts are bytes, not too many. -/
def ChgB (l : List Chg) : Prop := ∀ c ∈ l, IsB c.key ∧ IsB c.val ∧ c.key.length ≤ 1000000 ∧ c.val.length ≤ 1000000
theorem take_any {l : List Chg} {k : Nat} {f : Chg → Bool} (h : k < l.length) : (l.take (k + 1)).any f = ((l.take k).any f || f l[k]) := by
  rw [List.take_add_one, List.getElem?_eq_getElem h, List.any_append]; simp
theorem chkGo_next {l : List Chg} {k : Nat} (h : k < l.length) : Sto.chkGo (l.take k) (l.drop k) = if Sto.chk1 (l.take k) l[k] ≠ 0 then Sto.chk1 (l.take k) l[k] else Sto.chkGo (l.take (k + 1)) (l.drop (k + 1)) := by
  rw [List.drop_eq_getElem_cons h, Sto.chkGo, List.take_add_one, List.getElem?_eq_getElem h]; rfl
set_option maxHeartbeats 6400000 in
set_option maxRecDepth 100000 in
theorem check_c {w : World} {ok : Nat → Prop} (l : List Chg) (hB : ChgB l) (hl : l.length ≤ 1000000) (v : Value) (h : Chgs w ok v l) (hok : ∀ k, ok k → k < w.heap.size) : Calls Try.prog 18 #[v] w (Rets (Still (.int .i64 (Sto.chk l)) w)) := by
  obtain ⟨A, c, rfl, hlc, _, _⟩ := id h
  have H := Lib.hid h
  have HB := Lib.hid hB
  clear h hB
  by_cases hbad : l.length = 0 ∨ 16 < l.length
  · have HZ := Lib.hid (show Sto.chk l = 2 by unfold Sto.chk; rw [if_pos hbad])
    rcases hbad with h0 | h0
    · have hq : ((l.length : Int) == 0) = true := by rw [h0]; rfl
      clear h0
      go_enter Try.func18, Try.ntmps18
      go_wp2
      go_ret
      exact ⟨by rw [HZ.out] <;> rfl, Keeps.refl _ _⟩
    · have hq : ((l.length : Int) == 0) = false := by rw [beq_eq_false_iff_ne]; omega
      go_enter Try.func18, Try.ntmps18
      go_wp2
      go_ret
      exact ⟨by rw [HZ.out] <;> rfl, Keeps.refl _ _⟩
  · have HZ := Lib.hid (show Sto.chk l = Sto.chkGo [] l by unfold Sto.chk; rw [if_neg hbad])
    have hl1 : 0 < l.length := by omega
    have hl2 : l.length ≤ 16 := by omega
    have hq : ((l.length : Int) == 0) = false := by rw [beq_eq_false_iff_ne]; omega
    clear hbad
    go_enter Try.func18, Try.ntmps18
    go_wp2
    go_loopw [17] (fun i wr => ∃ k : Nat, k ≤ l.length ∧ i = .int .i64 k ∧ Keeps (fun _ => False) w wr ∧ Hid (Sto.chk l = Sto.chkGo (l.take k) (l.drop k))) (fun i _ => l.length - (intOf i).toNat)
    case atStart => exact ⟨0, Nat.zero_le _, rfl, Keeps.refl _ _, Lib.hid HZ.out⟩
    case round =>
      obtain ⟨k, hk, rfl, hkr, HF⟩ := hrel
      have HKr := Lib.hid hkr
      by_cases hlt : k < l.length
      · obtain ⟨A', c', e, _, _, hin⟩ := H.out
        cases e
        obtain ⟨b, o, e, hb, vV, c0, c1, c2, hrV⟩ := hin k _ (List.getElem?_eq_getElem hlt)
        cases e
        obtain ⟨Av, cv, rfl, _⟩ := hrV.slice
        obtain ⟨hb1, hb2, hb3, hb4⟩ := HB.out _ (List.getElem_mem hlt)
        have HF2 := Lib.hid (HF.out.trans (chkGo_next hlt))
        have c0 := hkr.cell c0 (fun h => h)
        have c1 := hkr.cell c1 (fun h => h)
        have c2 := hkr.cell c2 (fun h => h)
        have hbw := hok b hb
        generalize l[k] = d at *
        obtain ⟨key, del, val⟩ := d
        simp only at c0 c1 c2 hb1 hb2 hb3 hb4
        have zk := str_size key
        have HNm := Lib.hid (fun w => named_c key hb1 hb3 w)
        have HKy := Lib.hid hb1
        obtain ⟨sk, hsk⟩ : ∃ s, s = str key := ⟨_, rfl⟩
        have HSk := Lib.hid hsk
        rw [← hsk] at c0 zk HNm
        clear hin hrV HF hsk hkr hb1 hb2
        by_cases hkf : Sto.keyF key = true
        · rw [hkf] at HNm
          by_cases hvb : 4096 < val.length
          · have HG := Lib.hid (show Sto.chk l = 5 by
              have h1 : Sto.chk1 (l.take k) ⟨key, del, val⟩ = 5 := by unfold Sto.chk1; rw [if_neg (by rw [hkf]; simp), if_pos hvb]
              rw [HF2.out, h1]; rfl)
            go_wp2_with (first
              | ((with_reducible refine at_ 4 rfl ?_); go_must (refine step_alloc rfl _ rfl _ chgZ row_chg rfl ?_); intro w3 hb3 hk3 hs3)
              | ((with_reducible refine at_store 41 (.tmp 4) (.tmp 21) rfl ?_); go_must (refine step_store rfl _ _ _ rfl wr.heap.size 0 [.string sk, .bool del, .slice Av val.length cv] _ _ rfl rfl hb3 (by simp [chgZ]) info_chg (by simp [Value.oneCell']) ?_); intro w4 hb4 hk4 hs4; rw [put_whole (by rfl)] at hb4; have d0 : w4.cell? ⟨wr.heap.size, 0, none⟩ = some (.string sk) := cell_of_row w4 _ _ _ _ _ hb4; have d1 : w4.cell? ⟨wr.heap.size, 1, none⟩ = some (.bool del) := cell_of_row w4 _ _ _ _ _ hb4; have d2 : w4.cell? ⟨wr.heap.size, 2, none⟩ = some (.slice Av val.length cv) := cell_of_row w4 _ _ _ _ _ hb4; have HK4 := Lib.hid (HKr.out.trans (((Keeps.refl (fun _ => False) wr).trans hk3 (fun _ _ h => h) |>.mono (S' := fun j => wr.heap.size ≤ j) (fun _ _ h => h.elim)).trans hk4 (fun j _ h => by omega) |>.mono (S' := fun _ => False) (fun j hj h => by omega)) (fun _ _ h => h)))
              | (go_at_call 48; refine Rets.use (HNm.out _) ?_; rintro _ _ ⟨rfl, rfl⟩))
            go_ret
            exact ⟨by rw [HG.out] <;> rfl, HK4.out⟩
          · cases del with
            | true =>
              by_cases hv0 : 0 < val.length
              · have HG := Lib.hid (show Sto.chk l = 2 by
                  have h1 : Sto.chk1 (l.take k) ⟨key, true, val⟩ = 2 := by unfold Sto.chk1; rw [if_neg (by rw [hkf]; simp), if_neg hvb, if_pos ⟨rfl, hv0⟩]
                  rw [HF2.out, h1]; rfl)
                go_wp2_with (first
                  | ((with_reducible refine at_ 4 rfl ?_); go_must (refine step_alloc rfl _ rfl _ chgZ row_chg rfl ?_); intro w3 hb3 hk3 hs3)
                  | ((with_reducible refine at_store 41 (.tmp 4) (.tmp 21) rfl ?_); go_must (refine step_store rfl _ _ _ rfl wr.heap.size 0 [.string sk, .bool true, .slice Av val.length cv] _ _ rfl rfl hb3 (by simp [chgZ]) info_chg (by simp [Value.oneCell']) ?_); intro w4 hb4 hk4 hs4; rw [put_whole (by rfl)] at hb4; have d0 : w4.cell? ⟨wr.heap.size, 0, none⟩ = some (.string sk) := cell_of_row w4 _ _ _ _ _ hb4; have d1 : w4.cell? ⟨wr.heap.size, 1, none⟩ = some (.bool true) := cell_of_row w4 _ _ _ _ _ hb4; have d2 : w4.cell? ⟨wr.heap.size, 2, none⟩ = some (.slice Av val.length cv) := cell_of_row w4 _ _ _ _ _ hb4; have HK4 := Lib.hid (HKr.out.trans (((Keeps.refl (fun _ => False) wr).trans hk3 (fun _ _ h => h) |>.mono (S' := fun j => wr.heap.size ≤ j) (fun _ _ h => h.elim)).trans hk4 (fun j _ h => by omega) |>.mono (S' := fun _ => False) (fun j hj h => by omega)) (fun _ _ h => h)))
                  | (go_at_call 48; refine Rets.use (HNm.out _) ?_; rintro _ _ ⟨rfl, rfl⟩))
                go_ret
                exact ⟨by rw [HG.out] <;> rfl, HK4.out⟩
              · have HF3 := Lib.hid (show Sto.chk l = if ((l.take k).any fun a => decide (a.key = key)) = true then 10 else Sto.chkGo (l.take (k + 1)) (l.drop (k + 1)) by
                  have h1 : Sto.chk1 (l.take k) ⟨key, true, val⟩ = if ((l.take k).any fun a => decide (a.key = key)) = true then 10 else 0 := by unfold Sto.chk1; rw [if_neg (by rw [hkf]; simp), if_neg hvb, if_neg (fun h => hv0 h.2)]
                  rw [HF2.out, h1]
                  split <;> simp_all)
                go_wp2_with (first
                  | ((with_reducible refine at_ 4 rfl ?_); go_must (refine step_alloc rfl _ rfl _ chgZ row_chg rfl ?_); intro w3 hb3 hk3 hs3)
                  | ((with_reducible refine at_store 41 (.tmp 4) (.tmp 21) rfl ?_); go_must (refine step_store rfl _ _ _ rfl wr.heap.size 0 [.string sk, .bool true, .slice Av val.length cv] _ _ rfl rfl hb3 (by simp [chgZ]) info_chg (by simp [Value.oneCell']) ?_); intro w4 hb4 hk4 hs4; rw [put_whole (by rfl)] at hb4; have d0 : w4.cell? ⟨wr.heap.size, 0, none⟩ = some (.string sk) := cell_of_row w4 _ _ _ _ _ hb4; have d1 : w4.cell? ⟨wr.heap.size, 1, none⟩ = some (.bool true) := cell_of_row w4 _ _ _ _ _ hb4; have d2 : w4.cell? ⟨wr.heap.size, 2, none⟩ = some (.slice Av val.length cv) := cell_of_row w4 _ _ _ _ _ hb4; have HK4 := Lib.hid (HKr.out.trans (((Keeps.refl (fun _ => False) wr).trans hk3 (fun _ _ h => h) |>.mono (S' := fun j => wr.heap.size ≤ j) (fun _ _ h => h.elim)).trans hk4 (fun j _ h => by omega) |>.mono (S' := fun _ => False) (fun j hj h => by omega)) (fun _ _ h => h)))
                  | (go_at_call 48; refine Rets.use (HNm.out _) ?_; rintro _ _ ⟨rfl, rfl⟩))
                go_loopw [45] (fun i wr => ∃ j : Nat, j ≤ k ∧ i = .int .i64 j ∧ Keeps (fun _ => False) w4 wr ∧ Hid (((l.take j).any fun a => decide (a.key = key)) = false)) (fun i _ => k - (intOf i).toNat)
                case atStart => exact ⟨0, Nat.zero_le _, rfl, Keeps.refl _ _, Lib.hid rfl⟩
                case round =>
                  obtain ⟨j, hj, rfl, hkj, HM⟩ := hrel
                  have HKj := Lib.hid (HK4.out.trans hkj (fun _ _ h => h))
                  have HKj4 := Lib.hid hkj
                  by_cases hjk : j < k
                  · have hjl : j < l.length := by omega
                    obtain ⟨A', c', e, _, _, hin⟩ := H.out
                    cases e
                    obtain ⟨b2, o2, e, _, vV2, e0, e1, e2, hr2⟩ := hin j _ (List.getElem?_eq_getElem hjl)
                    cases e
                    obtain ⟨Av2, cv2, rfl, _⟩ := hr2.slice
                    have hB2 := (HB.out _ (List.getElem_mem hjl)).1
                    have HMn := Lib.hid (take_any (f := fun a => decide (a.key = key)) hjl)
                    have HMk := Lib.hid (fun h : l[j].key = key => (List.any_eq_true.2 ⟨l[j], by rw [List.mem_iff_getElem]; exact ⟨j, by rw [List.length_take]; omega, by rw [List.getElem_take]⟩, decide_eq_true h⟩ : ((l.take k).any fun a => decide (a.key = key)) = true))
                    have e0 := HKj.out.cell e0 (fun h => h)
                    have e1 := HKj.out.cell e1 (fun h => h)
                    have e2 := HKj.out.cell e2 (fun h => h)
                    have d0 := hkj.cell d0 (fun h => h)
                    have he := str_eq hB2 HKy.out
                    rw [← HSk.out] at he
                    generalize l[j] = g at *
                    obtain ⟨key2, del2, val2⟩ := g
                    simp only at e0 e1 e2 he HMn HMk
                    generalize str key2 = sk2 at *
                    clear hin hr2 hB2 hkj
                    by_cases hkk : key2 = key
                    · have HG := Lib.hid (show Sto.chk l = 10 by rw [HF3.out, if_pos (HMk.out hkk)])
                      rw [decide_eq_true hkk] at he
                      clear hkk
                      go_wp2_with (first
                        | ((with_reducible refine at_ 6 rfl ?_); go_must (refine step_alloc rfl _ rfl _ chgZ row_chg rfl ?_); intro w5 hb5 hk5 hs5)
                        | ((with_reducible refine at_store 41 (.tmp 6) (.tmp 48) rfl ?_); go_must (refine step_store rfl _ _ _ rfl wr.heap.size 0 [.string sk2, .bool del2, .slice Av2 val2.length cv2] _ _ rfl rfl hb5 (by simp [chgZ]) info_chg (by simp [Value.oneCell']) ?_); intro w6 hb6 hk6 hs6; rw [put_whole (by rfl)] at hb6; have f0 : w6.cell? ⟨wr.heap.size, 0, none⟩ = some (.string sk2) := cell_of_row w6 _ _ _ _ _ hb6; have KS := (((Keeps.refl (fun _ => False) wr).trans hk5 (fun _ _ h => h) |>.mono (S' := fun j => wr.heap.size ≤ j) (fun _ _ h => h.elim)).trans hk6 (fun j _ h => by omega) |>.mono (S' := fun _ => False) (fun j hj h => by omega)); have g0 := KS.cell d0 (fun h => h); have HK6 := Lib.hid (HKj.out.trans KS (fun _ _ h => h)); have HK46 := Lib.hid (HKj4.out.trans KS (fun _ _ h => h))))
                      go_ret
                      exact ⟨by rw [HG.out] <;> rfl, HK6.out⟩
                    · have HM2 := Lib.hid (show ((l.take (j + 1)).any fun a => decide (a.key = key)) = false by rw [HMn.out, HM.out, decide_eq_false hkk]; rfl)
                      rw [decide_eq_false hkk] at he
                      clear hkk
                      go_wp2_with (first
                        | ((with_reducible refine at_ 6 rfl ?_); go_must (refine step_alloc rfl _ rfl _ chgZ row_chg rfl ?_); intro w5 hb5 hk5 hs5)
                        | ((with_reducible refine at_store 41 (.tmp 6) (.tmp 48) rfl ?_); go_must (refine step_store rfl _ _ _ rfl wr.heap.size 0 [.string sk2, .bool del2, .slice Av2 val2.length cv2] _ _ rfl rfl hb5 (by simp [chgZ]) info_chg (by simp [Value.oneCell']) ?_); intro w6 hb6 hk6 hs6; rw [put_whole (by rfl)] at hb6; have f0 : w6.cell? ⟨wr.heap.size, 0, none⟩ = some (.string sk2) := cell_of_row w6 _ _ _ _ _ hb6; have KS := (((Keeps.refl (fun _ => False) wr).trans hk5 (fun _ _ h => h) |>.mono (S' := fun j => wr.heap.size ≤ j) (fun _ _ h => h.elim)).trans hk6 (fun j _ h => by omega) |>.mono (S' := fun _ => False) (fun j hj h => by omega)); have g0 := KS.cell d0 (fun h => h); have HK6 := Lib.hid (HKj.out.trans KS (fun _ _ h => h)); have HK46 := Lib.hid (HKj4.out.trans KS (fun _ _ h => h))))
                      go_roundw
                      case rel => exact ⟨j + 1, by omega, by go_num, HK46.out, HM2⟩
                      case measure => simp [intOf]; omega
                  · obtain rfl : j = k := by omega
                    have HF4 := Lib.hid (show Sto.chk l = Sto.chkGo (l.take (j + 1)) (l.drop (j + 1)) by rw [HF3.out, if_neg (by rw [HM.out]; simp)])
                    clear hkj
                    go_wp2
                    go_roundw
                    case rel => exact ⟨j + 1, by omega, by go_num, HKj.out, HF4⟩
                    case measure => simp [intOf]; omega
            | false =>
              have HF3 := Lib.hid (show Sto.chk l = if ((l.take k).any fun a => decide (a.key = key)) = true then 10 else Sto.chkGo (l.take (k + 1)) (l.drop (k + 1)) by
                have h1 : Sto.chk1 (l.take k) ⟨key, false, val⟩ = if ((l.take k).any fun a => decide (a.key = key)) = true then 10 else 0 := by unfold Sto.chk1; rw [if_neg (by rw [hkf]; simp), if_neg hvb, if_neg (fun h => by cases h.1)]
                rw [HF2.out, h1]
                split <;> simp_all)
              go_wp2_with (first
                | ((with_reducible refine at_ 4 rfl ?_); go_must (refine step_alloc rfl _ rfl _ chgZ row_chg rfl ?_); intro w3 hb3 hk3 hs3)
                | ((with_reducible refine at_store 41 (.tmp 4) (.tmp 21) rfl ?_); go_must (refine step_store rfl _ _ _ rfl wr.heap.size 0 [.string sk, .bool false, .slice Av val.length cv] _ _ rfl rfl hb3 (by simp [chgZ]) info_chg (by simp [Value.oneCell']) ?_); intro w4 hb4 hk4 hs4; rw [put_whole (by rfl)] at hb4; have d0 : w4.cell? ⟨wr.heap.size, 0, none⟩ = some (.string sk) := cell_of_row w4 _ _ _ _ _ hb4; have d1 : w4.cell? ⟨wr.heap.size, 1, none⟩ = some (.bool false) := cell_of_row w4 _ _ _ _ _ hb4; have d2 : w4.cell? ⟨wr.heap.size, 2, none⟩ = some (.slice Av val.length cv) := cell_of_row w4 _ _ _ _ _ hb4; have HK4 := Lib.hid (HKr.out.trans (((Keeps.refl (fun _ => False) wr).trans hk3 (fun _ _ h => h) |>.mono (S' := fun j => wr.heap.size ≤ j) (fun _ _ h => h.elim)).trans hk4 (fun j _ h => by omega) |>.mono (S' := fun _ => False) (fun j hj h => by omega)) (fun _ _ h => h)))
                | (go_at_call 48; refine Rets.use (HNm.out _) ?_; rintro _ _ ⟨rfl, rfl⟩))
              go_loopw [45] (fun i wr => ∃ j : Nat, j ≤ k ∧ i = .int .i64 j ∧ Keeps (fun _ => False) w4 wr ∧ Hid (((l.take j).any fun a => decide (a.key = key)) = false)) (fun i _ => k - (intOf i).toNat)
              case atStart => exact ⟨0, Nat.zero_le _, rfl, Keeps.refl _ _, Lib.hid rfl⟩
              case round =>
                obtain ⟨j, hj, rfl, hkj, HM⟩ := hrel
                have HKj := Lib.hid (HK4.out.trans hkj (fun _ _ h => h))
                have HKj4 := Lib.hid hkj
                by_cases hjk : j < k
                · have hjl : j < l.length := by omega
                  obtain ⟨A', c', e, _, _, hin⟩ := H.out
                  cases e
                  obtain ⟨b2, o2, e, _, vV2, e0, e1, e2, hr2⟩ := hin j _ (List.getElem?_eq_getElem hjl)
                  cases e
                  obtain ⟨Av2, cv2, rfl, _⟩ := hr2.slice
                  have hB2 := (HB.out _ (List.getElem_mem hjl)).1
                  have HMn := Lib.hid (take_any (f := fun a => decide (a.key = key)) hjl)
                  have HMk := Lib.hid (fun h : l[j].key = key => (List.any_eq_true.2 ⟨l[j], by rw [List.mem_iff_getElem]; exact ⟨j, by rw [List.length_take]; omega, by rw [List.getElem_take]⟩, decide_eq_true h⟩ : ((l.take k).any fun a => decide (a.key = key)) = true))
                  have e0 := HKj.out.cell e0 (fun h => h)
                  have e1 := HKj.out.cell e1 (fun h => h)
                  have e2 := HKj.out.cell e2 (fun h => h)
                  have d0 := hkj.cell d0 (fun h => h)
                  have he := str_eq hB2 HKy.out
                  rw [← HSk.out] at he
                  generalize l[j] = g at *
                  obtain ⟨key2, del2, val2⟩ := g
                  simp only at e0 e1 e2 he HMn HMk
                  generalize str key2 = sk2 at *
                  clear hin hr2 hB2 hkj
                  by_cases hkk : key2 = key
                  · have HG := Lib.hid (show Sto.chk l = 10 by rw [HF3.out, if_pos (HMk.out hkk)])
                    rw [decide_eq_true hkk] at he
                    clear hkk
                    go_wp2_with (first
                      | ((with_reducible refine at_ 6 rfl ?_); go_must (refine step_alloc rfl _ rfl _ chgZ row_chg rfl ?_); intro w5 hb5 hk5 hs5)
                      | ((with_reducible refine at_store 41 (.tmp 6) (.tmp 48) rfl ?_); go_must (refine step_store rfl _ _ _ rfl wr.heap.size 0 [.string sk2, .bool del2, .slice Av2 val2.length cv2] _ _ rfl rfl hb5 (by simp [chgZ]) info_chg (by simp [Value.oneCell']) ?_); intro w6 hb6 hk6 hs6; rw [put_whole (by rfl)] at hb6; have f0 : w6.cell? ⟨wr.heap.size, 0, none⟩ = some (.string sk2) := cell_of_row w6 _ _ _ _ _ hb6; have KS := (((Keeps.refl (fun _ => False) wr).trans hk5 (fun _ _ h => h) |>.mono (S' := fun j => wr.heap.size ≤ j) (fun _ _ h => h.elim)).trans hk6 (fun j _ h => by omega) |>.mono (S' := fun _ => False) (fun j hj h => by omega)); have g0 := KS.cell d0 (fun h => h); have HK6 := Lib.hid (HKj.out.trans KS (fun _ _ h => h)); have HK46 := Lib.hid (HKj4.out.trans KS (fun _ _ h => h))))
                    go_ret
                    exact ⟨by rw [HG.out] <;> rfl, HK6.out⟩
                  · have HM2 := Lib.hid (show ((l.take (j + 1)).any fun a => decide (a.key = key)) = false by rw [HMn.out, HM.out, decide_eq_false hkk]; rfl)
                    rw [decide_eq_false hkk] at he
                    clear hkk
                    go_wp2_with (first
                      | ((with_reducible refine at_ 6 rfl ?_); go_must (refine step_alloc rfl _ rfl _ chgZ row_chg rfl ?_); intro w5 hb5 hk5 hs5)
                      | ((with_reducible refine at_store 41 (.tmp 6) (.tmp 48) rfl ?_); go_must (refine step_store rfl _ _ _ rfl wr.heap.size 0 [.string sk2, .bool del2, .slice Av2 val2.length cv2] _ _ rfl rfl hb5 (by simp [chgZ]) info_chg (by simp [Value.oneCell']) ?_); intro w6 hb6 hk6 hs6; rw [put_whole (by rfl)] at hb6; have f0 : w6.cell? ⟨wr.heap.size, 0, none⟩ = some (.string sk2) := cell_of_row w6 _ _ _ _ _ hb6; have KS := (((Keeps.refl (fun _ => False) wr).trans hk5 (fun _ _ h => h) |>.mono (S' := fun j => wr.heap.size ≤ j) (fun _ _ h => h.elim)).trans hk6 (fun j _ h => by omega) |>.mono (S' := fun _ => False) (fun j hj h => by omega)); have g0 := KS.cell d0 (fun h => h); have HK6 := Lib.hid (HKj.out.trans KS (fun _ _ h => h)); have HK46 := Lib.hid (HKj4.out.trans KS (fun _ _ h => h))))
                    go_roundw
                    case rel => exact ⟨j + 1, by omega, by go_num, HK46.out, HM2⟩
                    case measure => simp [intOf]; omega
                · obtain rfl : j = k := by omega
                  have HF4 := Lib.hid (show Sto.chk l = Sto.chkGo (l.take (j + 1)) (l.drop (j + 1)) by rw [HF3.out, if_neg (by rw [HM.out]; simp)])
                  clear hkj
                  go_wp2
                  go_roundw
                  case rel => exact ⟨j + 1, by omega, by go_num, HKj.out, HF4⟩
                  case measure => simp [intOf]; omega
        · have hkf : Sto.keyF key = false := by simpa using hkf
          rw [hkf] at HNm
          have HG := Lib.hid (show Sto.chk l = 2 by
            have h1 : Sto.chk1 (l.take k) ⟨key, del, val⟩ = 2 := by unfold Sto.chk1; rw [if_pos hkf]
            rw [HF2.out, h1]; rfl)
          go_wp2_with (first
            | ((with_reducible refine at_ 4 rfl ?_); go_must (refine step_alloc rfl _ rfl _ chgZ row_chg rfl ?_); intro w3 hb3 hk3 hs3)
            | ((with_reducible refine at_store 41 (.tmp 4) (.tmp 21) rfl ?_); go_must (refine step_store rfl _ _ _ rfl wr.heap.size 0 [.string sk, .bool del, .slice Av val.length cv] _ _ rfl rfl hb3 (by simp [chgZ]) info_chg (by simp [Value.oneCell']) ?_); intro w4 hb4 hk4 hs4; rw [put_whole (by rfl)] at hb4; have d0 : w4.cell? ⟨wr.heap.size, 0, none⟩ = some (.string sk) := cell_of_row w4 _ _ _ _ _ hb4; have d1 : w4.cell? ⟨wr.heap.size, 1, none⟩ = some (.bool del) := cell_of_row w4 _ _ _ _ _ hb4; have d2 : w4.cell? ⟨wr.heap.size, 2, none⟩ = some (.slice Av val.length cv) := cell_of_row w4 _ _ _ _ _ hb4; have HK4 := Lib.hid (HKr.out.trans (((Keeps.refl (fun _ => False) wr).trans hk3 (fun _ _ h => h) |>.mono (S' := fun j => wr.heap.size ≤ j) (fun _ _ h => h.elim)).trans hk4 (fun j _ h => by omega) |>.mono (S' := fun _ => False) (fun j hj h => by omega)) (fun _ _ h => h)))
            | (go_at_call 48; refine Rets.use (HNm.out _) ?_; rintro _ _ ⟨rfl, rfl⟩))
          go_ret
          exact ⟨by rw [HG.out] <;> rfl, HK4.out⟩
      · obtain rfl : k = l.length := by omega
        have HG := Lib.hid (show Sto.chk l = 0 by rw [HF.out, List.drop_length]; rfl)
        clear hkr
        go_wp2
        go_ret
        exact ⟨by rw [HG.out] <;> rfl, HKr.out⟩
end Go.Proofs.Ytbiohidelhfaiaa
end

section
namespace Go.Proofs.Ytbiohidelhfaiaa
open Go.RowKit Go.Canon Go.Mem
open Go.Proofs.Ytbiohidelhfaiaa.Sto (Chg)
set_option linter.unusedVariables false
set_option linter.unusedSimpArgs false
/-- Bytes of the call's own, an error; all that was there is as it was. -/
def TwoIs (w : World) (p : List Int × Int) : Value → World → Prop := fun v w' => Keeps (fun _ => False) w w' ∧ ∃ u, v = .tuple #[u, .int .i64 p.2] ∧ OwnRow w' (fun j => w.heap.size ≤ j) 5 1 u p.1.length (Disk.bytes8 p.1)
theorem var_len (f x : Nat) : (Sto.var f x).length ≤ f + 1 := by
  induction f generalizing x with
  | zero => simp [Sto.var]
  | succ f ih => rw [Sto.var]; split <;> simp; exact ih _
theorem varF_len (x : Nat) : (Sto.varF x).length ≤ 10 := var_len 9 x
theorem var_byte : ∀ (f x : Nat), x < 128 ^ (f + 1) → IsB (Sto.var f x) := by
  intro f
  induction f with
  | zero => intro x hx y hy; simp only [Sto.var, List.mem_singleton] at hy; simp at hx; omega
  | succ f ih =>
    intro x hx y hy
    rw [Sto.var] at hy
    split at hy
    · rw [List.mem_singleton] at hy; omega
    · have hp : (128 : Nat) ^ (f + 1 + 1) = 128 * 128 ^ (f + 1) := by rw [Nat.pow_succ]; omega
      rcases List.mem_cons.1 hy with rfl | hy
      · omega
      · exact ih (x / 128) (by rw [Nat.div_lt_iff_lt_mul (by decide)]; omega) y hy
theorem enc1_len {c : Chg} (h : Sto.keyF c.key = true) (h2 : c.val.length ≤ 4096) : (Sto.enc1 c).length ≤ 4200 := by
  unfold Sto.keyF at h
  simp only [Bool.and_eq_true, decide_eq_true_eq] at h
  have h3 := varF_len c.key.length
  have h4 := varF_len c.val.length
  unfold Sto.enc1 Sto.counted
  split <;> simp only [List.length_cons, List.length_append, List.length_nil] <;> omega
theorem encs_len : ∀ (l : List Chg), (∀ c ∈ l, Sto.keyF c.key = true ∧ c.val.length ≤ 4096) → (l.flatMap Sto.enc1).length ≤ 4200 * l.length := by
  intro l
  induction l with
  | nil => intro _; simp
  | cons c l ih =>
    intro h
    have h1 := enc1_len (h c (List.mem_cons_self ..)).1 (h c (List.mem_cons_self ..)).2
    have h2 := ih (fun d hd => h d (List.mem_cons_of_mem _ hd))
    rw [List.flatMap_cons, List.length_append, List.length_cons]
    omega
theorem encs_next {l : List Chg} {k : Nat} (h : k < l.length) : (l.take (k + 1)).flatMap Sto.enc1 = (l.take k).flatMap Sto.enc1 ++ Sto.enc1 l[k] := by
  rw [List.take_add_one, List.getElem?_eq_getElem h, List.flatMap_append]; simp
set_option maxHeartbeats 12800000 in
set_option maxRecDepth 100000 in
theorem encode_c {w : World} {ok : Nat → Prop} (l : List Chg) (hB : ChgB l) (hl : l.length ≤ 1000000) (v : Value) (h : Chgs w ok v l) (hok : ∀ k, ok k → k < w.heap.size) : Calls Try.prog 12 #[v] w (Rets (TwoIs w (Sto.enc l))) := by
  obtain ⟨A, c, rfl, hlc, _, _⟩ := id h
  have H := Lib.hid h
  have HB := Lib.hid hB
  have HCk := Lib.hid (check_c l hB hl _ h hok)
  by_cases hz : Sto.chk l = 0
  · have HZ := Lib.hid (show Sto.enc l = (Sto.encL l, 0) by unfold Sto.enc; rw [if_neg (fun h => h hz)])
    rw [hz] at HCk
    obtain ⟨hg, hl1, hl2⟩ := Sto.chk_good hz
    have HG := Lib.hid hg
    have HV := Lib.hid (fun w => wvar_c l.length (by omega) w)
    have hvn := varF_len l.length
    clear h hB hz hg
    go_enter Try.func12, Try.ntmps12
    go_wp2_with (first
      | (go_at_call 18; refine Rets.use HCk.out ?_; rintro _ w1 ⟨rfl, hk1⟩)
      | (go_at_call 40; refine Rets.use (HV.out _) ?_; rintro v2 w2 hO2))
    have HK2 := Lib.hid (hk1.trans hO2.2 (fun _ _ h => h))
    have HO2 := Lib.hid (hO2.1.mono (ok' := fun j => w.heap.size ≤ j) (fun j _ h => by have := hk1.size; omega))
    clear hO2 hk1
    go_loopw [5, 20] (fun ov i wr => ∃ k : Nat, k ≤ l.length ∧ i = .int .i64 k ∧ Keeps (fun _ => False) w wr ∧ OwnRow wr (fun j => w.heap.size ≤ j) 5 1 ov (Sto.varF l.length ++ (l.take k).flatMap Sto.enc1).length (Disk.bytes8 (Sto.varF l.length ++ (l.take k).flatMap Sto.enc1))) (fun _ i _ => l.length - (intOf i).toNat)
    case atStart => exact ⟨0, Nat.zero_le _, rfl, HK2.out, by have := HO2.out; simpa using this⟩
    case round =>
      obtain ⟨k, hk, rfl, hkr, hO⟩ := hrel
      have HKr := Lib.hid hkr
      have hel := encs_len (l.take k) (fun c hc => ⟨(HG.out c (List.mem_of_mem_take hc)).2.1, (HG.out c (List.mem_of_mem_take hc)).2.2⟩)
      rw [List.length_take] at hel
      by_cases hlt : k < l.length
      · obtain ⟨A', c', e, _, _, hin⟩ := H.out
        cases e
        obtain ⟨b, o, e, hb, vV, c0, c1, c2, hrV⟩ := hin k _ (List.getElem?_eq_getElem hlt)
        cases e
        obtain ⟨Av, cv, rfl, _⟩ := hrV.slice
        obtain ⟨hb1, hb2, hb3, hb4⟩ := HB.out _ (List.getElem_mem hlt)
        obtain ⟨_, hkf, hvl⟩ := HG.out _ (List.getElem_mem hlt)
        have HN := Lib.hid (encs_next hlt)
        have c0 := hkr.cell c0 (fun h => h)
        have c1 := hkr.cell c1 (fun h => h)
        have c2 := hkr.cell c2 (fun h => h)
        have hbw := hok b hb
        have HRV := Lib.hid ((hrV.mono (ok' := fun j => j < w.heap.size) hok).kept hkr (fun _ _ h => h))
        generalize l[k] = d at *
        obtain ⟨key, del, val⟩ := d
        simp only at c0 c1 c2 hb1 hb2 hb3 hb4 hkf hvl HRV
        have zk := str_size key
        have hk40 : key.length ≤ 40 := by unfold Sto.keyF at hkf; simp only [Bool.and_eq_true, decide_eq_true_eq] at hkf; exact hkf.2.2
        have HVk := Lib.hid (fun w => wvar_c key.length (by omega) w)
        have HVv := Lib.hid (fun w => wvar_c val.length (by omega) w)
        have hvk := varF_len key.length
        have hvv := varF_len val.length
        have HKy := Lib.hid hb1
        generalize hP : Sto.varF l.length ++ (l.take k).flatMap Sto.enc1 = P at *
        have hPl : P.length ≤ 70000 := by rw [← hP, List.length_append]; omega
        have HN2 := Lib.hid (show Sto.varF l.length ++ (l.take (k + 1)).flatMap Sto.enc1 = P ++ Sto.enc1 ⟨key, del, val⟩ by rw [HN.out, ← hP, List.append_assoc])
        obtain ⟨sk, hsk⟩ : ∃ s, s = str key := ⟨_, rfl⟩
        have HSk := Lib.hid hsk
        rw [← hsk] at c0 zk
        obtain ⟨Ao, co, rfl, _⟩ := hO.slice
        have HO := Lib.hid hO
        have hwr := hkr.size
        clear hin hrV hsk hkr hb1 hb2 hP HN hO hel hkf
        cases del with
        | true =>
          obtain ⟨P1, hP1⟩ : ∃ q, P ++ [1] = q := ⟨_, rfl⟩
          obtain ⟨P2, hP2⟩ : ∃ q, P1 ++ Sto.varF key.length = q := ⟨_, rfl⟩
          obtain ⟨P3, hP3⟩ : ∃ q, P2 ++ key = q := ⟨_, rfl⟩
          have hl1' : P1.length ≤ 70001 := by rw [← hP1]; simp only [List.length_append, List.length_cons, List.length_nil]; omega
          have hl2' : P2.length ≤ 70011 := by rw [← hP2]; simp only [List.length_append]; omega
          have hl3' : P3.length ≤ 70051 := by rw [← hP3]; simp only [List.length_append]; omega
          have HP1 := Lib.hid hP1
          have HP2 := Lib.hid hP2
          have HP3 := Lib.hid hP3
          clear hP1 hP2 hP3
          go_wp2_with (first
            | ((with_reducible refine at_ 7 rfl ?_); go_must (refine step_alloc rfl _ rfl _ chgZ row_chg rfl ?_); intro w3 hb3 hk3 hs3)
            | ((with_reducible refine at_store 41 (.tmp 7) (.tmp 23) rfl ?_); go_must (refine step_store rfl _ _ _ rfl wr.heap.size 0 [.string sk, .bool true, .slice Av val.length cv] _ _ rfl rfl hb3 (by simp [chgZ]) info_chg (by simp [Value.oneCell']) ?_); intro w4 hb4 hk4 hs4; rw [put_whole (by rfl)] at hb4; have d1 : w4.cell? ⟨wr.heap.size, 1, none⟩ = some (.bool true) := cell_of_row w4 _ _ _ _ _ hb4))
          have KS := (((Keeps.refl (fun _ => False) wr).trans hk3 (fun _ _ h => h) |>.mono (S' := fun j => wr.heap.size ≤ j) (fun _ _ h => h.elim)).trans hk4 (fun j _ h => by omega) |>.mono (S' := fun _ => False) (fun j hj h => by omega))
          have HK4 := Lib.hid (HKr.out.trans KS (fun _ _ h => h))
          have HO4 := Lib.hid ((HO.out.mono (ok' := fun j => w.heap.size ≤ j ∧ j ≠ wr.heap.size) (fun j hj h => ⟨h, by omega⟩)).kept KS (fun _ _ h => h))
          have HRV4 := Lib.hid (HRV.out.kept KS (fun _ _ h => h))
          have hB4 : wr.heap.size < w4.heap.size := by omega
          have hwB : w.heap.size ≤ wr.heap.size := hwr
          have hb4 : w4.heap[wr.heap.size]? = some (.cells [Value.string sk, .bool true, .slice Av val.length cv].toArray 41 (0, 0)) := hb4
          generalize wr.heap.size = B at *
          clear hb3 hk3 hk4 hs3 hs4 KS d1
          refine Canon.region [2, 3] [(⟨B, 0, none⟩, .string sk)] [(5, 0)] (.hold [0, 1, 4, 5, 6, 7] (.loud 2 (.loud 3 (.seg [8, 9, 10] .stop)))) (by kernel_rfl) (by kernel_rfl) (by repeat (first | (with_reducible exact Safe.body) | (with_reducible apply Safe.then) | (with_reducible apply Safe.inBlock) | (dsimp +zetaDelta only))) ?_
          simp only [Canon.pick, Canon.wpPlan, List.getElem?_toArray, List.getElem?_cons_zero, List.getElem?_cons_succ]
          have KD : Keeps (fun _ => False) w4 w4.drew := (Keeps.refl _ w4).drew
          have hbd := KD.heap hb4 (fun h => h)
          have HKd := Lib.hid (HK4.out.trans KD (fun _ _ h => h))
          have HOd := Lib.hid (HO4.out.kept KD (fun _ _ h => h))
          have HRVd := Lib.hid (HRV4.out.kept KD (fun _ _ h => h))
          have hBd : B < w4.drew.heap.size := hB4
          generalize w4.drew = wd at *
          have HBd := Lib.hid hbd
          have HLx := Lib.hid (fun (x : World) (h : x.heap[B]? = some (.cells [Value.string sk, .bool true, .slice Av val.length cv].toArray 41 (0, 0))) => (by
            intro p hp
            rw [List.mem_singleton] at hp
            subst hp
            exact (cell_of_row x _ 0 _ _ _ h).trans rfl : Cells [(⟨B, 0, none⟩, Value.string sk)] x))
          clear hbd KD hb4
          have e0 : wd.cell? ⟨B, 0, none⟩ = some (.string sk) := cell_of_row wd _ 0 _ _ _ HBd.out
          refine ⟨HLx.out _ HBd.out, ?_⟩
          go_wp2_with ((with_reducible refine at_ 28 rfl ?_); go_must (refine step_lit rfl 23 _ 1 rfl [.int .u8 1] rfl rfl (by decide) 5 _ 1 Try.underlying23 row2_byte (by decide) (by decide) (by intro v hv; rw [List.mem_singleton] at hv; subst hv; rfl) ?_); intro w5 hb5 hk5 hs5)
          have HB5 := Lib.hid (hk5.heap HBd.out (fun h => h))
          refine ⟨HLx.out _ HB5.out, ?_⟩
          go_wp2_with ((with_reducible refine at_ 29 rfl ?_); go_must (refine app_rd (ok := fun j => w.heap.size ≤ j ∧ j ≠ B) rfl _ _ rfl (.slice Ao P.length co) P rfl (HOd.out.kept hk5 (fun _ _ h => h)) _ 1 [1] rfl (lit_one hb5 (Nat.le_refl _)) rfl (by simp only [List.length_cons, List.length_nil]; omega) ?_); intro v6 w6 hO6 hk6; rw [HP1.out] at hO6)
          have HB6 := Lib.hid (hk6.heap HB5.out (fun h => h.2 rfl))
          have HO6 := Lib.hid (hO6.mono (ok' := fun j => w.heap.size ≤ j ∧ j ≠ B) (fun j _ h => by rcases h with h | h; exact h; exact ⟨by omega, by omega⟩))
          have HKx6 := Lib.hid (hk5.mono (S' := fun j => w.heap.size ≤ j ∧ j ≠ B) (fun _ _ h => h.elim) |>.trans hk6 (fun _ _ h => h))
          have hz6 : B < w6.heap.size := by have := hk5.size; have := hk6.size; omega
          obtain ⟨A6, c6, rfl, _⟩ := hO6.slice
          clear hk5 hk6 hO6 hb5 hs5
          refine ⟨HLx.out _ HB6.out, ?_⟩
          go_wp2_with (first
            | (go_at_call 40; refine Rets.use (HVk.out _) ?_; rintro v7 w7 hO7)
            | ((with_reducible refine at_ 35 rfl ?_); go_must (refine app_rd (ok := fun j => w.heap.size ≤ j ∧ j ≠ B) rfl _ _ rfl (.slice A6 P1.length c6) P1 rfl (HO6.out.kept hO7.2 (fun _ _ h => h)) v7 _ (Sto.varF key.length) rfl hO7.1.rd rfl (by omega) ?_); intro v8 w8 hO8 hk8; rw [HP2.out] at hO8))
          refine ⟨by rfl, ⟨fun _ => rfl, trivial⟩, ?_⟩
          have HB8 := Lib.hid (hk8.heap (hO7.2.heap HB6.out (fun h => h)) (fun h => h.2 rfl))
          have HO8 := Lib.hid (hO8.mono (ok' := fun j => w.heap.size ≤ j ∧ j ≠ B) (fun j _ h => by have := hO7.2.size; rcases h with h | h; exact h; exact ⟨by omega, by omega⟩))
          have HKx8 := Lib.hid (HKx6.out.trans (hO7.2.mono (S' := fun j => w.heap.size ≤ j ∧ j ≠ B) (fun _ _ h => h.elim) |>.trans hk8 (fun _ _ h => h)) (fun _ _ h => h))
          have hz8 : B < w8.heap.size := by have := hO7.2.size; have := hk8.size; omega
          obtain ⟨A8, c8, rfl, _⟩ := hO8.slice
          clear hO7 hk8 hO8
          have d0 : w8.cell? ⟨B, 0, none⟩ = some (.string sk) := cell_of_row w8 _ 0 _ _ _ HB8.out
          go_wp2_with ((with_reducible refine at_ 39 rfl ?_); go_must (refine app_str (ok := fun j => w.heap.size ≤ j ∧ j ≠ B) rfl _ _ rfl (.slice A8 P2.length c8) P2 rfl HO8.out key (by rw [← HSk.out]; rfl) HKy.out (by omega) ?_); intro v9 w9 hO9 hk9; rw [HP3.out] at hO9; have hb9 := hk9.heap HB8.out (fun h => h.2 rfl); have d1 : w9.cell? ⟨B, 1, none⟩ = some (.bool true) := cell_of_row w9 _ 1 _ _ _ hb9; have d2 : w9.cell? ⟨B, 2, none⟩ = some (.slice Av val.length cv) := cell_of_row w9 _ 2 _ _ _ hb9; have HB9 := Lib.hid hb9; have HO9 := Lib.hid (hO9.mono (ok' := fun j => w.heap.size ≤ j ∧ j ≠ B) (fun j _ h => by rcases h with h | h; exact h; exact ⟨by omega, by omega⟩)); have HKx9 := Lib.hid (HKx8.out.trans hk9 (fun _ _ h => h)); have HK9 := Lib.hid ((HKd.out.mono (S' := fun j => w.heap.size ≤ j) (fun _ _ h => h.elim)).trans HKx9.out (fun j _ h => h.1) |>.mono (S' := fun _ => False) (fun j hj h => by omega)); have hz9 : B < w9.heap.size := by have := hk9.size; omega)
          have HE := Lib.hid (show Sto.varF l.length ++ (l.take (k + 1)).flatMap Sto.enc1 = P3 by rw [HN2.out, ← HP3.out, ← HP2.out, ← HP1.out]; simp [Sto.enc1, Sto.counted])
          go_roundw
          case rel => exact ⟨k + 1, by omega, by go_num, HK9.out, by rw [HE.out]; exact HO9.out.mono (fun j _ h => h.1)⟩
          case measure => simp [intOf]; omega
        | false =>
          obtain ⟨P1, hP1⟩ : ∃ q, P ++ [0] = q := ⟨_, rfl⟩
          obtain ⟨P2, hP2⟩ : ∃ q, P1 ++ Sto.varF key.length = q := ⟨_, rfl⟩
          obtain ⟨P3, hP3⟩ : ∃ q, P2 ++ key = q := ⟨_, rfl⟩
          have hl1' : P1.length ≤ 70001 := by rw [← hP1]; simp only [List.length_append, List.length_cons, List.length_nil]; omega
          have hl2' : P2.length ≤ 70011 := by rw [← hP2]; simp only [List.length_append]; omega
          have hl3' : P3.length ≤ 70051 := by rw [← hP3]; simp only [List.length_append]; omega
          have HP1 := Lib.hid hP1
          have HP2 := Lib.hid hP2
          have HP3 := Lib.hid hP3
          clear hP1 hP2 hP3
          go_wp2_with (first
            | ((with_reducible refine at_ 7 rfl ?_); go_must (refine step_alloc rfl _ rfl _ chgZ row_chg rfl ?_); intro w3 hb3 hk3 hs3)
            | ((with_reducible refine at_store 41 (.tmp 7) (.tmp 23) rfl ?_); go_must (refine step_store rfl _ _ _ rfl wr.heap.size 0 [.string sk, .bool false, .slice Av val.length cv] _ _ rfl rfl hb3 (by simp [chgZ]) info_chg (by simp [Value.oneCell']) ?_); intro w4 hb4 hk4 hs4; rw [put_whole (by rfl)] at hb4; have d1 : w4.cell? ⟨wr.heap.size, 1, none⟩ = some (.bool false) := cell_of_row w4 _ _ _ _ _ hb4))
          have KS := (((Keeps.refl (fun _ => False) wr).trans hk3 (fun _ _ h => h) |>.mono (S' := fun j => wr.heap.size ≤ j) (fun _ _ h => h.elim)).trans hk4 (fun j _ h => by omega) |>.mono (S' := fun _ => False) (fun j hj h => by omega))
          have HK4 := Lib.hid (HKr.out.trans KS (fun _ _ h => h))
          have HO4 := Lib.hid ((HO.out.mono (ok' := fun j => w.heap.size ≤ j ∧ j ≠ wr.heap.size) (fun j hj h => ⟨h, by omega⟩)).kept KS (fun _ _ h => h))
          have HRV4 := Lib.hid (HRV.out.kept KS (fun _ _ h => h))
          have hB4 : wr.heap.size < w4.heap.size := by omega
          have hwB : w.heap.size ≤ wr.heap.size := hwr
          have hb4 : w4.heap[wr.heap.size]? = some (.cells [Value.string sk, .bool false, .slice Av val.length cv].toArray 41 (0, 0)) := hb4
          generalize wr.heap.size = B at *
          clear hb3 hk3 hk4 hs3 hs4 KS d1
          refine Canon.region [2, 3] [(⟨B, 0, none⟩, .string sk)] [(5, 0)] (.hold [0, 1, 4, 5, 6, 7] (.loud 2 (.loud 3 (.seg [8, 9, 10] .stop)))) (by kernel_rfl) (by kernel_rfl) (by repeat (first | (with_reducible exact Safe.body) | (with_reducible apply Safe.then) | (with_reducible apply Safe.inBlock) | (dsimp +zetaDelta only))) ?_
          simp only [Canon.pick, Canon.wpPlan, List.getElem?_toArray, List.getElem?_cons_zero, List.getElem?_cons_succ]
          have KD : Keeps (fun _ => False) w4 w4.drew := (Keeps.refl _ w4).drew
          have hbd := KD.heap hb4 (fun h => h)
          have HKd := Lib.hid (HK4.out.trans KD (fun _ _ h => h))
          have HOd := Lib.hid (HO4.out.kept KD (fun _ _ h => h))
          have HRVd := Lib.hid (HRV4.out.kept KD (fun _ _ h => h))
          have hBd : B < w4.drew.heap.size := hB4
          generalize w4.drew = wd at *
          have HBd := Lib.hid hbd
          have HLx := Lib.hid (fun (x : World) (h : x.heap[B]? = some (.cells [Value.string sk, .bool false, .slice Av val.length cv].toArray 41 (0, 0))) => (by
            intro p hp
            rw [List.mem_singleton] at hp
            subst hp
            exact (cell_of_row x _ 0 _ _ _ h).trans rfl : Cells [(⟨B, 0, none⟩, Value.string sk)] x))
          clear hbd KD hb4
          have e0 : wd.cell? ⟨B, 0, none⟩ = some (.string sk) := cell_of_row wd _ 0 _ _ _ HBd.out
          refine ⟨HLx.out _ HBd.out, ?_⟩
          go_wp2_with ((with_reducible refine at_ 28 rfl ?_); go_must (refine step_lit rfl 23 _ 1 rfl [.int .u8 0] rfl rfl (by decide) 5 _ 1 Try.underlying23 row2_byte (by decide) (by decide) (by intro v hv; rw [List.mem_singleton] at hv; subst hv; rfl) ?_); intro w5 hb5 hk5 hs5)
          have HB5 := Lib.hid (hk5.heap HBd.out (fun h => h))
          refine ⟨HLx.out _ HB5.out, ?_⟩
          go_wp2_with ((with_reducible refine at_ 29 rfl ?_); go_must (refine app_rd (ok := fun j => w.heap.size ≤ j ∧ j ≠ B) rfl _ _ rfl (.slice Ao P.length co) P rfl (HOd.out.kept hk5 (fun _ _ h => h)) _ 1 [0] rfl (lit_one hb5 (Nat.le_refl _)) rfl (by simp only [List.length_cons, List.length_nil]; omega) ?_); intro v6 w6 hO6 hk6; rw [HP1.out] at hO6)
          have HB6 := Lib.hid (hk6.heap HB5.out (fun h => h.2 rfl))
          have HO6 := Lib.hid (hO6.mono (ok' := fun j => w.heap.size ≤ j ∧ j ≠ B) (fun j _ h => by rcases h with h | h; exact h; exact ⟨by omega, by omega⟩))
          have HKx6 := Lib.hid (hk5.mono (S' := fun j => w.heap.size ≤ j ∧ j ≠ B) (fun _ _ h => h.elim) |>.trans hk6 (fun _ _ h => h))
          have hz6 : B < w6.heap.size := by have := hk5.size; have := hk6.size; omega
          obtain ⟨A6, c6, rfl, _⟩ := hO6.slice
          clear hk5 hk6 hO6 hb5 hs5
          refine ⟨HLx.out _ HB6.out, ?_⟩
          go_wp2_with (first
            | (go_at_call 40; refine Rets.use (HVk.out _) ?_; rintro v7 w7 hO7)
            | ((with_reducible refine at_ 35 rfl ?_); go_must (refine app_rd (ok := fun j => w.heap.size ≤ j ∧ j ≠ B) rfl _ _ rfl (.slice A6 P1.length c6) P1 rfl (HO6.out.kept hO7.2 (fun _ _ h => h)) v7 _ (Sto.varF key.length) rfl hO7.1.rd rfl (by omega) ?_); intro v8 w8 hO8 hk8; rw [HP2.out] at hO8))
          refine ⟨by rfl, ⟨fun _ => rfl, trivial⟩, ?_⟩
          have HB8 := Lib.hid (hk8.heap (hO7.2.heap HB6.out (fun h => h)) (fun h => h.2 rfl))
          have HO8 := Lib.hid (hO8.mono (ok' := fun j => w.heap.size ≤ j ∧ j ≠ B) (fun j _ h => by have := hO7.2.size; rcases h with h | h; exact h; exact ⟨by omega, by omega⟩))
          have HKx8 := Lib.hid (HKx6.out.trans (hO7.2.mono (S' := fun j => w.heap.size ≤ j ∧ j ≠ B) (fun _ _ h => h.elim) |>.trans hk8 (fun _ _ h => h)) (fun _ _ h => h))
          have hz8 : B < w8.heap.size := by have := hO7.2.size; have := hk8.size; omega
          obtain ⟨A8, c8, rfl, _⟩ := hO8.slice
          clear hO7 hk8 hO8
          have d0 : w8.cell? ⟨B, 0, none⟩ = some (.string sk) := cell_of_row w8 _ 0 _ _ _ HB8.out
          go_wp2_with ((with_reducible refine at_ 39 rfl ?_); go_must (refine app_str (ok := fun j => w.heap.size ≤ j ∧ j ≠ B) rfl _ _ rfl (.slice A8 P2.length c8) P2 rfl HO8.out key (by rw [← HSk.out]; rfl) HKy.out (by omega) ?_); intro v9 w9 hO9 hk9; rw [HP3.out] at hO9; have hb9 := hk9.heap HB8.out (fun h => h.2 rfl); have d1 : w9.cell? ⟨B, 1, none⟩ = some (.bool false) := cell_of_row w9 _ 1 _ _ _ hb9; have d2 : w9.cell? ⟨B, 2, none⟩ = some (.slice Av val.length cv) := cell_of_row w9 _ 2 _ _ _ hb9; have HB9 := Lib.hid hb9; have HO9 := Lib.hid (hO9.mono (ok' := fun j => w.heap.size ≤ j ∧ j ≠ B) (fun j _ h => by rcases h with h | h; exact h; exact ⟨by omega, by omega⟩)); have HKx9 := Lib.hid (HKx8.out.trans hk9 (fun _ _ h => h)); have HK9 := Lib.hid ((HKd.out.mono (S' := fun j => w.heap.size ≤ j) (fun _ _ h => h.elim)).trans HKx9.out (fun j _ h => h.1) |>.mono (S' := fun _ => False) (fun j hj h => by omega)); have hz9 : B < w9.heap.size := by have := hk9.size; omega)
          obtain ⟨P4, hP4⟩ : ∃ q, P3 ++ Sto.varF val.length = q := ⟨_, rfl⟩
          obtain ⟨P5, hP5⟩ : ∃ q, P4 ++ val = q := ⟨_, rfl⟩
          have hl4' : P4.length ≤ 70061 := by rw [← hP4]; simp only [List.length_append]; omega
          have HP4 := Lib.hid hP4
          have HP5 := Lib.hid hP5
          have HE := Lib.hid (show Sto.varF l.length ++ (l.take (k + 1)).flatMap Sto.enc1 = P5 by rw [HN2.out, ← HP5.out, ← HP4.out, ← HP3.out, ← HP2.out, ← HP1.out]; simp [Sto.enc1, Sto.counted])
          clear hP4 hP5 d0 d1 hb9 hO9 hk9
          refine Canon.region [5, 6] [(⟨B, 2, none⟩, .slice Av val.length cv)] [(8, 0)] (.hold [0, 1, 7, 2, 3, 4, 8] (.loud 5 (.loud 6 (.seg [9, 10] .stop)))) (by kernel_rfl) (by kernel_rfl) (by repeat (first | (with_reducible exact Safe.body) | (with_reducible apply Safe.then) | (with_reducible apply Safe.inBlock) | (dsimp +zetaDelta only))) ?_
          simp only [Canon.pick, Canon.wpPlan, List.getElem?_toArray, List.getElem?_cons_zero, List.getElem?_cons_succ]
          have KD : Keeps (fun _ => False) w9 w9.drew := (Keeps.refl _ w9).drew
          have HBx := Lib.hid (KD.heap HB9.out (fun h => h))
          have HOx := Lib.hid (HO9.out.kept KD (fun _ _ h => h))
          have HKx := Lib.hid (HK9.out.trans KD (fun _ _ h => h))
          have HRVx := Lib.hid ((HRVd.out.kept HKx9.out (fun j h h' => by omega)).kept KD (fun _ _ h => h))
          have hBx : B < w9.drew.heap.size := hz9
          generalize w9.drew = wx at *
          have HLy := Lib.hid (fun (x : World) (h : x.heap[B]? = some (.cells [Value.string sk, .bool false, .slice Av val.length cv].toArray 41 (0, 0))) => (by
            intro p hp
            rw [List.mem_singleton] at hp
            subst hp
            exact (cell_of_row x _ 2 _ _ _ h).trans rfl : Cells [(⟨B, 2, none⟩, Value.slice Av val.length cv)] x))
          have e2 : wx.cell? ⟨B, 2, none⟩ = some (.slice Av val.length cv) := cell_of_row wx _ 2 _ _ _ HBx.out
          clear KD d2
          refine ⟨HLy.out _ HBx.out, ?_⟩
          go_wp2_with (go_at_call 40; refine Rets.use (HVv.out _) ?_; rintro v10 w10 hO10)
          have HB10 := Lib.hid (hO10.2.heap HBx.out (fun h => h))
          have hz10 := hO10.2.size
          have e3 : w10.cell? ⟨B, 2, none⟩ = some (.slice Av val.length cv) := cell_of_row w10 _ 2 _ _ _ HB10.out
          refine ⟨HLy.out _ HB10.out, ?_⟩
          go_wp2_with ((with_reducible refine at_ 49 rfl ?_); go_must (refine app_rd (ok := fun j => w.heap.size ≤ j ∧ j ≠ B) rfl _ _ rfl v9 P3 rfl (HOx.out.kept hO10.2 (fun _ _ h => h)) v10 _ (Sto.varF val.length) rfl hO10.1.rd rfl (by omega) ?_); intro v11 w11 hO11 hk11; rw [HP4.out] at hO11)
          have HB11 := Lib.hid (hk11.heap HB10.out (fun h => h.2 rfl))
          have hz11 := hk11.size
          have HO11 := Lib.hid (hO11.mono (ok' := fun j => w.heap.size ≤ j ∧ j ≠ B) (fun j _ h => by rcases h with h | h; exact h; exact ⟨by omega, by omega⟩))
          have HRV11 := Lib.hid ((HRVx.out.kept hO10.2 (fun _ _ h => h)).kept hk11 (fun j h h' => by omega))
          have HKx11 := Lib.hid (hO10.2.mono (S' := fun j => w.heap.size ≤ j ∧ j ≠ B) (fun _ _ h => h.elim) |>.trans hk11 (fun _ _ h => h))
          clear hO10 hk11 hO11
          refine ⟨HLy.out _ HB11.out, ?_⟩
          go_wp2_with ((with_reducible refine at_ 52 rfl ?_); go_must (refine app_rd (ok := fun j => w.heap.size ≤ j ∧ j ≠ B) rfl _ _ rfl v11 P4 rfl HO11.out (.slice Av val.length cv) _ val rfl HRV11.out rfl (by omega) ?_); intro v12 w12 hO12 hk12; rw [HP5.out] at hO12)
          refine ⟨by rfl, ⟨fun _ => rfl, trivial⟩, ?_⟩
          have HO12 := Lib.hid (hO12.mono (ok' := fun j => w.heap.size ≤ j) (fun j _ h => by rcases h with h | h; exact h.1; omega))
          have HK12 := Lib.hid ((HKx.out.mono (S' := fun j => w.heap.size ≤ j) (fun _ _ h => h.elim)).trans (HKx11.out.trans hk12 (fun _ _ h => h)) (fun j _ h => h.1) |>.mono (S' := fun _ => False) (fun j hj h => by omega))
          clear hO12 hk12
          go_wp2
          go_roundw
          case rel => exact ⟨k + 1, by omega, by go_num, HK12.out, by rw [HE.out]; exact HO12.out⟩
          case measure => simp [intOf]; omega
      · obtain rfl : k = l.length := by omega
        rw [List.take_length] at hO
        obtain ⟨Ao, co, rfl, _⟩ := hO.slice
        have HO := Lib.hid hO
        clear hkr hO
        go_wp2
        go_ret2
        rw [HZ.out]
        exact ⟨HKr.out, _, rfl, HO.out⟩
  · have HZ := Lib.hid (show Sto.enc l = ([], Sto.chk l) by unfold Sto.enc; rw [if_pos hz])
    have hq : (Sto.chk l != 0) = true := by simpa using hz
    generalize Sto.chk l = e at *
    clear h hB hz
    go_enter Try.func12, Try.ntmps12
    go_wp2_with (first
      | (go_at_call 18; refine Rets.use HCk.out ?_; rintro _ w1 ⟨rfl, hk1⟩))
    go_ret2
    rw [HZ.out]
    exact ⟨hk1, .slice none 0 0, rfl, OwnRow.nil _ _ _ _⟩
end Go.Proofs.Ytbiohidelhfaiaa
end

section
namespace Go.Proofs.Ytbiohidelhfaiaa
open Go.RowKit Go.Canon Go.Mem
open Go.Proofs.Ytbiohidelhfaiaa.Sto (Chg)
set_option linter.unusedVariables false
set_option linter.unusedSimpArgs false
namespace Sto
/-! ### what is held, plainly -/
abbrev Mp := List (List Int × List Int)
def look (M : Mp) (k : List Int) : Option (List Int) := (M.find? fun p => decide (p.1 = k)).map (·.2)
def del (M : Mp) (k : List Int) : Mp := M.filter fun p => decide (p.1 ≠ k)
def put (M : Mp) (k v : List Int) : Mp := (k, v) :: del M k
def costF (M : Mp) (k : List Int) : Int := match look M k with
  | none => 0
  | some v => k.length + v.length
def do1 (M : Mp) (c : Chg) : Mp := if c.del = true then del M c.key else put M c.key c.val
theorem look_put (M : Mp) (k v : List Int) : look (put M k v) k = some v := by simp [look, put]
theorem look_del (M : Mp) (k : List Int) : look (del M k) k = none := by
  unfold look del
  rw [List.find?_eq_none.2]
  · rfl
  · intro p hp
    have := (List.mem_filter.1 hp).2
    simpa using this
theorem look_del_other (M : Mp) {k k' : List Int} (h : k' ≠ k) : look (del M k) k' = look M k' := by
  unfold look del
  congr 1
  induction M with
  | nil => rfl
  | cons p M ih =>
    by_cases hp : p.1 = k
    · rw [List.filter_cons_of_neg (by simpa using hp), List.find?_cons_of_neg (by rw [hp]; simpa using Ne.symm h), ih]
    · rw [List.filter_cons_of_pos (by simpa using hp)]
      by_cases hp2 : p.1 = k'
      · rw [List.find?_cons_of_pos (by simpa using hp2), List.find?_cons_of_pos (by simpa using hp2)]
      · rw [List.find?_cons_of_neg (by simpa using hp2), List.find?_cons_of_neg (by simpa using hp2), ih]
theorem look_put_other (M : Mp) {k k' : List Int} (v : List Int) (h : k' ≠ k) : look (put M k v) k' = look M k' := by
  have : look (put M k v) k' = look (del M k) k' := by
    unfold look put
    rw [List.find?_cons_of_neg (by simpa using Ne.symm h)]
  rw [this, look_del_other M h]
end Sto
/-! ### in memory -/
def Rv (v : Value) : Option (DataW Value × List MemPlace) := some (.held v, [])
theorem strLaw : Maps.Keyed Try.prog 9 := Maps.string_keyed Try.underlying9
theorem zeroE (w : World) : (zeroValue 23).run Try.prog w = .ok (.slice none 0 0) w := by kernel_rfl
def keyLit (k : List Int) : Lit := .string (str k).data.toList
theorem keyLit_of (k : List Int) (h : k.length ≤ 1000000) : keyOf Try.prog 9 (.string (str k)) = some (keyLit k) := Go.WideMaps.keyOf_string_mk Try.underlying9 (by rw [str_size]; simp only [maxLen]; omega)
theorem keyLit_ne {a b : List Int} (ha : IsB a) (hb : IsB b) (h : a ≠ b) : keyLit a ≠ keyLit b := by
  intro e
  apply h
  have he := str_eq ha hb
  have : (str a).toList = (str b).toList := by
    rw [ByteArray.toList_eq, ByteArray.toList_eq]
    unfold keyLit at e
    exact Lit.string.inj e
  rw [this] at he
  simpa using he.symm
/-- The map holds that; its values lie in R. -/
def MapIs (w : World) (bm : Nat) (R : Nat → Prop) (n : Nat) (M : Sto.Mp) : Prop := ∃ D, w.ownsMap Try.prog 9 Rv bm n D ∧ ∀ k : List Int, IsB k → match Sto.look M k with
  | none => Maps.has D (keyLit k) = false
  | some val => Maps.has D (keyLit k) = true ∧ ∃ v, D.atKey (keyLit k) (.held (.slice none 0 0)) = .held v ∧ OwnRow w R 5 1 v val.length (Disk.bytes8 val) ∧ val.length ≤ 1000000
set_option maxHeartbeats 1600000 in
set_option maxRecDepth 100000 in
theorem cost_c {w : World} {x bm n : Nat} {R : Nat → Prop} {M : Sto.Mp} (c3 : w.cell? ⟨x, 3, none⟩ = some (.map (some bm))) (hm : MapIs w bm R n M) (k : List Int) (hB : IsB k) (hl : k.length ≤ 1000000) : Calls Try.prog 53 #[.pointer (some ⟨x, 0, none⟩), .string (str k)] w (Rets (Only (.int .i64 (Sto.costF M k)) w)) := by
  obtain ⟨D, hown, hin⟩ := hm
  have hs := str_size k
  obtain ⟨v, ps, hrun, hv⟩ := hown.look_ok strLaw Try.underlying80 (zeroE w) (show Rv (.slice none 0 0) = some (.held (.slice none 0 0), []) from rfl) (keyLit_of k hl)
  have hk := hin k hB
  have HC := Lib.hid (show Sto.costF M k = match Sto.look M k with | none => 0 | some v => (k.length : Int) + v.length from rfl)
  generalize str k = s at *
  cases hL : Sto.look M k with
  | none =>
    rw [hL] at hk HC
    simp only at hk HC
    rw [hk] at hrun
    clear hown hin hv hL
    go_enter Try.func53, Try.ntmps53
    go_wp2
    go_ret
    exact ⟨by rw [HC.out] <;> rfl, rfl⟩
  | some val =>
    rw [hL] at hk HC
    simp only at hk HC
    obtain ⟨h1, u, h2, hO, hc3⟩ := hk
    rw [h1] at hrun
    rw [h2] at hv
    obtain rfl : v = u := by
      simp only [Rv, Option.some.injEq, Prod.mk.injEq, DataW.held.injEq] at hv
      exact hv.1
    obtain ⟨A, c, rfl, hc1, hc2, _⟩ := hO.slice
    clear hown hin hv hL hO h2
    go_enter Try.func53, Try.ntmps53
    go_wp2
    go_ret
    exact ⟨by rw [HC.out] <;> rfl, rfl⟩
end Go.Proofs.Ytbiohidelhfaiaa
end

section
namespace Go.Proofs.Ytbiohidelhfaiaa
open Go.RowKit Go.Canon Go.Mem Go.ChangeMaps Go.MapKept
open Go.Proofs.Ytbiohidelhfaiaa.Sto (Chg)
set_option linter.unusedVariables false
set_option linter.unusedSimpArgs false
namespace Sto
/-- A change is done: what is held, what is used. -/
def step (s : Mp × Int) (c : Chg) : Mp × Int := (do1 s.1 c, s.2 - costF s.1 c.key + costF (do1 s.1 c) c.key)
def doF (s : Mp × Int) (l : List Chg) : Mp × Int := l.foldl step s
theorem doF_next (s : Mp × Int) {l : List Chg} {k : Nat} (h : k < l.length) : doF s (l.take (k + 1)) = step (doF s (l.take k)) l[k] := by
  unfold doF
  rw [List.take_add_one, List.getElem?_eq_getElem h, List.foldl_append]; rfl
end Sto
theorem MapIs.kept {w w' : World} {bm n : Nat} {R S : Nat → Prop} {M : Sto.Mp} (h : MapIs w bm R n M) (hk : Keeps S w w') (hb : ¬ S bm) (hR : ∀ j, R j → ¬ S j) : MapIs w' bm R n M := by
  obtain ⟨D, ⟨es, clock, h1, h2⟩, hin⟩ := h
  refine ⟨D, ⟨es, clock, hk.heap h1 hb, h2⟩, fun k hB => ?_⟩
  have := hin k hB
  cases hL : Sto.look M k with
  | none => rw [hL] at this; exact this
  | some val =>
    rw [hL] at this
    obtain ⟨a, v, b, hO, c⟩ := this
    exact ⟨a, v, b, hO.kept hk hR, c⟩
theorem MapIs.mono {w : World} {bm n n' : Nat} {R R' : Nat → Prop} {M : Sto.Mp} (h : MapIs w bm R n M) (hn : n ≤ n') (hR : ∀ j, j < w.heap.size → R j → R' j) : MapIs w bm R' n' M := by
  obtain ⟨D, h1, hin⟩ := h
  refine ⟨D, h1.mono hn, fun k hB => ?_⟩
  have := hin k hB
  cases hL : Sto.look M k with
  | none => rw [hL] at this; exact this
  | some val =>
    rw [hL] at this
    obtain ⟨a, v, b, hO, c⟩ := this
    exact ⟨a, v, b, hO.mono hR, c⟩
theorem MapIs.lt {w : World} {bm n : Nat} {R : Nat → Prop} {M : Sto.Mp} (h : MapIs w bm R n M) : bm < w.heap.size := by
  obtain ⟨D, h1, _⟩ := h
  exact h1.lt
theorem MapIs.cost {w : World} {bm n : Nat} {R : Nat → Prop} {M : Sto.Mp} (h : MapIs w bm R n M) {k : List Int} (hB : IsB k) (hl : k.length ≤ 1000000) : 0 ≤ Sto.costF M k ∧ Sto.costF M k ≤ 2000000 := by
  obtain ⟨D, h1, hin⟩ := h
  have := hin k hB
  unfold Sto.costF
  cases hL : Sto.look M k with
  | none => simp
  | some val =>
    rw [hL] at this
    obtain ⟨a, v, b, hO, c⟩ := this
    simp only
    omega
theorem turned_keeps {w w' : World} {b : Nat} (h : w.mapTurned w' b) : Keeps (· = b) w w' ∧ w'.heap.size = w.heap.size := by
  have h2 := h.grown
  obtain ⟨es, clock, es', clock', hb, rfl⟩ := h
  exact ⟨⟨rfl, rfl, rfl, by simp [setBlock], fun k _ hn => heap_setBlock_other hb _ hn⟩, by simp [setBlock]⟩
section
variable {ops : Array Oper} {op : Oper} {rest : List Oper} {a : Act} {w : World} {Q : Exit → Act → World → Prop}
/-- For arms of a walk: at delete, at m[k] = v. -/
theorem at_del (m x : Operand) (_ : op.op = Op.call { callee := Callee.builtin Builtin.delete, args := #[m, x], argTypes := #[80, 9] }) (k : wpList Try.prog ops Q (op :: rest) a w) : wpList Try.prog ops Q (op :: rest) a w := k
theorem at_put (m x y : Operand) (_ : op.op = Op.mapUpdate 80 m x y) (k : wpList Try.prog ops Q (op :: rest) a w) : wpList Try.prog ops Q (op :: rest) a w := k
/-- m[k] = v. -/
theorem step_put {R R2 : Nat → Prop} (hgd : Region.wanted op (yielded ops a.tmps) = true) (m x y : Operand) (ho : op.op = Op.mapUpdate 80 m x y) (bm n : Nat) (M : Sto.Mp) (hm : a.eval m = .map (some bm)) (h : MapIs w bm R n M) (hR : ¬ R bm) (hn : n < 1000000000)
    (s : ByteArray) (k : List Int) (hx : a.eval x = .string s) (hs : s = str k) (hB : IsB k) (hl : k.length ≤ 1000000) (v : Value) (val : List Int) (hy : a.eval y = v) (hO : OwnRow w R2 5 1 v val.length (Disk.bytes8 val)) (hR2 : ¬ R2 bm) (hv : val.length ≤ 1000000)
    (hK : ∀ w', MapIs w' bm (fun j => R j ∨ R2 j) (n + 1) (Sto.put M k val) → Keeps (· = bm) w w' → w'.heap.size = w.heap.size → wpList Try.prog ops Q rest (a.put op.dst undef) w') : wpList Try.prog ops Q (op :: rest) a w := by
  subst hs
  refine plain_ hgd fun K' hK' => ?_
  obtain ⟨D, hown, hin⟩ := h
  obtain ⟨w', hrun, r1, r2⟩ := hown.store strLaw Try.underlying80 (by simp only [maxLen]; omega) (keyLit_of k hl) (show Rv v = some (.held v, []) from rfl)
  obtain ⟨k1, k2⟩ := turned_keeps r2
  unfold Oper.wp execOp
  simp only [ho, hm, hx, hy, Sem.run_bind, hrun, Result.andThen_ok, Sem.run_pure]
  refine hK' _ _ (hK w' ⟨_, r1, fun q hq => ?_⟩ k1 k2)
  by_cases e : q = k
  · subst e
    rw [Sto.look_put]
    exact ⟨Maps.has_put_same hown.isMap (show WideAt.IsKeyLit (keyLit q) from by simp [keyLit, WideAt.IsKeyLit]) _, v, Maps.atKey_put_same hown.isMap (show WideAt.IsKeyLit (keyLit q) from by simp [keyLit, WideAt.IsKeyLit]) _ _, (hO.kept k1 (fun j hj e => hR2 (e ▸ hj))).mono (fun _ _ h => .inr h), hv⟩
  · rw [Sto.look_put_other M val e]
    have hne := keyLit_ne hq hB e
    have := hin q hq
    rw [Maps.has_put_other hne, Maps.atKey_put_other hne]
    cases hL : Sto.look M q with
    | none => rw [hL] at this; exact this
    | some u =>
      rw [hL] at this
      obtain ⟨h1, u2, h2, h3, h4⟩ := this
      exact ⟨h1, u2, h2, (h3.kept k1 (fun j hj e => hR (e ▸ hj))).mono (fun _ _ h => .inl h), h4⟩
/-- delete(m, k). -/
theorem step_del {R : Nat → Prop} (hgd : Region.wanted op (yielded ops a.tmps) = true) (m x : Operand) (ho : op.op = Op.call { callee := Callee.builtin Builtin.delete, args := #[m, x], argTypes := #[80, 9] }) (bm n : Nat) (M : Sto.Mp) (hm : a.eval m = .map (some bm)) (h : MapIs w bm R n M) (hR : ¬ R bm)
    (s : ByteArray) (k : List Int) (hx : a.eval x = .string s) (hs : s = str k) (hB : IsB k) (hl : k.length ≤ 1000000)
    (hK : ∀ w', MapIs w' bm R n (Sto.del M k) → Keeps (· = bm) w w' → w'.heap.size = w.heap.size → wpList Try.prog ops Q rest (a.put op.dst (.tuple #[])) w') : wpList Try.prog ops Q (op :: rest) a w := by
  subst hs
  refine plain_ hgd fun K' hK' => ?_
  obtain ⟨D, hown, hin⟩ := h
  obtain ⟨w', hrun, r1, r2⟩ := hown.drop strLaw Try.underlying80 (keyLit_of k hl) op.type
  obtain ⟨k1, k2⟩ := turned_keeps r2
  unfold Oper.wp execOp
  simp [ho, resolve, invoke, builtin, hm, hx, hrun, Result.andThen]
  refine hK' _ _ (hK w' ⟨_, r1, fun q hq => ?_⟩ k1 k2)
  by_cases e : q = k
  · subst e
    rw [Sto.look_del]
    exact Maps.has_del_same
  · rw [Sto.look_del_other M e]
    have hne := keyLit_ne hq hB e
    have := hin q hq
    rw [Maps.has_del_other hne, Maps.atKey_del_other hne]
    cases hL : Sto.look M q with
    | none => rw [hL] at this; exact this
    | some u =>
      rw [hL] at this
      obtain ⟨h1, u2, h2, h3, h4⟩ := this
      exact ⟨h1, u2, h2, h3.kept k1 (fun j hj e => hR (e ▸ hj)), h4⟩
end
/-! ### a store in memory -/
def stoC (lv : Value) (q u : Int) (bm : Nat) : List Value := [lv, .int .i64 q, .int .i64 u, .map (some bm)]
/-- A store lies in block x, its map in bm, the values in R. -/
structure SIs (w : World) (x bm : Nat) (R : Nat → Prop) (lv : Value) (q : Int) (n : Nat) (s : Sto.Mp × Int) : Prop where
  blk : w.heap[x]? = some (.cells (stoC lv q s.2 bm).toArray 82 (0, 0))
  map : MapIs w bm R n s.1
  r1 : ¬ R x
  r2 : ¬ R bm
  ne : x ≠ bm
theorem SIs.kept {w w' : World} {x bm n : Nat} {R S : Nat → Prop} {lv : Value} {q : Int} {s : Sto.Mp × Int} (h : SIs w x bm R lv q n s) (hk : Keeps S w w') (hx : ¬ S x) (hb : ¬ S bm) (hR : ∀ j, R j → ¬ S j) : SIs w' x bm R lv q n s :=
  ⟨hk.heap h.blk hx, h.map.kept hk hb hR, h.r1, h.r2, h.ne⟩
theorem SIs.kept0 {w w' : World} {x bm n : Nat} {R : Nat → Prop} {lv : Value} {q : Int} {s : Sto.Mp × Int} (h : SIs w x bm R lv q n s) (hk : Keeps (fun _ => False) w w') : SIs w' x bm R lv q n s := h.kept hk (fun h => h) (fun h => h) (fun _ _ h => h)
theorem SIs.lt {w : World} {x bm n : Nat} {R : Nat → Prop} {lv : Value} {q : Int} {s : Sto.Mp × Int} (h : SIs w x bm R lv q n s) : x < w.heap.size ∧ bm < w.heap.size := ⟨lt_of h.blk, h.map.lt⟩
theorem SIs.c2 {w : World} {x bm n : Nat} {R : Nat → Prop} {lv : Value} {q : Int} {s : Sto.Mp × Int} (h : SIs w x bm R lv q n s) : w.cell? ⟨x, 2, none⟩ = some (.int .i64 s.2) := (cell_of_row w _ 2 _ _ _ h.blk).trans rfl
theorem SIs.c3 {w : World} {x bm n : Nat} {R : Nat → Prop} {lv : Value} {q : Int} {s : Sto.Mp × Int} (h : SIs w x bm R lv q n s) : w.cell? ⟨x, 3, none⟩ = some (.map (some bm)) := (cell_of_row w _ 3 _ _ _ h.blk).trans rfl
theorem SIs.setU {w w' : World} {x bm n : Nat} {R : Nat → Prop} {lv : Value} {q u : Int} {s : Sto.Mp × Int} (h : SIs w x bm R lv q n s) (hk : Keeps (· = x) w w') (hb : w'.heap[x]? = some (.cells ((stoC lv q s.2 bm).set 2 (.int .i64 u)).toArray 82 (0, 0))) : SIs w' x bm R lv q n (s.1, u) :=
  ⟨hb, h.map.kept hk (fun e => h.ne e.symm) (fun j hj e => h.r1 (e ▸ hj)), h.r1, h.r2, h.ne⟩
theorem info_int11 : (Try.prog.info? 3).map (·.size) = some 1 := by kernel_rfl
end Go.Proofs.Ytbiohidelhfaiaa
end

section
namespace Go.Proofs.Ytbiohidelhfaiaa
open Go.RowKit Go.Canon Go.Mem
set_option linter.unusedVariables false
set_option linter.unusedSimpArgs false
set_option maxHeartbeats 800000 in
set_option maxRecDepth 100000 in
theorem clone_c {ok : Nat → Prop} {w : World} (v : Value) (xs : List Int) (hr : Rd w ok v xs.length (Disk.bytes8 xs)) (hl : xs.length ≤ 140737488355328) : Calls Try.prog 64 #[v] w (Rets (NewRow 5 1 xs.length (Disk.bytes8 xs) w)) := by
  obtain ⟨A, c, rfl, hc, hz⟩ := hr.slice
  cases A with
  | none =>
    obtain ⟨e1, rfl⟩ := hz rfl
    obtain rfl := List.eq_nil_of_length_eq_zero e1
    clear hr hz e1 hc
    have he : ∀ w : World, (binOp .eql 23 (.slice none 0 0) (.slice none 0 0)).run Try.prog w = .ok (.bool true) w := fun _ => rfl
    go_enter Try.func64, Try.ntmps64
    go_wp2
    go_ret
    exact ⟨OwnRow.nil _ _ _ _, Keeps.refl _ _⟩
  | some a =>
    obtain ⟨w1, hw1⟩ : ∃ w1, w1 = w.alloc (.cells #[] 5) := ⟨_, rfl⟩
    have hk1 : Keeps (fun _ => False) w w1 := by rw [hw1]; exact (Keeps.refl _ w).alloc _
    have hb1 : w1.heap[w.heap.size]? = some (.cells #[] 5 (0, 0)) := by rw [hw1]; exact heap_alloc_new w _
    have hO1 : OwnRow w1 (fun k => w.heap.size ≤ k) 5 1 (.slice (some ⟨w.heap.size, 0, none⟩) 0 0) 0 [] := ⟨⟨rfl, .inr ⟨w.heap.size, 0, #[], rfl, Nat.zero_le _, hb1, Nat.le_refl _, by unfold maxLen; omega, rfl, rfl⟩⟩, fun k hk => by simp only [Value.ownBlock, Option.some.injEq] at hk; omega⟩
    have HR := Lib.hid (hr.kept hk1 (fun _ _ h => h))
    have HW := Lib.hid hw1
    have HO1 := Lib.hid hO1
    clear hr hw1 hb1 hz hO1
    have he : ∀ w : World, (binOp .eql 23 (.slice (some a) xs.length c) (.slice none 0 0)).run Try.prog w = .ok (.bool false) w := fun _ => rfl
    go_enter Try.func64, Try.ntmps64
    go_wp2_with ((with_reducible refine at_ 7 rfl ?_); go_must (rw [← HW.out]; refine step_append_rd rfl _ _ _ rfl 5 _ 1 1 Try.underlying23 row_byte rfl (by decide) (.slice (some ⟨w.heap.size, 0, none⟩) 0 0) 0 [] rfl HO1.out _ xs.length (Disk.bytes8 xs) rfl HR.out (by rw [Disk.bytes8_len, Nat.mul_one]) (Disk.bytes8_one xs) (by simp only [maxLen]; omega) (by omega) ?_); intro v2 w2 hO2 hk2)
    go_ret
    rw [Nat.zero_add, List.nil_append] at hO2
    exact ⟨hO2.mono (fun k _ h => by have := hk1.size; omega), hk1.trans hk2 (fun k hk h => by simp only [Value.ownBlock, Option.some.injEq] at h; omega)⟩
end Go.Proofs.Ytbiohidelhfaiaa
end

section
namespace Go.Proofs.Ytbiohidelhfaiaa
open Go.RowKit Go.Canon Go.Mem
open Go.Proofs.Ytbiohidelhfaiaa.Sto (Chg)
set_option linter.unusedVariables false
set_option linter.unusedSimpArgs false
def DoPost (w : World) (x bm : Nat) (R : Nat → Prop) (lv : Value) (q : Int) (n : Nat) (s : Sto.Mp × Int) : Value → World → Prop := fun v w' => v = .tuple #[] ∧ Keeps (fun j => j = x ∨ j = bm) w w' ∧ SIs w' x bm (fun j => R j ∨ w.heap.size ≤ j) lv q n s
set_option maxHeartbeats 12800000 in
set_option maxRecDepth 100000 in
theorem do_b {w : World} {ok R : Nat → Prop} {x bm n : Nat} {lv : Value} {q : Int} {s : Sto.Mp × Int} (hS : SIs w x bm R lv q n s) (hR : ∀ j, R j → j < w.heap.size) (l : List Chg) (hB : ChgB l) (hl : l.length ≤ 1000000) (hn : n ≤ 1000000) (hu : -1000000000000000 ≤ s.2 ∧ s.2 ≤ 1000000000000000) (v : Value) (h : Chgs w ok v l) (hok : ∀ j, ok j → j < w.heap.size ∧ j ≠ x ∧ j ≠ bm) :
    Calls Try.prog 52 #[.pointer (some ⟨x, 0, none⟩), v] w (Rets fun v w' => DoPost w x bm R lv q (n + l.length) (Sto.doF s l) v w' ∧ s.2 - 4000000 * l.length ≤ (Sto.doF s l).2 ∧ (Sto.doF s l).2 ≤ s.2 + 4000000 * l.length) := by
  obtain ⟨A, c, rfl, hlc, _, _⟩ := id h
  have H := Lib.hid h
  have HB := Lib.hid hB
  have HS0 := Lib.hid hS
  have HR := Lib.hid hR
  obtain ⟨hx, hbm⟩ := hS.lt
  have hne := hS.ne
  clear h hB hS hR
  go_enter Try.func52, Try.ntmps52
  go_wp2
  go_loopw [8] (fun i wr => ∃ k : Nat, k ≤ l.length ∧ i = .int .i64 k ∧ Keeps (fun j => j = x ∨ j = bm) w wr ∧ SIs wr x bm (fun j => R j ∨ w.heap.size ≤ j) lv q (n + k) (Sto.doF s (l.take k)) ∧ s.2 - 4000000 * k ≤ (Sto.doF s (l.take k)).2 ∧ (Sto.doF s (l.take k)).2 ≤ s.2 + 4000000 * k) (fun i _ => l.length - (intOf i).toNat)
  case atStart => exact ⟨0, Nat.zero_le _, rfl, Keeps.refl _ _, ⟨HS0.out.blk, HS0.out.map.mono (Nat.le_refl _) (fun _ _ h => .inl h), fun h => h.elim HS0.out.r1 (fun h => by omega), fun h => h.elim HS0.out.r2 (fun h => by omega), hne⟩, by simp [Sto.doF], by simp [Sto.doF]⟩
  case round =>
    obtain ⟨k, hk, rfl, hkr, hSr, hu1, hu2⟩ := hrel
    have hwr := hkr.size
    by_cases hlt : k < l.length
    · obtain ⟨A', c', e, _, _, hin⟩ := H.out
      cases e
      obtain ⟨b, o, e, hb, vV, c0, c1, c2, hrV⟩ := hin k _ (List.getElem?_eq_getElem hlt)
      cases e
      obtain ⟨Av, cv, rfl, _⟩ := hrV.slice
      obtain ⟨hb1, hb2, hb3, hb4⟩ := HB.out _ (List.getElem_mem hlt)
      obtain ⟨hbw, hbx, hbb⟩ := hok b hb
      have HNX := Lib.hid (Sto.doF_next s hlt)
      have c0 := hkr.cell c0 (fun h => h.elim hbx hbb)
      have c1 := hkr.cell c1 (fun h => h.elim hbx hbb)
      have c2 := hkr.cell c2 (fun h => h.elim hbx hbb)
      have hrV' := (hrV.lt.mono (ok' := fun j => j < w.heap.size ∧ j ≠ x ∧ j ≠ bm) (fun j h => hok j h.1)).kept hkr (fun j h h' => h'.elim h.2.1 h.2.2)
      have hcs := hSr.map.cost hb1 hb3
      have HKy := Lib.hid hb1
      have HKr := Lib.hid hkr
      have hur1 : -1004000000000000 ≤ (Sto.doF s (l.take k)).2 := by omega
      have hur2 : (Sto.doF s (l.take k)).2 ≤ 1004000000000000 := by omega
      generalize Sto.doF s (l.take k) = s1 at *
      obtain ⟨M, u⟩ := s1
      generalize l[k] = d at *
      obtain ⟨key, del, val⟩ := d
      simp only at c0 c1 c2 hb1 hb2 hb3 hb4 hrV' hcs hur1 hur2 HKy hSr hu1 hu2
      have zk := str_size key
      have HCst := Lib.hid (fun (w : World) (R : Nat → Prop) (n : Nat) (h : SIs w x bm R lv q n (M, u)) => cost_c h.c3 h.map key hb1 hb3)
      obtain ⟨sk, hsk⟩ : ∃ s, s = str key := ⟨_, rfl⟩
      have HSk := Lib.hid hsk
      rw [← hsk] at c0 zk HCst
      have HSr := Lib.hid hSr
      have HRV := Lib.hid hrV'
      have HU1 := Lib.hid hu1
      have HU2 := Lib.hid hu2
      clear hin hrV hsk hkr hb1 hb2 hSr hrV' hu1 hu2
      go_wp2_with (first
        | ((with_reducible refine at_ 5 rfl ?_); go_must (refine step_alloc rfl _ rfl _ chgZ row_chg rfl ?_); intro w3 hb3' hk3 hs3)
        | ((with_reducible refine at_store 41 (.tmp 5) (.tmp 11) rfl ?_); go_must (refine step_store rfl _ _ _ rfl wr.heap.size 0 [.string sk, .bool del, .slice Av val.length cv] _ _ rfl rfl hb3' (by simp [chgZ]) info_chg (by simp [Value.oneCell']) ?_); intro w4 hb4' hk4 hs4; rw [put_whole (by rfl)] at hb4'))
      have KS := (((Keeps.refl (fun _ => False) wr).trans hk3 (fun _ _ h => h) |>.mono (S' := fun j => wr.heap.size ≤ j) (fun _ _ h => h.elim)).trans hk4 (fun j _ h => by omega) |>.mono (S' := fun _ => False) (fun j hj h => by omega))
      have KD := KS.drew
      have HKd := Lib.hid (HKr.out.trans KD (fun _ _ h => h.elim))
      have HSd := Lib.hid (HSr.out.kept0 KD)
      have HRVd := Lib.hid (HRV.out.kept KD (fun _ _ h => h))
      have HBd : Hid (w4.drew.heap[wr.heap.size]? = some (.cells [Value.string sk, .bool del, .slice Av val.length cv].toArray 41 (0, 0))) := Lib.hid hb4'
      have hzd : wr.heap.size < w4.drew.heap.size := by show wr.heap.size < w4.heap.size; omega
      refine Canon.region [7] [(⟨x, 2, none⟩, .int .i64 u)] [(3, 0)] (.hold [0, 1, 2, 4, 5, 6, 3] (.loud 7 (.seg [8, 9, 10, 11] .stop))) (by kernel_rfl) (by kernel_rfl) (by repeat (first | (with_reducible exact Safe.body) | (with_reducible apply Safe.then) | (with_reducible apply Safe.inBlock) | (dsimp +zetaDelta only))) ?_
      simp only [Canon.pick, Canon.wpPlan, List.getElem?_toArray, List.getElem?_cons_zero, List.getElem?_cons_succ]
      generalize w4.drew = wd at *
      clear hb3' hb4' hk3 hk4 hs3 hs4 KS KD c0 c1 c2
      generalize wr.heap.size = B at *
      have HLx := Lib.hid (fun (y : World) (u : Int) (h : SIs y x bm (fun j => R j ∨ w.heap.size ≤ j) lv q (n + k) (M, u)) => (by
        intro p hp
        rw [List.mem_singleton] at hp
        subst hp
        exact h.c2 : Cells [(⟨x, 2, none⟩, Value.int .i64 u)] y))
      have e0 : wd.cell? ⟨B, 0, none⟩ = some (.string sk) := cell_of_row wd _ 0 _ _ _ HBd.out
      have e2 : wd.cell? ⟨x, 2, none⟩ = some (.int .i64 u) := HSd.out.c2
      refine ⟨HLx.out _ _ HSd.out, ?_⟩
      go_wp2_with (go_at_call 53; refine Rets.use (HCst.out _ _ _ HSd.out) ?_; rintro _ _ ⟨rfl, rfl⟩)
      refine ⟨HLx.out _ _ HSd.out, ?_⟩
      go_wp2_with ((with_reducible refine at_store 3 (.tmp 22) (.tmp 20) rfl ?_); go_must (refine step_store1 rfl _ _ _ rfl x 2 (.int .i64 (u - Sto.costF M key)) _ _ rfl rfl rfl HSd.out.blk (by simp [stoC]) info_int11 ?_); intro w5 hb5 hk5 hs5)
      refine ⟨by rfl, ⟨fun _ => rfl, trivial⟩, ?_⟩
      have hS5 := HSd.out.setU hk5 hb5
      have hB5 := hk5.heap HBd.out (fun e => by omega)
      have hK5 := HKd.out.trans (hk5.mono (S' := fun j => j = x ∨ j = bm) (fun j _ h => .inl h)) (fun _ _ h => h)
      have hRV5 := HRVd.out.kept hk5 (fun j h e => h.2.1 e)
      clear hb5 hk5 e0 e2
      have c1 : w5.cell? ⟨B, 1, none⟩ = some (.bool del) := cell_of_row w5 _ 1 _ _ _ hB5
      have HS5 := Lib.hid hS5
      have HB5 := Lib.hid hB5
      have HK5 := Lib.hid hK5
      have HRV5 := Lib.hid hRV5
      have hz5 : B < w5.heap.size := by omega
      clear hS5 hB5 hK5 hRV5
      cases del with
      | true =>
        go_wp2
        have KD : Keeps (fun _ => False) w5 w5.drew := (Keeps.refl _ w5).drew
        have HS6 := Lib.hid (HS5.out.kept0 KD)
        have HB6 := Lib.hid (KD.heap HB5.out (fun h => h))
        have HK6 := Lib.hid (HK5.out.trans KD (fun _ _ h => h.elim))
        have hz6 : B < w5.drew.heap.size := hz5
        refine Canon.row [0, 1, 2, 4, 3, 5, 6] (by kernel_rfl) (by kernel_rfl) (by repeat (first | (with_reducible exact Safe.body) | (with_reducible apply Safe.then) | (with_reducible apply Safe.inBlock) | (dsimp +zetaDelta only))) ?_
        simp only [Canon.pick, Canon.wpPlan, List.getElem?_toArray, List.getElem?_cons_zero, List.getElem?_cons_succ]
        generalize w5.drew = we at *
        have e0 : we.cell? ⟨B, 0, none⟩ = some (.string sk) := cell_of_row we _ 0 _ _ _ HB6.out
        have e3 : we.cell? ⟨x, 3, none⟩ = some (.map (some bm)) := HS6.out.c3
        clear KD c1
        go_wp2_with ((with_reducible refine at_del (.tmp 28) (.tmp 30) (by with_reducible rfl) ?_); go_loud (refine step_del rfl _ _ rfl bm (n + k) M rfl HS6.out.map HS6.out.r2 sk key rfl HSk.out HKy.out hb3 ?_); intro w7 hM7 hk7 hs7)
        refine ⟨by rfl, trivial, ?_⟩
        have HS7 := Lib.hid (show SIs w7 x bm (fun j => R j ∨ w.heap.size ≤ j) lv q (n + k) (Sto.del M key, u - Sto.costF M key) from ⟨hk7.heap HS6.out.blk (fun e => hne e), hM7, HS6.out.r1, HS6.out.r2, hne⟩)
        have HB7 := Lib.hid (hk7.heap HB6.out (fun e => by omega))
        have HK7 := Lib.hid (HK6.out.trans (hk7.mono (S' := fun j => j = x ∨ j = bm) (fun j _ h => .inr h)) (fun _ _ h => h))
        have hz7 : B < w7.heap.size := by omega
        clear hM7 hk7 e0 e3
        go_wp2
        have KD : Keeps (fun _ => False) w7 w7.drew := (Keeps.refl _ w7).drew
        have HS8 := Lib.hid (HS7.out.kept0 KD)
        have HB8 := Lib.hid (KD.heap HB7.out (fun h => h))
        have HK8 := Lib.hid (HK7.out.trans KD (fun _ _ h => h.elim))
        refine Canon.region [7] [(⟨x, 2, none⟩, .int .i64 (u - Sto.costF M key))] [(3, 0)] (.hold [0, 1, 2, 4, 5, 6, 3] (.loud 7 (.seg [8, 9, 10, 11] .stop))) (by kernel_rfl) (by kernel_rfl) (by repeat (first | (with_reducible exact Safe.body) | (with_reducible apply Safe.then) | (with_reducible apply Safe.inBlock) | (dsimp +zetaDelta only))) ?_
        simp only [Canon.pick, Canon.wpPlan, List.getElem?_toArray, List.getElem?_cons_zero, List.getElem?_cons_succ]
        generalize w7.drew = wf at *
        have hcs2 := HS8.out.map.cost HKy.out hb3
        have HC2 := Lib.hid (cost_c HS8.out.c3 HS8.out.map key HKy.out hb3)
        rw [← HSk.out] at HC2
        have HLy := Lib.hid (fun (y : World) (h : y.cell? ⟨x, 2, none⟩ = some (Value.int .i64 (u - Sto.costF M key))) => (by
          intro p hp
          rw [List.mem_singleton] at hp
          subst hp
          exact h : Cells [(⟨x, 2, none⟩, Value.int .i64 (u - Sto.costF M key))] y))
        have e0 : wf.cell? ⟨B, 0, none⟩ = some (.string sk) := cell_of_row wf _ 0 _ _ _ HB8.out
        have e2 : wf.cell? ⟨x, 2, none⟩ = some (.int .i64 (u - Sto.costF M key)) := HS8.out.c2
        clear KD
        refine ⟨HLy.out _ HS8.out.c2, ?_⟩
        go_wp2_with (go_at_call 53; refine Rets.use HC2.out ?_; rintro _ _ ⟨rfl, rfl⟩)
        refine ⟨HLy.out _ HS8.out.c2, ?_⟩
        go_wp2_with ((with_reducible refine at_store 3 (.tmp 50) (.tmp 48) rfl ?_); go_must (refine step_store1 rfl _ _ _ rfl x 2 (.int .i64 (u - Sto.costF M key + Sto.costF (Sto.del M key) key)) _ _ rfl rfl rfl HS8.out.blk (by simp [stoC]) info_int11 ?_); intro w9 hb9 hk9 hs9)
        refine ⟨by rfl, ⟨fun _ => rfl, trivial⟩, ?_⟩
        have HS9 := Lib.hid (HS8.out.setU hk9 hb9)
        have HK9 := Lib.hid (HK8.out.trans (hk9.mono (S' := fun j => j = x ∨ j = bm) (fun j _ h => .inl h)) (fun _ _ h => h))
        clear hb9 hk9 e0 e2
        go_wp2
        go_roundw
        case rel => exact ⟨k + 1, hlt, by go_num, HK9.out, by rw [HNX.out]; exact ⟨HS9.out.blk, HS9.out.map.mono (by omega) (fun _ _ h => h), HS9.out.r1, HS9.out.r2, hne⟩, by rw [HNX.out]; have := HU1.out; simp only [Sto.step, Sto.do1, if_true]; omega, by rw [HNX.out]; have := HU2.out; simp only [Sto.step, Sto.do1, if_true]; omega⟩
        case measure => simp [intOf]; omega
      | false =>
        go_wp2
        have KD : Keeps (fun _ => False) w5 w5.drew := (Keeps.refl _ w5).drew
        have HS6 := Lib.hid (HS5.out.kept0 KD)
        have HB6 := Lib.hid (KD.heap HB5.out (fun h => h))
        have HK6 := Lib.hid (HK5.out.trans KD (fun _ _ h => h.elim))
        have HRV6 := Lib.hid (HRV5.out.kept KD (fun _ _ h => h))
        have hz6 : B < w5.drew.heap.size := hz5
        refine Canon.region [8] [(⟨x, 3, none⟩, .map (some bm)), (⟨B, 0, none⟩, .string sk)] [(3, 0), (5, 1)] (.hold [0, 1, 2, 4, 6, 7, 3, 5] (.loud 8 (.seg [9] .stop))) (by kernel_rfl) (by kernel_rfl) (by repeat (first | (with_reducible exact Safe.body) | (with_reducible apply Safe.then) | (with_reducible apply Safe.inBlock) | (dsimp +zetaDelta only))) ?_
        simp only [Canon.pick, Canon.wpPlan, List.getElem?_toArray, List.getElem?_cons_zero, List.getElem?_cons_succ]
        generalize w5.drew = we at *
        have e0 : we.cell? ⟨B, 0, none⟩ = some (.string sk) := cell_of_row we _ 0 _ _ _ HB6.out
        have e2 : we.cell? ⟨B, 2, none⟩ = some (.slice Av val.length cv) := cell_of_row we _ 2 _ _ _ HB6.out
        have e3 : we.cell? ⟨x, 3, none⟩ = some (.map (some bm)) := HS6.out.c3
        have HLz := Lib.hid (fun (y : World) (h1 : y.cell? ⟨x, 3, none⟩ = some (Value.map (some bm))) (h2 : y.cell? ⟨B, 0, none⟩ = some (Value.string sk)) => (by
          intro p hp
          rw [List.mem_cons, List.mem_singleton] at hp
          rcases hp with rfl | rfl
          · exact h1
          · exact h2 : Cells [(⟨x, 3, none⟩, Value.map (some bm)), (⟨B, 0, none⟩, Value.string sk)] y))
        have HCl := Lib.hid (clone_c _ val HRV6.out (by omega))
        clear KD c1
        refine ⟨HLz.out _ e3 e0, ?_⟩
        go_wp2_with (go_at_call 64; refine Rets.use HCl.out ?_; rintro v6 w6 hO6)
        have HS6' := Lib.hid (HS6.out.kept0 hO6.2)
        have HB6' := Lib.hid (hO6.2.heap HB6.out (fun h => h))
        have HK6' := Lib.hid (HK6.out.trans hO6.2 (fun _ _ h => h.elim))
        have HO6 := Lib.hid hO6.1
        have hz6' := hO6.2.size
        have f0 : w6.cell? ⟨B, 0, none⟩ = some (.string sk) := cell_of_row w6 _ 0 _ _ _ HB6'.out
        have f3 : w6.cell? ⟨x, 3, none⟩ = some (.map (some bm)) := HS6'.out.c3
        clear hO6 e0 e2 e3
        refine ⟨HLz.out _ f3 f0, ?_⟩
        have hwz : w.heap.size ≤ we.heap.size := HK6.out.size
        go_wp2_with (at_mapUpdate; go_loud (refine step_put (R2 := fun j => we.heap.size ≤ j) rfl _ _ _ rfl bm (n + k) M rfl HS6'.out.map HS6'.out.r2 (by omega) sk key rfl HSk.out HKy.out hb3 v6 val rfl HO6.out (by omega) hb4 ?_); intro w7 hM7 hk7 hs7)
        refine ⟨by rfl, ⟨fun _ => rfl, fun _ => rfl, trivial⟩, ?_⟩
        have HS7 := Lib.hid (show SIs w7 x bm (fun j => R j ∨ w.heap.size ≤ j) lv q (n + k + 1) (Sto.put M key val, u - Sto.costF M key) from ⟨hk7.heap HS6'.out.blk (fun e => hne e), hM7.mono (Nat.le_refl _) (fun j _ h => h.elim (fun h => h) (fun h => .inr (by omega))), HS6'.out.r1, HS6'.out.r2, hne⟩)
        have HB7 := Lib.hid (hk7.heap HB6'.out (fun e => by omega))
        have HK7 := Lib.hid (HK6'.out.trans (hk7.mono (S' := fun j => j = x ∨ j = bm) (fun j _ h => .inr h)) (fun _ _ h => h))
        have hz7 : B < w7.heap.size := by omega
        clear hM7 hk7 f0 f3
        go_wp2
        have KD : Keeps (fun _ => False) w7 w7.drew := (Keeps.refl _ w7).drew
        have HS8 := Lib.hid (HS7.out.kept0 KD)
        have HB8 := Lib.hid (KD.heap HB7.out (fun h => h))
        have HK8 := Lib.hid (HK7.out.trans KD (fun _ _ h => h.elim))
        refine Canon.region [7] [(⟨x, 2, none⟩, .int .i64 (u - Sto.costF M key))] [(3, 0)] (.hold [0, 1, 2, 4, 5, 6, 3] (.loud 7 (.seg [8, 9, 10, 11] .stop))) (by kernel_rfl) (by kernel_rfl) (by repeat (first | (with_reducible exact Safe.body) | (with_reducible apply Safe.then) | (with_reducible apply Safe.inBlock) | (dsimp +zetaDelta only))) ?_
        simp only [Canon.pick, Canon.wpPlan, List.getElem?_toArray, List.getElem?_cons_zero, List.getElem?_cons_succ]
        generalize w7.drew = wf at *
        have hcs2 := HS8.out.map.cost HKy.out hb3
        have HC2 := Lib.hid (cost_c HS8.out.c3 HS8.out.map key HKy.out hb3)
        rw [← HSk.out] at HC2
        have HLy := Lib.hid (fun (y : World) (h : y.cell? ⟨x, 2, none⟩ = some (Value.int .i64 (u - Sto.costF M key))) => (by
          intro p hp
          rw [List.mem_singleton] at hp
          subst hp
          exact h : Cells [(⟨x, 2, none⟩, Value.int .i64 (u - Sto.costF M key))] y))
        have e0 : wf.cell? ⟨B, 0, none⟩ = some (.string sk) := cell_of_row wf _ 0 _ _ _ HB8.out
        have e2 : wf.cell? ⟨x, 2, none⟩ = some (.int .i64 (u - Sto.costF M key)) := HS8.out.c2
        clear KD
        refine ⟨HLy.out _ HS8.out.c2, ?_⟩
        go_wp2_with (go_at_call 53; refine Rets.use HC2.out ?_; rintro _ _ ⟨rfl, rfl⟩)
        refine ⟨HLy.out _ HS8.out.c2, ?_⟩
        go_wp2_with ((with_reducible refine at_store 3 (.tmp 50) (.tmp 48) rfl ?_); go_must (refine step_store1 rfl _ _ _ rfl x 2 (.int .i64 (u - Sto.costF M key + Sto.costF (Sto.put M key val) key)) _ _ rfl rfl rfl HS8.out.blk (by simp [stoC]) info_int11 ?_); intro w9 hb9 hk9 hs9)
        refine ⟨by rfl, ⟨fun _ => rfl, trivial⟩, ?_⟩
        have HS9 := Lib.hid (HS8.out.setU hk9 hb9)
        have HK9 := Lib.hid (HK8.out.trans (hk9.mono (S' := fun j => j = x ∨ j = bm) (fun j _ h => .inl h)) (fun _ _ h => h))
        clear hb9 hk9 e0 e2
        go_wp2
        go_roundw
        case rel => exact ⟨k + 1, hlt, by go_num, HK9.out, by rw [HNX.out]; exact ⟨HS9.out.blk, HS9.out.map.mono (by omega) (fun _ _ h => h), HS9.out.r1, HS9.out.r2, hne⟩, by rw [HNX.out]; have := HU1.out; simp only [Sto.step, Sto.do1]; simp only [Bool.false_eq_true, if_false]; omega, by rw [HNX.out]; have := HU2.out; simp only [Sto.step, Sto.do1]; simp only [Bool.false_eq_true, if_false]; omega⟩
        case measure => simp [intOf]; omega
    · obtain rfl : k = l.length := by omega
      rw [List.take_length] at hSr
      have HSr := Lib.hid hSr
      have HKr := Lib.hid hkr
      rw [List.take_length] at hu1 hu2
      have HU1 := hu1
      have HU2 := hu2
      clear hkr hSr hu1 hu2
      go_wp2
      ((try simp only [Exit.inBlock, Exit.then]); refine bodyPost_ret (results_none rfl _ _ _) rfl ?_)
      exact ⟨⟨rfl, HKr.out, HSr.out⟩, HU1, HU2⟩
theorem do_c {w : World} {ok R : Nat → Prop} {x bm n : Nat} {lv : Value} {q : Int} {s : Sto.Mp × Int} (hS : SIs w x bm R lv q n s) (hR : ∀ j, R j → j < w.heap.size) (l : List Chg) (hB : ChgB l) (hl : l.length ≤ 1000000) (hn : n ≤ 1000000) (hu : -1000000000000000 ≤ s.2 ∧ s.2 ≤ 1000000000000000) (v : Value) (h : Chgs w ok v l) (hok : ∀ j, ok j → j < w.heap.size ∧ j ≠ x ∧ j ≠ bm) :
    Calls Try.prog 52 #[.pointer (some ⟨x, 0, none⟩), v] w (Rets (DoPost w x bm R lv q (n + l.length) (Sto.doF s l))) :=
  Rets.use (do_b hS hR l hB hl hn hu v h hok) fun v w' h => h.1
end Go.Proofs.Ytbiohidelhfaiaa
end

section
namespace Go.Proofs.Ytbiohidelhfaiaa
open Go.RowKit Go.Canon Go.Mem
set_option linter.unusedVariables false
set_option linter.unusedSimpArgs false

abbrev DParts (w : World) (S : Nat → Prop) (g F N : Nat) (vo : Value) (s : Disk.St) := Disk.Parts 100 117 119 w S g F N vo s
def Same (v : Value) (w : World) : Value → World → Prop := fun v' w' => v' = v ∧ w = w'

section
variable {w : World} {S : Nat → Prop} {g F N : Nat} {vo : Value} {s : Disk.St}
set_option maxHeartbeats 400000 in
theorem made_c (h : DParts w S g F N vo s) : Calls Try.prog 62 #[.pointer (some ⟨g, 0, none⟩)] w (Rets (Same (.bool true) w)) := by
  have c1 := h.cell 1 _ rfl
  go_enter Try.func62, Try.ntmps62
  go_wp2
  go_ret
  exact ⟨rfl, rfl⟩
set_option maxHeartbeats 400000 in
theorem ready_c (h : DParts w S g F N vo s) : Calls Try.prog 61 #[.pointer (some ⟨g, 0, none⟩)] w (Rets (Same (.int .i64 (if s.off = true then 14 else 0)) w)) := by
  have c5 := h.cell 5 _ rfl
  cases ho : s.off
  all_goals
    rw [ho] at c5
    clear ho
    go_enter Try.func61, Try.ntmps61
    go_wp2_with (go_at_call 62; refine Rets.use (made_c h) ?_; rintro v w' ⟨rfl, rfl⟩)
    go_ret
    exact ⟨rfl, rfl⟩
def StepPost (w : World) (S : Nat → Prop) (g F N : Nat) (vo : Value) (s : Disk.St) (v : Value) (w' : World) : Prop := v = .int .i64 (if s.step.1 = true then 0 else 14) ∧ DParts w' S g F N vo s.step.2 ∧ Keeps (· = g) w w'
set_option maxHeartbeats 400000 in
theorem step_c (h : DParts w S g F N vo s) : Calls Try.prog 100 #[.pointer (some ⟨g, 0, none⟩)] w (Rets (StepPost w S g F N vo s)) := by
  have c3 := h.cell 3 _ rfl
  have c4 := h.cell 4 _ rfl
  have c5 := h.cell 5 _ rfl
  have f4 := h.free 4
  have f5 := h.free 5
  have l0 := h.ok.left0
  have l1 := h.ok.left1
  cases ha : s.armed
  · have e : s.step = (true, s) := by simp [Disk.St.step, ha]
    rw [ha] at c3
    have HE := Lib.hid e
    clear e ha
    go_enter Try.func100, Try.ntmps100
    go_wp2
    go_ret
    refine ⟨?_, ?_, Keeps.refl _ w⟩
    · rw [HE.out]; rfl
    · rw [HE.out]; exact h
  · rw [ha] at c3
    by_cases hz : s.left = 0
    · have e : s.step = (false, { s with off := true }) := by simp [Disk.St.step, ha, hz]
      rw [hz] at c4
      have HE := Lib.hid e
      have HA := Lib.hid ha
      clear e ha hz
      go_enter Try.func100, Try.ntmps100
      go_wp2
      go_ret
      refine ⟨?_, ?_, ?_⟩
      · rw [HE.out]; rfl
      · rw [HE.out]
        refine h.upd (Keeps.set1 w g 5 _) ?_ rfl rfl rfl l0 l1
        rw [heap_setCell_same w g 5 _ _ _ h.blk]; simp
      · exact Keeps.set1 w g 5 _
    · have e : s.step = (true, { s with left := s.left - 1 }) := by simp [Disk.St.step, ha, hz]
      have hz' : (s.left == 0) = false := by simpa using hz
      have HE := Lib.hid e
      have HA := Lib.hid ha
      clear e ha
      go_enter Try.func100, Try.ntmps100
      go_wp2
      go_ret
      refine ⟨?_, ?_, ?_⟩
      · rw [HE.out]; rfl
      · rw [HE.out]
        refine h.upd (Keeps.set1 w g 4 _) ?_ rfl rfl rfl (show 0 ≤ s.left - 1 by omega) (show s.left - 1 ≤ _ by omega)
        rw [heap_setCell_same w g 4 _ _ _ h.blk]; simp
      · exact Keeps.set1 w g 4 _
theorem sectors_c (h : DParts w S g F N vo s) : Calls Try.prog 67 #[.pointer (some ⟨g, 0, none⟩)] w (Rets (Same (.int .i64 s.now.length) w)) := by
  have c1 := h.cell 1 _ rfl
  go_enter Try.func67, Try.ntmps67
  go_wp2_with (go_at_call 62; refine Rets.use (made_c h) ?_; rintro v w' ⟨rfl, rfl⟩)
  go_ret
  exact ⟨rfl, rfl⟩
def ArmPost (w : World) (S : Nat → Prop) (g F N : Nat) (vo : Value) (s : Disk.St) (n : Int) (v : Value) (w' : World) : Prop := v = .int .i64 (s.arm n).1 ∧ DParts w' S g F N vo (s.arm n).2 ∧ Keeps (· = g) w w'
set_option maxHeartbeats 400000 in
theorem arm_c (h : DParts w S g F N vo s) (n : Int) (hn : n ≤ 9223372036854775807) : Calls Try.prog 32 #[.pointer (some ⟨g, 0, none⟩), .int .i64 n] w (Rets (ArmPost w S g F N vo s n)) := by
  have c3 := h.cell 3 _ rfl
  have c4 := h.cell 4 _ rfl
  have f3 := h.free 3
  have f4 := h.free 4
  cases ho : s.off
  · by_cases hz : n < 0
    · have HE := Lib.hid (show s.arm n = (2, s) by simp [Disk.St.arm, ho, hz])
      have HR := Lib.hid (show (if s.off = true then 14 else 0) = (0 : Int) by simp [ho])
      clear ho
      go_enter Try.func32, Try.ntmps32
      go_wp2_with (go_at_call 61; refine Rets.use (ready_c h) ?_; rw [HR.out]; rintro v w' ⟨rfl, rfl⟩)
      go_ret
      refine ⟨?_, ?_, Keeps.refl _ w⟩
      · rw [HE.out]; rfl
      · rw [HE.out]; exact h
    · have HE := Lib.hid (show s.arm n = (0, { s with armed := true, left := n }) by simp [Disk.St.arm, ho, hz])
      have HR := Lib.hid (show (if s.off = true then 14 else 0) = (0 : Int) by simp [ho])
      clear ho
      go_enter Try.func32, Try.ntmps32
      go_wp2_with (go_at_call 61; refine Rets.use (ready_c h) ?_; rw [HR.out]; rintro v w' ⟨rfl, rfl⟩)
      go_ret
      have k1 := Keeps.set1 w g 3 (.bool true)
      have k2 := k1.trans (Keeps.set1 (w.setCell ⟨g, 3, none⟩ (.bool true)) g 4 (.int .i64 n)) (fun _ _ h => h)
      refine ⟨?_, ?_, k2⟩
      · rw [HE.out]; rfl
      · rw [HE.out]
        refine h.upd k2 ?_ rfl rfl rfl (show 0 ≤ n by omega) hn
        rw [heap_setCell_same _ g 4 _ _ _ (heap_setCell_same w g 3 _ _ _ h.blk)]; simp
  · have HE := Lib.hid (show s.arm n = (14, s) by simp [Disk.St.arm, ho])
    have HR := Lib.hid (show (if s.off = true then 14 else 0) = (14 : Int) by simp [ho])
    clear ho
    go_enter Try.func32, Try.ntmps32
    go_wp2_with (go_at_call 61; refine Rets.use (ready_c h) ?_; rw [HR.out]; rintro v w' ⟨rfl, rfl⟩)
    go_ret
    refine ⟨?_, ?_, Keeps.refl _ w⟩
    · rw [HE.out]; rfl
    · rw [HE.out]; exact h

theorem info_sec : (Try.prog.info? 117).map (·.size) = some 64 := by kernel_rfl
theorem zero_sec : (Try.prog.info? 117).map (fun i => i.zero) = some (some (.agg (Disk.bytes8 Disk.zsec).toArray)) := by kernel_rfl
/-- A read: a new block with the sector's bytes, or why not. -/
def ReadPost (w : World) (s : Disk.St) (i : Int) (v : Value) (w' : World) : Prop := Keeps (fun _ => False) w w' ∧
  (((s.read i).2 ≠ 0 ∧ (s.read i).1 = [] ∧ v = .tuple #[.slice none 0 0, .int .i64 (s.read i).2]) ∨
   ((s.read i).2 = 0 ∧ (s.read i).1.length = 64 ∧ ∃ b, w.heap.size ≤ b ∧ v = .tuple #[.slice (some ⟨b, 0, none⟩) 64 64, .int .i64 0] ∧ w'.heap[b]? = some (.cells (Disk.bytes8 (s.read i).1).toArray 117 (0, 0))))
set_option maxHeartbeats 400000 in
set_option maxRecDepth 100000 in
theorem read_c (h : DParts w S g F N vo s) (i : Int) : Calls Try.prog 81 #[.pointer (some ⟨g, 0, none⟩), .int .i64 i] w (Rets (ReadPost w s i)) := by
  have c1 := h.cell 1 _ rfl
  have hm := h.ok.most
  cases ho : s.off
  · have HR := Lib.hid (show (if s.off = true then 14 else 0) = (0 : Int) by simp [ho])
    by_cases hz : i < 0 ∨ (s.now.length : Int) ≤ i
    · have HE := Lib.hid (show s.read i = ([], 2) by
        have : s.at_ i = none := by
          unfold Disk.St.at_
          split
          · exact List.getElem?_eq_none (by omega)
          · rfl
        simp [Disk.St.read, ho, this])
      clear ho
      rcases hz with hz | hz
      all_goals
        go_enter Try.func81, Try.ntmps81
        go_wp2_with (go_at_call 61; refine Rets.use (ready_c h) ?_; rw [HR.out]; rintro v w' ⟨rfl, rfl⟩)
        go_ret2
        refine ⟨Keeps.refl _ w, .inl ?_⟩
        rw [HE.out]
        exact ⟨by decide, rfl, rfl⟩
    · obtain ⟨k, rfl⟩ : ∃ k : Nat, i = k := ⟨i.toNat, by omega⟩
      have hk : k < s.now.length := by omega
      have hx : s.now[k]? = some s.now[k] := List.getElem?_eq_getElem hk
      have h64 : s.now[k].length = 64 := h.ok.n64 _ (List.getElem_mem hk)
      have HE := Lib.hid (show s.read k = (s.now[k], 0) by
        have : s.at_ k = some s.now[k] := by
          unfold Disk.St.at_
          rw [if_pos (by omega), Int.toNat_natCast]; exact hx
        simp [Disk.St.read, ho, this])
      have HX := Lib.hid (Disk.flat_at h.ok.n64 k _ hx)
      have H64 := Lib.hid h64
      have HB := Lib.hid (show (Disk.bytes8 s.now[k]).length = 64 by rw [Disk.bytes8_len]; exact h64)
      have HO := Lib.hid (all_oneCell_toArray (Disk.bytes8_one s.now[k]))
      have HZ := Lib.hid (show (Disk.bytes8 Disk.zsec).length = 64 by rw [Disk.bytes8_len, Disk.zsec_len])
      generalize hvs : Disk.bytes8 s.now[k] = vs at *
      have HV := Lib.hid hvs
      clear hvs
      clear ho hz hx h64
      have hb := h.bN
      go_enter Try.func81, Try.ntmps81
      go_wp2_with (first
        | (go_at_call 61; refine Rets.use (ready_c h) ?_; rw [HR.out]; rintro v w' ⟨rfl, rfl⟩)
        | ((with_reducible refine at_ 30 rfl ?_); refine step_load rfl 117 _ rfl N (k * 64) vs _ _ _ _ rfl hb (by rw [HB.out]; exact HX.out) Try.underlying117 rfl (by rw [HB.out]; exact info_sec) ?_)
        | ((with_reducible refine at_ 7 rfl ?_); refine step_alloc rfl 117 rfl _ _ zero_sec rfl ?_; intro w1 hb1 hk1 hs1)
        | ((with_reducible refine at_store 117 (.tmp 7) (.tmp 30) rfl ?_); refine step_store rfl _ _ _ rfl _ 0 vs _ _ rfl rfl hb1 (by rw [HB.out, HZ.out]; decide) (by rw [HB.out]; exact info_sec) HO.out ?_; intro w2 hb2 hk2 hs2))
      go_ret2
      rw [put_whole (by rw [HB.out, HZ.out])] at hb2
      refine ⟨hk1.trans hk2 (fun k hk e => by omega), .inr ?_⟩
      rw [HE.out]
      exact ⟨rfl, H64.out, w.heap.size, Nat.le_refl _, rfl, by rw [HV.out]; exact hb2⟩
  · have HR := Lib.hid (show (if s.off = true then 14 else 0) = (14 : Int) by simp [ho])
    have HE := Lib.hid (show s.read i = ([], 14) by simp [Disk.St.read, ho])
    clear ho
    go_enter Try.func81, Try.ntmps81
    go_wp2_with (go_at_call 61; refine Rets.use (ready_c h) ?_; rw [HR.out]; rintro v w' ⟨rfl, rfl⟩)
    go_ret2
    refine ⟨Keeps.refl _ w, .inl ?_⟩
    rw [HE.out]
    exact ⟨by decide, rfl, rfl⟩

theorem info_wr : (Try.prog.info? 119).map (·.size) = some 65 := by kernel_rfl
theorem zero_wr : (Try.prog.info? 119).map (fun i => i.zero) = some (some (.agg (.int .i64 0 :: Disk.bytes8 Disk.zsec).toArray)) := by kernel_rfl
theorem row_wr : (Try.prog.info? 119).map (fun i => (i.zero, i.size, i.bytes)) = some (some (.agg (.int .i64 0 :: Disk.bytes8 Disk.zsec).toArray), 65, 72) := by kernel_rfl
theorem row2_wr : (Try.prog.info? 119).map (fun i => (i.zero, i.size)) = some (some (.agg (.int .i64 0 :: Disk.bytes8 Disk.zsec).toArray), 65) := by kernel_rfl
theorem build_wr (x : Int) (w : World) : (Instr.build 119 #[(0, .int .i64 x)]).run Try.prog w = .ok (.agg (.int .i64 x :: Disk.bytes8 Disk.zsec).toArray) w := by kernel_rfl
theorem info_byte : (Try.prog.info? 5).map (·.size) = some 1 := by kernel_rfl
theorem info_bool : (Try.prog.info? 4).map (·.size) = some 1 := by kernel_rfl
theorem info_int : (Try.prog.info? 3).map (·.size) = some 1 := by kernel_rfl
theorem info_wrs : (Try.prog.info? 98).map (·.size) = some 1 := by kernel_rfl
theorem step_same (s : Disk.St) : s.step.2.now = s.now ∧ s.step.2.fast = s.fast ∧ s.step.2.opn = s.opn := by
  unfold Disk.St.step
  split
  · exact ⟨rfl, rfl, rfl⟩
  · split <;> exact ⟨rfl, rfl, rfl⟩
def WritePost (w : World) (S : Nat → Prop) (g F N : Nat) (s : Disk.St) (i : Int) (b : List Int) (v : Value) (w' : World) : Prop :=
  v = .int .i64 (s.write i b).1 ∧ (∃ vo', DParts w' (fun k => S k ∨ w.heap.size ≤ k) g F N vo' (s.write i b).2) ∧ Keeps S w w'
theorem DParts.wide {S' : Nat → Prop} (h : DParts w S g F N vo s) (hs : ∀ k, S k → S' k) : DParts w S' g F N vo s :=
  ⟨h.blk, h.bF, h.bN, h.own.mono (fun k _ hk => ⟨hs k hk.1, hk.2⟩), ⟨hs _ h.inS.1, hs _ h.inS.2.1, hs _ h.inS.2.2⟩, h.ne, h.ok⟩
theorem write_no {i : Int} {b : List Int} {v : Value} (h : DParts w S g F N vo s) (e : (s.write i b).2 = s) (hv : v = .int .i64 (s.write i b).1) : WritePost w S g F N s i b v w :=
  ⟨hv, ⟨vo, by rw [e]; exact h.wide (fun k hk => .inl hk)⟩, Keeps.refl _ w⟩
set_option maxHeartbeats 800000 in
set_option maxRecDepth 100000 in
theorem write_bad {ok : Nat → Prop} (h : DParts w S g F N vo s) (i : Int) (v : Value) (b : List Int) (hr : Rd w ok v b.length (Disk.bytes8 b)) (hbad : s.off = true ∨ i < 0 ∨ (s.now.length : Int) ≤ i ∨ 64 < b.length) (hl : b.length ≤ 9223372036854775807) :
    Calls Try.prog 85 #[.pointer (some ⟨g, 0, none⟩), .int .i64 i, v] w (Rets (WritePost w S g F N s i b)) := by
  obtain ⟨A, c, rfl, hc, _⟩ := hr.slice
  have c1 := h.cell 1 _ rfl
  have hm := h.ok.most
  cases ho : s.off
  · have HR := Lib.hid (show (if s.off = true then 14 else 0) = (0 : Int) by simp [ho])
    have hb' : i < 0 ∨ (s.now.length : Int) ≤ i ∨ 64 < b.length := by simpa [ho] using hbad
    have HE := Lib.hid (show s.write i b = (2, s) by
      unfold Disk.St.write
      rw [if_neg (by simp [ho]), if_pos (by omega)])
    have HW := Lib.hid (write_no h (i := i) (b := b) (by rw [HE.out]) (v := .int .i64 2) (by rw [HE.out]))
    clear ho hbad
    rcases hb' with hz | hz | hz
    · go_enter Try.func85, Try.ntmps85
      go_wp2_with (go_at_call 61; refine Rets.use (ready_c h) ?_; rw [HR.out]; rintro v w' ⟨rfl, rfl⟩)
      go_ret
      exact HW.out
    · go_enter Try.func85, Try.ntmps85
      go_wp2_with (go_at_call 61; refine Rets.use (ready_c h) ?_; rw [HR.out]; rintro v w' ⟨rfl, rfl⟩)
      go_ret
      exact HW.out
    · by_cases h1 : i < 0
      · go_enter Try.func85, Try.ntmps85
        go_wp2_with (go_at_call 61; refine Rets.use (ready_c h) ?_; rw [HR.out]; rintro v w' ⟨rfl, rfl⟩)
        go_ret
        exact HW.out
      · by_cases h2 : (s.now.length : Int) ≤ i
        all_goals
          go_enter Try.func85, Try.ntmps85
          go_wp2_with (go_at_call 61; refine Rets.use (ready_c h) ?_; rw [HR.out]; rintro v w' ⟨rfl, rfl⟩)
          go_ret
          exact HW.out
  · have HR := Lib.hid (show (if s.off = true then 14 else 0) = (14 : Int) by simp [ho])
    have HE := Lib.hid (show s.write i b = (14, s) by simp [Disk.St.write, ho])
    have HW := Lib.hid (write_no h (i := i) (b := b) (by rw [HE.out]) (v := .int .i64 14) (by rw [HE.out]))
    clear ho hbad
    go_enter Try.func85, Try.ntmps85
    go_wp2_with (go_at_call 61; refine Rets.use (ready_c h) ?_; rw [HR.out]; rintro v w' ⟨rfl, rfl⟩)
    go_ret
    exact HW.out
end
end Go.Proofs.Ytbiohidelhfaiaa
end

section
namespace Go.Proofs.Ytbiohidelhfaiaa
open Go.RowKit Go.Canon Go.Mem
set_option linter.unusedVariables false
set_option linter.unusedSimpArgs false
section
variable {w : World} {S : Nat → Prop} {g F N : Nat} {vo : Value} {s : Disk.St}
theorem put_pad {b : List Int} (x : Int) (h : b.length ≤ 64) : put (.int .i64 x :: Disk.bytes8 Disk.zsec) 1 (Disk.bytes8 b) = .int .i64 x :: Disk.bytes8 (Disk.pad b) := by
  unfold put Disk.pad
  rw [Disk.bytes8_append, Nat.add_comm 1, List.drop_succ_cons, List.take_succ_cons, List.take_zero, Disk.bytes8_len]
  simp [Disk.bytes8]
set_option maxHeartbeats 1600000 in
set_option maxRecDepth 100000 in
theorem write_ok {ok : Nat → Prop} (h : DParts w S g F N vo s) (k : Nat) (v : Value) (b : List Int) (hr : Rd w ok v b.length (Disk.bytes8 b)) (hok : ∀ k, ok k → ¬ S k) (ho : s.off = false) (hk : k < s.now.length) (hl : b.length ≤ 64) (few : s.opn.length ≤ 1000000) :
    Calls Try.prog 85 #[.pointer (some ⟨g, 0, none⟩), .int .i64 k, v] w (Rets (WritePost w S g F N s k b)) := by
  obtain ⟨A, c, rfl, hc, _⟩ := hr.slice
  have c1 := h.cell 1 _ rfl
  have hm := h.ok.most
  obtain ⟨t1, t2, t3⟩ := step_same s
  have HR := Lib.hid (show (if s.off = true then 14 else 0) = (0 : Int) by simp [ho])
  have HO := Lib.hid ho
  clear ho
  cases hs : s.step.1
  · have HS := Lib.hid (show (if s.step.1 = true then 0 else 14) = (14 : Int) by simp [hs])
    have HE := Lib.hid (show s.write k b = (14, s.step.2) by
      unfold Disk.St.write
      rw [if_neg (by simp [HO.out]), if_neg (by omega), if_neg (by simp [hs])])
    clear hs t1 t2 t3
    go_enter Try.func85, Try.ntmps85
    go_wp2_with (first
      | (go_at_call 61; refine Rets.use (ready_c h) ?_; rw [HR.out]; rintro v w' ⟨rfl, rfl⟩)
      | (go_at_call 100; refine Rets.use (step_c h) ?_; rintro v w' ⟨rfl, hp, hk⟩; rw [HS.out]))
    go_ret
    refine ⟨by rw [HE.out]; rfl, ⟨vo, ?_⟩, hk.mono (fun k _ e => by subst e; exact h.inS.1)⟩
    rw [HE.out]; exact hp.wide (fun k hk => .inl hk)
  · have HS := Lib.hid (show (if s.step.1 = true then 0 else 14) = (0 : Int) by simp [hs])
    have HE := Lib.hid (show s.write k b = (0, { s.step.2 with now := s.now.set k (Disk.pad b), opn := s.opn ++ [((k : Int), Disk.pad b)] }) by
      unfold Disk.St.write
      rw [if_neg (by simp [HO.out]), if_neg (by omega), if_pos hs]; rfl)
    have T1 := Lib.hid t1
    have T2 := Lib.hid t2
    have T3 := Lib.hid t3
    have HB := Lib.hid (Disk.bytes8_len b)
    have HZ := Lib.hid (show (Disk.bytes8 Disk.zsec).length = 64 by rw [Disk.bytes8_len, Disk.zsec_len])
    have HP := Lib.hid (show (Disk.bytes8 (Disk.pad b)).length = 64 by rw [Disk.bytes8_len, Disk.pad_len hl])
    have HPut := Lib.hid (put_pad (b := b) k hl)
    have HOne := Lib.hid (all_oneCell_toArray (Disk.bytes8_one (Disk.pad b)))
    have HOne2 := Lib.hid (all_oneCell_toArray (cs := .int .i64 k :: Disk.bytes8 Disk.zsec) (by intro v hv; rcases List.mem_cons.1 hv with rfl | hv; rfl; exact Disk.bytes8_one _ v hv))
    clear hs t1 t2 t3
    go_enter Try.func85, Try.ntmps85
    go_wp2_with (first
      | (go_at_call 61; refine Rets.use (ready_c h) ?_; rw [HR.out]; rintro v w' ⟨rfl, rfl⟩)
      | (go_at_call 100; refine Rets.use (step_c h) ?_; rintro v w1 ⟨rfl, hp1, hk1⟩; rw [HS.out]; have hr1 := hr.lt.kept hk1 (fun k hh e => hok k hh.1 (by rw [e]; exact h.inS.1)))
      | ((with_reducible refine at_ 37 rfl ?_); go_must (refine step_build rfl 119 _ rfl [(0, .int .i64 k)] rfl _ (build_wr k) ?_))
      | ((with_reducible refine at_ 9 rfl ?_); go_must (refine step_alloc rfl 119 rfl _ _ zero_wr rfl ?_); intro w2 hb2 hk2 hs2)
      | ((with_reducible refine at_store 119 (.tmp 9) (.tmp 37) rfl ?_); go_must (refine step_store rfl _ _ _ rfl w1.heap.size 0 (.int .i64 k :: Disk.bytes8 Disk.zsec) _ _ rfl rfl hb2 (by simp) (by rw [List.length_cons, HZ.out]; exact info_wr) HOne2.out ?_); intro w3 hb3 hk3 hs3; rw [put_whole (by simp)] at hb3; clear hb2; have hr3 := (hr1.kept hk2 (fun _ _ h => h)).kept hk3 (fun k hh e => by have := hk1.size; omega))
      | ((with_reducible refine at_ 41 rfl ?_); go_must (refine step_copy (ok := fun k => ok k ∧ k < w.heap.size) rfl (.tmp 39) (.tmp 40) _ _ rfl 5 Try.underlying23 info_byte w1.heap.size 1 64 64 _ _ (.slice A b.length c) (Disk.bytes8 b) rfl rfl (by rw [HB.out]; exact hr3) (by rw [HB.out]; exact hl) hb3 (by rw [List.length_cons, HZ.out, HB.out]; omega) (Disk.bytes8_one b) ?_); intro w4 hb4 hk4 hs4; rw [HPut.out] at hb4; clear hb3))
    have lg := lt_of hp1.blk
    have lN := lt_of hp1.bN
    have lF := lt_of hp1.bF
    have K4 : Keeps (· = w1.heap.size) w1 w4 := ((hk2.mono (fun _ _ h => h.elim)).trans hk3 (fun _ _ h => h)).trans hk4 (fun _ _ h => h)
    have bg4 := K4.heap hp1.blk (Nat.ne_of_lt lg)
    have bN4 := K4.heap hp1.bN (Nat.ne_of_lt lN)
    rw [T1.out] at bg4 bN4
    have c1_4 := (cell_of_row w4 g 1 _ _ _ bg4).trans (show _ = some (Value.slice (some ⟨N, 0, none⟩) s.now.length s.now.length) from rfl)
    have S4 : w4.heap.size = w1.heap.size + 1 := by rw [hs4, hs3, hs2]
    have HVT := Lib.hid (show ((Value.int .i64 (k : Int) :: Disk.bytes8 (Disk.pad b)).drop 1).take (Disk.bytes8 (Disk.pad b)).length = Disk.bytes8 (Disk.pad b) by simp)
    have HFlat := Lib.hid (show (Disk.flat s.now).length = s.now.length * 64 from Disk.flat_len h.ok.n64)
    have HSet := Lib.hid (Disk.flat_set h.ok.n64 k (Disk.pad b) hk (Disk.pad_len hl))
    clear hr1 hr3 hr c1
    refine Canon.row [0, 1, 2, 4, 5, 3, 6, 7, 8] (by kernel_rfl) (by kernel_rfl) (by repeat (first | (with_reducible exact Safe.body) | (with_reducible apply Safe.then) | (with_reducible apply Safe.inBlock) | (dsimp +zetaDelta only))) ?_
    simp only [Canon.pick, Canon.wpPlan, List.getElem?_toArray, List.getElem?_cons_zero, List.getElem?_cons_succ]
    have Kd : Keeps (fun _ => False) w4 w4.drew := (Keeps.refl _ w4).drew
    have sd : w4.drew.heap.size = w4.heap.size := rfl
    have c1_5 : w4.drew.cell? ⟨g, 1, none⟩ = some (Value.slice (some ⟨N, 0, none⟩) s.now.length s.now.length) := c1_4
    have bN5 := Kd.heap bN4 (fun h => h)
    have bW5 := Kd.heap hb4 (fun h => h)
    generalize w4.drew = w5 at *
    go_wp2_with (first
      | ((with_reducible refine at_ 48 rfl ?_); go_must (refine step_load rfl 117 _ rfl w1.heap.size 1 (Disk.bytes8 (Disk.pad b)) _ _ _ _ rfl bW5 HVT.out Try.underlying117 rfl (by rw [HP.out]; exact info_sec) ?_))
      | ((with_reducible refine at_store 117 (.tmp 49) (.tmp 48) rfl ?_); go_must (refine step_store rfl _ _ _ rfl N (k * 64) (Disk.bytes8 (Disk.pad b)) _ _ rfl rfl bN5 (by rw [HP.out, HFlat.out]; omega) (by rw [HP.out]; exact info_sec) HOne.out ?_); intro w6 bN6 hk6 hs6; rw [HSet.out] at bN6))
    refine ⟨by rfl, trivial, ?_⟩
    go_wp2_with fail
    have K6 : Keeps (fun k => k = w1.heap.size ∨ k = N) w1 w6 := ((K4.mono (fun _ _ h => .inl h)).trans Kd (fun _ _ h => h.elim)).trans hk6 (fun _ _ h => .inr h)
    have ng : ¬ (g = w1.heap.size ∨ g = N) := fun e => e.elim (Nat.ne_of_lt lg) (fun e => h.ne.2.1 e.symm)
    have bg6 := K6.heap hp1.blk ng
    have bF6 := K6.heap hp1.bF (fun e => e.elim (Nat.ne_of_lt lF) (fun e => h.ne.2.2 e.symm))
    have own6 := (hp1.own.mono (ok' := fun k => (S k ∧ k ≠ g ∧ k ≠ F ∧ k ≠ N) ∧ k < w1.heap.size) (fun k hk hh => ⟨hh, hk⟩)).kept K6 (fun k hh e => e.elim (fun e => Nat.ne_of_lt hh.2 e) hh.1.2.2.2)
    have bW6 := hk6.heap bW5 (fun e => Nat.ne_of_lt lN e.symm)
    rw [T1.out] at bg6
    rw [T2.out] at bF6
    rw [T3.out] at own6
    have S6 : w6.heap.size = w1.heap.size + 1 := by rw [hs6, sd, S4]
    have c2_6 := (cell_of_row w6 g 2 _ _ _ bg6).trans (show _ = some vo from rfl)
    clear bW5 bN5 c1_5 bg4 bN4 c1_4 hb4 HSet HFlat
    refine Canon.region [6] [(⟨g, 2, none⟩, vo)] [(4, 0)] (.hold [0, 1, 2, 3, 5, 4] (.loud 6 (.seg [7, 8, 9, 10] .stop))) (by kernel_rfl) (by kernel_rfl) (by repeat (first | (with_reducible exact Safe.body) | (with_reducible apply Safe.then) | (with_reducible apply Safe.inBlock) | (dsimp +zetaDelta only))) ?_
    simp only [Canon.pick, Canon.wpPlan, List.getElem?_toArray, List.getElem?_cons_zero, List.getElem?_cons_succ]
    have Kd2 : Keeps (fun _ => False) w6 w6.drew := (Keeps.refl _ w6).drew
    have sd2 : w6.drew.heap.size = w6.heap.size := rfl
    have c2_7 : w6.drew.cell? ⟨g, 2, none⟩ = some vo := c2_6
    have bW7 := Kd2.heap bW6 (fun h => h)
    generalize w6.drew = w7 at *
    refine ⟨fun p hp => ?_, ?_⟩
    · rw [List.mem_singleton] at hp; subst hp; exact c2_7
    go_wp2_with (first
      | ((with_reducible refine at_ 55 rfl ?_); go_must (refine step_load rfl 119 _ rfl w1.heap.size 0 (.int .i64 k :: Disk.bytes8 (Disk.pad b)) _ _ _ _ rfl bW7 (by rw [List.drop_zero, List.take_length]) Try.underlying119 rfl (by rw [List.length_cons, HP.out]; exact info_wr) ?_))
      | ((with_reducible refine at_ 56 rfl ?_); go_must (refine step_lit rfl 98 _ 1 rfl [.agg (.int .i64 k :: Disk.bytes8 (Disk.pad b)).toArray] rfl rfl (by decide) 119 _ 65 Try.underlying98 row2_wr (by decide) (by decide) (by intro v hv; rw [List.mem_singleton] at hv; subst hv; show (List.toArray _).size = 65; rw [List.size_toArray, List.length_cons, HP.out]) ?_); intro w8 hb8 hk8 hs8))
    have c2_8 := hk8.cell c2_7 (fun h => h)
    refine ⟨fun p hp => ?_, ?_⟩
    · rw [List.mem_singleton] at hp; subst hp; exact c2_8
    have hb8' : w8.heap[w7.heap.size]? = some (.cells (.int .i64 k :: Disk.bytes8 (Disk.pad b)).toArray 119 (0, 0)) := by simpa [Value.cells] using hb8
    have own8 := (own6.kept Kd2 (fun _ _ h => h)).kept hk8 (fun _ _ h => h)
    have bg8 := hk8.heap (Kd2.heap bg6 (fun h => h)) (fun h => h)
    go_wp2_with (first
      | ((with_reducible refine at_ 57 rfl ?_); go_must (refine step_append rfl _ _ _ rfl 119 _ 65 72 Try.underlying98 row_wr (by simp [Value.cells, HZ.out]) (by decide) vo s.opn.length (Disk.opens s.opn) rfl own8 w7.heap.size 0 1 1 (.int .i64 k :: Disk.bytes8 (Disk.pad b)) rfl (by rw [List.length_cons, HP.out]) (fun j u hu => by rw [cell_of_row w8 _ _ _ _ _ hb8', Nat.zero_add]; simpa using hu) (by intro v hv; rcases List.mem_cons.1 hv with rfl | hv; rfl; exact Disk.bytes8_one _ v hv) (by simp only [maxLen]; omega) (by omega) ?_); intro vo' w9 own9 hk9 _; obtain ⟨A', c', hv', _⟩ := own9.slice; subst hv'; have bg9 := hk9.heap bg8 (fun e => ((own6.2 g e).1.2.1 rfl)))
      | ((with_reducible refine at_store 98 (.tmp 59) (.tmp 57) rfl ?_); go_must (refine step_store1 rfl _ _ _ rfl g 2 (.slice A' (s.opn.length + 1) c') _ _ rfl rfl rfl bg9 (by simp) info_wrs ?_); intro w10 bg10 hk10 hs10))
    refine ⟨by rfl, ⟨fun _ => rfl, trivial⟩, ?_⟩
    go_wp2
    go_ret
    have hF : ¬ (vo.ownBlock = some F) := fun e => (own6.2 F e).1.2.2.1 rfl
    have hN : ¬ (vo.ownBlock = some N) := fun e => (own6.2 N e).1.2.2.2 rfl
    have bF10 := hk10.heap (hk9.heap (hk8.heap (Kd2.heap bF6 (fun h => h)) (fun h => h)) hF) h.ne.1
    have bN10 := hk10.heap (hk9.heap (hk8.heap (Kd2.heap bN6 (fun h => h)) (fun h => h)) hN) h.ne.2.1
    have sz := hk1.size
    have s8 : w8.heap.size = w1.heap.size + 2 := by rw [hs8, sd2, S6]
    refine ⟨by rw [HE.out]; rfl, ⟨.slice A' (s.opn.length + 1) c', ?_⟩, ?_⟩
    · rw [HE.out]
      refine ⟨?_, ?_, bN10, ?_, ⟨.inl h.inS.1, .inl h.inS.2.1, .inl h.inS.2.2⟩, h.ne, ?_⟩
      · rw [bg10]; simp
      · rw [bF10]; simp only [T2.out]
      · have := own9.kept hk10 (fun k hh e => hh.elim (fun hh => hh.1.2.1 e) (fun hh => by subst e; omega))
        rw [Disk.opens_snoc s.opn ((k : Int), Disk.pad b)] at this
        rw [List.length_append]
        refine this.mono (fun k hk hh => ?_)
        rcases hh with hh | hh
        · exact ⟨.inl hh.1.1, hh.1.2⟩
        · exact ⟨.inr (by omega), fun e => by subst e; omega, fun e => by subst e; omega, fun e => by subst e; omega⟩
      · have hok1 := hp1.ok
        have q := h.ok
        refine ⟨?_, ?_, ?_, ?_, ?_, ?_, hok1.left0, hok1.left1⟩
        · simp only [List.length_set, T2.out]; exact q.len
        · simp only [List.length_set]; exact q.pos
        · simp only [List.length_set]; exact q.most
        · simp only [T2.out]; exact q.f64
        · intro x hx
          rcases List.mem_or_eq_of_mem_set hx with hx | rfl
          · exact q.n64 x hx
          · exact Disk.pad_len hl
        · intro p hp
          simp only [List.length_set]
          rcases List.mem_append.1 hp with hp | hp
          · exact q.o64 p hp
          · rw [List.mem_singleton] at hp
            subst hp
            exact ⟨Disk.pad_len hl, by simp, by simpa using hk⟩
    · have kA : Keeps (fun k => S k) w w1 := hk1.mono (fun k _ e => by subst e; exact h.inS.1)
      have kB := kA.trans K6 (fun k hk e => e.elim (fun e => by omega) (fun e => by subst e; exact h.inS.2.2))
      have kC := (kB.trans Kd2 (fun _ _ h => h.elim)).trans hk8 (fun _ _ h => h.elim)
      exact (kC.trans hk9 (fun k hk e => (own6.2 k e).1.1)).trans hk10 (fun k hk e => by subst e; exact h.inS.1)
end
end Go.Proofs.Ytbiohidelhfaiaa
end

section
namespace Go.Proofs.Ytbiohidelhfaiaa
open Go.RowKit Go.Canon Go.Mem
set_option linter.unusedVariables false
set_option linter.unusedSimpArgs false
section
variable {w : World} {S : Nat → Prop} {g F N : Nat} {vo : Value} {s : Disk.St}
theorem DParts.kept {S' : Nat → Prop} {w' : World} (h : DParts w S g F N vo s) (hk : Keeps S' w w') (hn : ∀ k, S k → ¬ S' k) : DParts w' S g F N vo s :=
  ⟨hk.heap h.blk (hn _ h.inS.1), hk.heap h.bF (hn _ h.inS.2.1), hk.heap h.bN (hn _ h.inS.2.2), h.own.kept hk (fun k hh => hn k hh.1), h.inS, h.ne, h.ok⟩
/-- One array of sectors is another one now. -/
theorem DParts.setF {w' : World} {f : List (List Int)} (h : DParts w S g F N vo s) (hk : Keeps (· = F) w w') (hb : w'.heap[F]? = some (.cells (Disk.flat f).toArray 117 (0, 0))) (hl : f.length = s.fast.length) (h64 : ∀ x ∈ f, x.length = 64) : DParts w' S g F N vo { s with fast := f } := by
  have q := h.ok
  exact ⟨hk.heap h.blk (fun e => h.ne.1 e.symm), hb, hk.heap h.bN h.ne.2.2, h.own.kept hk (fun k hh => hh.2.2.1), h.inS, h.ne, ⟨hl.trans q.len, q.pos, q.most, h64, q.n64, q.o64, q.left0, q.left1⟩⟩
theorem DParts.setN {w' : World} {f : List (List Int)} (h : DParts w S g F N vo s) (hk : Keeps (· = N) w w') (hb : w'.heap[N]? = some (.cells (Disk.flat f).toArray 117 (0, 0))) (hl : f.length = s.now.length) (h64 : ∀ x ∈ f, x.length = 64) : DParts w' S g F N vo { s with now := f } := by
  have q := h.ok
  exact ⟨by simpa [hl] using hk.heap h.blk (fun e => h.ne.2.1 e.symm), hk.heap h.bF (fun e => h.ne.2.2 e.symm), hb, h.own.kept hk (fun k hh => hh.2.2.2), h.inS, h.ne, ⟨q.len.trans hl.symm, by simpa [hl] using q.pos, by simpa [hl] using q.most, q.f64, h64, fun p hp => by simpa [hl] using q.o64 p hp, q.left0, q.left1⟩⟩
def SyncPost (w : World) (S : Nat → Prop) (g F N : Nat) (s : Disk.St) (v : Value) (w' : World) : Prop :=
  v = .int .i64 s.sync.1 ∧ (∃ vo', DParts w' S g F N vo' s.sync.2) ∧ Keeps S w w'
/-- Behind j of the writes that were open. -/
def SyncAt (w : World) (S : Nat → Prop) (g F N : Nat) (vo : Value) (s : Disk.St) (j : Nat) (w' : World) : Prop :=
  DParts w' S g F N vo { s with fast := Disk.St.settle s.now s.fast (s.opn.take j) } ∧ Keeps S w w'
theorem SyncAt.next {W w1 w2 w3 : World} {j : Nat} {a : Nat} {b x : List Int} (h : SyncAt W S g F N vo s j w1) (hj : s.opn[j]? = some ((a : Int), b)) (hx : s.now[a]? = some x)
    (hk : Keeps (fun _ => False) w1 w2) (hk3 : Keeps (· = F) w2 w3) (hb : w3.heap[F]? = some (.cells (put (Disk.flat (Disk.St.settle s.now s.fast (s.opn.take j))) (a * 64) (Disk.bytes8 x)).toArray 117 (0, 0))) : SyncAt W S g F N vo s (j + 1) w3 := by
  obtain ⟨hp, hK⟩ := h
  have q := hp.ok
  have hin := fun p hp => (q.o64 p hp)
  have hmem : ((a : Int), b) ∈ s.opn := List.mem_of_getElem? hj
  have ha : a < s.now.length := (List.getElem?_eq_some_iff.1 hx).1
  have e : Disk.St.settle s.now s.fast (s.opn.take (j + 1)) = (Disk.St.settle s.now s.fast (s.opn.take j)).set a x := by
    rw [List.take_add_one, hj, Option.toList_some, Disk.settle_snoc, Int.toNat_natCast, Disk.getD_of ha]
    rw [List.getElem?_eq_getElem ha] at hx
    cases hx
    rfl
  have hlen : (Disk.St.settle s.now s.fast (s.opn.take j)).length = s.now.length := q.len
  have h64 := q.f64
  have hx64 : x.length = 64 := q.n64 x (List.mem_of_getElem? hx)
  rw [Disk.flat_set h64 a x (by rw [hlen]; exact ha) hx64] at hb
  refine ⟨?_, (hK.trans hk (fun _ _ h => h.elim)).trans hk3 (fun k _ e => by subst e; exact hp.inS.2.1)⟩
  rw [e]
  refine DParts.setF (s := { s with fast := Disk.St.settle s.now s.fast (s.opn.take j) }) (hp.kept hk (fun _ _ h => h)) hk3 hb ?_ ?_
  · rw [List.length_set]
  · intro y hy
    rcases List.mem_or_eq_of_mem_set hy with hy | rfl
    · exact h64 y hy
    · exact hx64
set_option maxHeartbeats 800000 in
set_option maxRecDepth 100000 in
theorem sync_c (h : DParts w S g F N vo s) (few : s.opn.length ≤ 1000000) : Calls Try.prog 86 #[.pointer (some ⟨g, 0, none⟩)] w (Rets (SyncPost w S g F N s)) := by
  have hm := h.ok.most
  obtain ⟨t1, t2, t3⟩ := step_same s
  cases ho : s.off
  · have HR := Lib.hid (show (if s.off = true then 14 else 0) = (0 : Int) by simp [ho])
    have HO := Lib.hid ho
    clear ho
    cases hs : s.step.1
    · have HS := Lib.hid (show (if s.step.1 = true then 0 else 14) = (14 : Int) by simp [hs])
      have HE := Lib.hid (show s.sync = (14, s.step.2) by unfold Disk.St.sync; rw [if_neg (by simp [HO.out]), if_neg (by simp [hs])])
      clear hs t1 t2 t3
      go_enter Try.func86, Try.ntmps86
      go_wp2_with (first
        | (go_at_call 61; refine Rets.use (ready_c h) ?_; rw [HR.out]; rintro v w' ⟨rfl, rfl⟩)
        | (go_at_call 100; refine Rets.use (step_c h) ?_; rintro v w' ⟨rfl, hp, hk⟩; rw [HS.out]))
      go_ret
      exact ⟨by rw [HE.out]; rfl, ⟨vo, by rw [HE.out]; exact hp⟩, hk.mono (fun k _ e => by subst e; exact h.inS.1)⟩
    · have HS := Lib.hid (show (if s.step.1 = true then 0 else 14) = (0 : Int) by simp [hs])
      have HE := Lib.hid (show s.sync = (0, { s.step.2 with fast := Disk.St.settle s.now s.fast s.opn, opn := [] }) by unfold Disk.St.sync; rw [if_neg (by simp [HO.out]), if_pos hs])
      have T1 := Lib.hid t1
      have T2 := Lib.hid t2
      have T3 := Lib.hid t3
      clear hs t1 t2 t3
      obtain ⟨A, c, hv, hc, _, hA⟩ := h.own.slice
      go_enter Try.func86, Try.ntmps86
      go_wp2_with (first
        | (go_at_call 61; refine Rets.use (ready_c h) ?_; rw [HR.out]; rintro v w' ⟨rfl, rfl⟩)
        | (go_at_call 100; refine Rets.use (step_c h) ?_; rintro v w1 ⟨rfl, hp1, hk1⟩; rw [HS.out]; have hK1 := hk1.mono (S' := S) (fun k _ e => by rw [e]; exact h.inS.1); generalize hT : s.step.2 = t at *; have c2 := hp1.cell 2 _ rfl; rw [hv] at c2))
      have HV := Lib.hid hv
      have HT := Lib.hid hT
      clear hv hT c2
      have hOA : s.opn.length = 0 ∨ ∃ O, A = some ⟨O, 0, none⟩ := by
        rcases Nat.eq_zero_or_pos s.opn.length with h0 | h0
        · exact .inl h0
        · obtain ⟨O, cap, cur, e, _⟩ := h.own.form h0
          rw [HV.out] at e
          cases e
          exact .inr ⟨O, rfl⟩
      have HOA := Lib.hid hOA
      clear hOA
      have hin := hp1.ok.o64
      have HIn := Lib.hid hin
      clear hin
      go_loopw [22] (fun i wr => ∃ j : Nat, j ≤ s.opn.length ∧ i = .int .i64 j ∧ SyncAt w1 S g F N vo t j wr) (fun i _ => s.opn.length - (intOf i).toNat)
      case atStart =>
        refine ⟨0, Nat.zero_le _, rfl, ?_, Keeps.refl _ w1⟩
        simpa [Disk.St.settle] using hp1
      case round =>
        obtain ⟨j, hj, rfl, hat⟩ := hrel
        have HAt := Lib.hid hat
        by_cases hlt : j < s.opn.length
        · obtain ⟨O, rfl⟩ : ∃ O, A = some ⟨O, 0, none⟩ := HOA.out.resolve_left (by omega)
          have hlt' : j < t.opn.length := by rw [T3.out]; exact hlt
          obtain ⟨⟨pa, pb⟩, hp⟩ : ∃ p, t.opn[j]? = some p := ⟨_, List.getElem?_eq_getElem hlt'⟩
          obtain ⟨q1, q2, q3⟩ := HIn.out _ (List.mem_of_getElem? hp)
          simp only at q1 q2 q3
          obtain ⟨a, rfl⟩ : ∃ a : Nat, pa = a := ⟨pa.toNat, by omega⟩
          have ha : a < t.now.length := by omega
          have hx : t.now[a]? = some t.now[a] := List.getElem?_eq_getElem ha
          have hx64 : t.now[a].length = 64 := hp1.ok.n64 _ (List.getElem_mem ha)
          have own := hat.1.own
          rw [HV.out] at own
          have hoc := Disk.opens_cells (l := t.opn) (n := s.opn.length) own (fun p hp => (HIn.out p hp).1) hp
          have HOc := Lib.hid hoc
          have HHp := Lib.hid hp
          have HHx := Lib.hid hx
          have HX64 := Lib.hid (show (Disk.bytes8 t.now[a]).length = 64 by rw [Disk.bytes8_len]; exact hx64)
          have HB64 := Lib.hid (show (Disk.bytes8 pb).length = 64 by rw [Disk.bytes8_len]; exact q1)
          have HZ := Lib.hid (show (Disk.bytes8 Disk.zsec).length = 64 by rw [Disk.bytes8_len, Disk.zsec_len])
          have HOne := Lib.hid (all_oneCell_toArray (cs := .int .i64 (a : Int) :: Disk.bytes8 pb) (by intro v hv; rcases List.mem_cons.1 hv with rfl | hv; rfl; exact Disk.bytes8_one _ v hv))
          have HOnx := Lib.hid (all_oneCell_toArray (Disk.bytes8_one t.now[a]))
          have HXat := Lib.hid (Disk.flat_at hp1.ok.n64 a _ hx)
          have HFl := Lib.hid (show (Disk.flat (Disk.St.settle t.now t.fast (t.opn.take j))).length = t.now.length * 64 by rw [Disk.flat_len hat.1.ok.f64, hat.1.ok.len])
          have nmax : t.now.length ≤ 4096 := hat.1.ok.most
          have c0 := (hat.1.cell 0 _ rfl)
          have c1 := (hat.1.cell 1 _ rfl)
          have bN := hat.1.bN
          have bF := hat.1.bF
          have lg := lt_of hat.1.blk
          have lN := lt_of bN
          have lF := lt_of bF
          clear hat own hp hx hoc hx64 q1
          go_wp2_with (first
            | ((with_reducible refine at_ 25 rfl ?_); go_must (refine step_load_cells rfl 119 _ rfl O (j * 65) (.int .i64 a :: Disk.bytes8 pb) _ rfl HOc.out Try.underlying119 rfl (by rw [List.length_cons, HB64.out]; exact info_wr) ?_))
            | ((with_reducible refine at_ 6 rfl ?_); go_must (refine step_alloc rfl 119 rfl _ _ zero_wr rfl ?_); intro w2 hb2 hk2 hs2)
            | ((with_reducible refine at_store 119 (.tmp 6) (.tmp 25) rfl ?_); go_must (refine step_store rfl _ _ _ rfl wr.heap.size 0 (.int .i64 a :: Disk.bytes8 pb) _ _ rfl rfl hb2 (by rw [List.length_cons, List.length_cons, HB64.out, HZ.out]; omega) (by rw [List.length_cons, HB64.out]; exact info_wr) HOne.out ?_); intro w3 hb3 hk3 hs3; rw [put_whole (by rw [List.length_cons, List.length_cons, HB64.out, HZ.out])] at hb3; clear hb2))
          refine Canon.row [0, 1, 2, 4, 6, 7, 8, 10, 3, 5, 9, 11, 12, 13, 14, 15] (by kernel_rfl) (by kernel_rfl) (by repeat (first | (with_reducible exact Safe.body) | (with_reducible apply Safe.then) | (with_reducible apply Safe.inBlock) | (dsimp +zetaDelta only))) ?_
          simp only [Canon.pick, Canon.wpPlan, List.getElem?_toArray, List.getElem?_cons_zero, List.getElem?_cons_succ]
          have K3 : Keeps (· = wr.heap.size) wr w3.drew := ((hk2.mono (fun _ _ h => h.elim)).trans hk3 (fun _ _ h => h)).drew
          have c0' := K3.cell c0 (Nat.ne_of_lt lg)
          have c1' := K3.cell c1 (Nat.ne_of_lt lg)
          have bN' := K3.heap bN (Nat.ne_of_lt lN)
          have bF' := K3.heap bF (Nat.ne_of_lt lF)
          have cW : w3.drew.cell? ⟨wr.heap.size, 0, none⟩ = some (.int .i64 a) := (cell_of_row w3.drew wr.heap.size 0 _ _ _ hb3).trans rfl
          clear c0 c1 bN bF hb3 hk3 hk2
          generalize w3.drew = w4 at *
          go_wp2_with (first
            | ((with_reducible refine at_ 39 rfl ?_); go_must (refine step_load rfl 117 _ rfl N (a * 64) (Disk.bytes8 t.now[a]) _ _ _ _ rfl bN' (by rw [HX64.out]; exact HXat.out) Try.underlying117 rfl (by rw [HX64.out]; exact info_sec) ?_))
            | ((with_reducible refine at_store 117 (.tmp 40) (.tmp 39) rfl ?_); go_must (refine step_store rfl _ _ _ rfl F (a * 64) (Disk.bytes8 t.now[a]) _ _ rfl rfl bF' (by rw [HX64.out, HFl.out]; omega) (by rw [HX64.out]; exact info_sec) HOnx.out ?_); intro w5 bF5 hk5 hs5))
          refine ⟨by rfl, trivial, ?_⟩
          go_wp2
          go_roundw
          case rel =>
            refine ⟨j + 1, by omega, by go_num, ?_⟩
            exact HAt.out.next HHp.out HHx.out (K3.mono (fun _ h e => by omega)) hk5 bF5
          case measure => simp [intOf]; omega
        · have e : j = s.opn.length := by omega
          subst e
          clear hlt
          have b0 := hat.1.blk
          clear hat
          go_wp2_with ((with_reducible refine at_store 98 (.tmp 44) (.const (.slice none 0 0)) rfl ?_); go_must (refine step_store1 rfl _ _ _ rfl g 2 (.slice none 0 0) _ _ rfl rfl rfl b0 (by simp) info_wrs ?_); intro w2 b2 hk2 hs2)
          go_ret
          have hp := HAt.out.1
          have e : t.opn.take s.opn.length = s.opn := by rw [T3.out, List.take_length]
          have q := hp.ok
          refine ⟨by rw [HE.out]; rfl, ⟨.slice none 0 0, ?_⟩, (hK1.trans HAt.out.2 (fun _ _ h => h)).trans hk2 (fun k _ e => by subst e; exact h.inS.1)⟩
          rw [HE.out]
          refine ⟨by rw [b2]; simp, ?_, hk2.heap hp.bN h.ne.2.1, OwnRow.nil _ _ _ _, h.inS, h.ne, ?_⟩
          · have bF := hk2.heap hp.bF h.ne.1
            rw [e, T1.out, T2.out] at bF
            exact bF
          · have e2 := q.f64
            have e3 := q.len
            rw [e, T1.out, T2.out] at e2 e3
            exact ⟨by simpa [T1.out] using e3, q.pos, q.most, e2, q.n64, fun p hp => (by cases hp), q.left0, q.left1⟩
  · have HR := Lib.hid (show (if s.off = true then 14 else 0) = (14 : Int) by simp [ho])
    have HE := Lib.hid (show s.sync = (14, s) by unfold Disk.St.sync; rw [if_pos ho])
    clear ho
    go_enter Try.func86, Try.ntmps86
    go_wp2_with (go_at_call 61; refine Rets.use (ready_c h) ?_; rw [HR.out]; rintro v w' ⟨rfl, rfl⟩)
    go_ret
    exact ⟨by rw [HE.out]; rfl, ⟨vo, by rw [HE.out]; exact h⟩, Keeps.refl _ w⟩
end
end Go.Proofs.Ytbiohidelhfaiaa
end

section
namespace Go.Proofs.Ytbiohidelhfaiaa
open Go.RowKit Go.Canon Go.Mem
set_option linter.unusedVariables false
set_option linter.unusedSimpArgs false
section
variable {w : World} {S : Nat → Prop} {g F N : Nat} {vo : Value} {s : Disk.St}
def CrashPost (w : World) (S : Nat → Prop) (g F N : Nat) (s : Disk.St) (keep : List Bool) (v : Value) (w' : World) : Prop :=
  v = .int .i64 0 ∧ (∃ vo', DParts w' S g F N vo' (s.crash keep)) ∧ Keeps S w w'
def bools (l : List Bool) : List Value := l.map Value.bool
/-- Behind j of the open writes: those that are kept are fast. -/
def KeepAt (w : World) (S : Nat → Prop) (g F N : Nat) (vo : Value) (s : Disk.St) (keep : List Bool) (j : Nat) (w' : World) : Prop :=
  DParts w' S g F N vo { s with fast := Disk.St.keep keep 0 s.fast (s.opn.take j) } ∧ Keeps S w w'
theorem KeepAt.skip {W w1 w2 : World} {keep : List Bool} {j : Nat} {p : Int × List Int} (h : KeepAt W S g F N vo s keep j w1) (hj : s.opn[j]? = some p) (hn : keep.getD j false = false) (hk : Keeps (fun _ => False) w1 w2) : KeepAt W S g F N vo s keep (j + 1) w2 := by
  obtain ⟨hp, hK⟩ := h
  have hl : (s.opn.take j).length = j := List.length_take_of_le (Nat.le_of_lt (List.getElem?_eq_some_iff.1 hj).1)
  refine ⟨?_, hK.trans hk (fun _ _ h => h.elim)⟩
  rw [List.take_add_one, hj, Option.toList_some, Disk.keep_snoc, Nat.zero_add, hl, if_neg (by rw [hn]; decide)]
  exact hp.kept hk (fun _ _ h => h)
theorem KeepAt.next {W w1 w2 w3 : World} {keep : List Bool} {j : Nat} {a : Nat} {b : List Int} (h : KeepAt W S g F N vo s keep j w1) (hj : s.opn[j]? = some ((a : Int), b)) (hn : keep.getD j false = true) (hk : Keeps (fun _ => False) w1 w2)
    (hk3 : Keeps (· = F) w2 w3) (hb : w3.heap[F]? = some (.cells (put (Disk.flat (Disk.St.keep keep 0 s.fast (s.opn.take j))) (a * 64) (Disk.bytes8 b)).toArray 117 (0, 0))) : KeepAt W S g F N vo s keep (j + 1) w3 := by
  obtain ⟨hp, hK⟩ := h
  have q := hp.ok
  have hl : (s.opn.take j).length = j := List.length_take_of_le (Nat.le_of_lt (List.getElem?_eq_some_iff.1 hj).1)
  obtain ⟨q1, _, q3⟩ := q.o64 _ (List.mem_of_getElem? hj)
  have hlen : (Disk.St.keep keep 0 s.fast (s.opn.take j)).length = s.now.length := q.len
  have q3' : a < s.now.length := by simpa using q3
  rw [Disk.flat_set q.f64 a b (by rw [hlen]; exact q3') q1] at hb
  refine ⟨?_, (hK.trans hk (fun _ _ h => h.elim)).trans hk3 (fun k _ e => by subst e; exact hp.inS.2.1)⟩
  rw [List.take_add_one, hj, Option.toList_some, Disk.keep_snoc, Nat.zero_add, hl, if_pos hn, Int.toNat_natCast]
  refine DParts.setF (s := { s with fast := Disk.St.keep keep 0 s.fast (s.opn.take j) }) (hp.kept hk (fun _ _ h => h)) hk3 hb (by rw [List.length_set]) (fun y hy => ?_)
  rcases List.mem_or_eq_of_mem_set hy with hy | rfl
  · exact q.f64 y hy
  · exact q1
/-- Behind j of the open writes: what is fast is there. -/
def BackAt (w : World) (S : Nat → Prop) (g F N : Nat) (vo : Value) (s : Disk.St) (j : Nat) (w' : World) : Prop :=
  DParts w' S g F N vo { s with now := Disk.St.settle s.fast s.now (s.opn.take j) } ∧ Keeps S w w'
theorem BackAt.next {W w1 w2 w3 : World} {j : Nat} {a : Nat} {b x : List Int} (h : BackAt W S g F N vo s j w1) (hj : s.opn[j]? = some ((a : Int), b)) (hx : s.fast[a]? = some x)
    (hk : Keeps (fun _ => False) w1 w2) (hk3 : Keeps (· = N) w2 w3) (hb : w3.heap[N]? = some (.cells (put (Disk.flat (Disk.St.settle s.fast s.now (s.opn.take j))) (a * 64) (Disk.bytes8 x)).toArray 117 (0, 0))) : BackAt W S g F N vo s (j + 1) w3 := by
  obtain ⟨hp, hK⟩ := h
  have q := hp.ok
  have ha : a < s.fast.length := (List.getElem?_eq_some_iff.1 hx).1
  have e : Disk.St.settle s.fast s.now (s.opn.take (j + 1)) = (Disk.St.settle s.fast s.now (s.opn.take j)).set a x := by
    rw [List.take_add_one, hj, Option.toList_some, Disk.settle_snoc, Int.toNat_natCast, Disk.getD_of ha]
    rw [List.getElem?_eq_getElem ha] at hx
    cases hx
    rfl
  have hlen : s.fast.length = (Disk.St.settle s.fast s.now (s.opn.take j)).length := q.len
  have hx64 : x.length = 64 := q.f64 x (List.mem_of_getElem? hx)
  rw [Disk.flat_set q.n64 a x (by rw [← hlen]; exact ha) hx64] at hb
  refine ⟨?_, (hK.trans hk (fun _ _ h => h.elim)).trans hk3 (fun k _ e => by subst e; exact hp.inS.2.2)⟩
  rw [e]
  refine DParts.setN (s := { s with now := Disk.St.settle s.fast s.now (s.opn.take j) }) (hp.kept hk (fun _ _ h => h)) hk3 hb (by rw [List.length_set]) (fun y hy => ?_)
  rcases List.mem_or_eq_of_mem_set hy with hy | rfl
  · exact q.n64 y hy
  · exact hx64
set_option maxHeartbeats 1600000 in
set_option maxRecDepth 100000 in
theorem crash_c {ok : Nat → Prop} (h : DParts w S g F N vo s) (few : s.opn.length ≤ 1000000) (v : Value) (keep : List Bool) (hr : Rd w ok v keep.length (bools keep)) (hok : ∀ k, ok k → ¬ S k) (hkl : keep.length ≤ 9223372036854775807) :
    Calls Try.prog 33 #[.pointer (some ⟨g, 0, none⟩), v] w (Rets (CrashPost w S g F N s keep)) := by
  have hm := h.ok.most
  obtain ⟨A, c, hv, hc, _, hA⟩ := h.own.slice
  obtain ⟨B, cB, rfl, hcB, _⟩ := hr.slice
  have c2 := h.cell 2 _ rfl
  rw [hv] at c2
  have HV := Lib.hid hv
  have hOA : s.opn.length = 0 ∨ ∃ O, A = some ⟨O, 0, none⟩ := by
    rcases Nat.eq_zero_or_pos s.opn.length with h0 | h0
    · exact .inl h0
    · obtain ⟨O, cap, cur, e, _⟩ := h.own.form h0
      rw [HV.out] at e
      cases e
      exact .inr ⟨O, rfl⟩
  have HOA := Lib.hid hOA
  have HIn := Lib.hid h.ok.o64
  have HR := Lib.hid hr.lt
  clear hOA hv hr
  go_enter Try.func33, Try.ntmps33
  go_wp2_with (go_at_call 62; refine Rets.use (made_c h) ?_; rintro v w' ⟨rfl, rfl⟩)
  clear c2
  go_loopw [17] (fun i wr => ∃ j : Nat, j ≤ s.opn.length ∧ i = .int .i64 j ∧ KeepAt w S g F N vo s keep j wr) (fun i _ => s.opn.length - (intOf i).toNat)
  case atStart =>
    refine ⟨0, Nat.zero_le _, rfl, ?_, Keeps.refl _ w⟩
    simpa [Disk.St.keep] using h
  case round =>
    obtain ⟨j, hj, rfl, hat⟩ := hrel
    have HAt := Lib.hid hat
    by_cases hlt : j < s.opn.length
    · obtain ⟨O, rfl⟩ : ∃ O, A = some ⟨O, 0, none⟩ := HOA.out.resolve_left (by omega)
      obtain ⟨⟨pa, pb⟩, hp⟩ : ∃ p, s.opn[j]? = some p := ⟨_, List.getElem?_eq_getElem hlt⟩
      obtain ⟨q1, q2, q3⟩ := HIn.out _ (List.mem_of_getElem? hp)
      simp only at q1 q2 q3
      obtain ⟨a, rfl⟩ : ∃ a : Nat, pa = a := ⟨pa.toNat, by omega⟩
      have ha : a < s.now.length := by omega
      have own := hat.1.own
      rw [HV.out] at own
      have HOc := Lib.hid (Disk.opens_cells (l := s.opn) (n := s.opn.length) own (fun p hp => (HIn.out p hp).1) hp)
      have HHp := Lib.hid hp
      have HB64 := Lib.hid (show (Disk.bytes8 pb).length = 64 by rw [Disk.bytes8_len]; exact q1)
      have HZ := Lib.hid (show (Disk.bytes8 Disk.zsec).length = 64 by rw [Disk.bytes8_len, Disk.zsec_len])
      have HOne := Lib.hid (all_oneCell_toArray (cs := .int .i64 (a : Int) :: Disk.bytes8 pb) (by intro v hv; rcases List.mem_cons.1 hv with rfl | hv; rfl; exact Disk.bytes8_one _ v hv))
      have HOnb := Lib.hid (all_oneCell_toArray (Disk.bytes8_one pb))
      have HFl := Lib.hid (show (Disk.flat (Disk.St.keep keep 0 s.fast (s.opn.take j))).length = s.now.length * 64 by rw [Disk.flat_len hat.1.ok.f64, hat.1.ok.len])
      have HVT := Lib.hid (show ((Value.int .i64 (a : Int) :: Disk.bytes8 pb).drop 1).take (Disk.bytes8 pb).length = Disk.bytes8 pb by simp)
      have nmax : s.now.length ≤ 4096 := hat.1.ok.most
      have c0 := (hat.1.cell 0 _ rfl)
      have bF := hat.1.bF
      have lg := lt_of hat.1.blk
      have lF := lt_of bF
      have HRr := Lib.hid (HR.out.kept hat.2 (fun k hh => hok k hh.1))
      have szr := hat.2.size
      clear hat own hp q1
      by_cases hkj : j < keep.length
      · obtain ⟨bb, ob, cb, e1, _, e2, e3⟩ := HRr.out.at (by intro e; have := congrArg List.length e; rw [bools, List.length_map, List.length_nil] at this; omega)
        cases e1
        have ck : wr.cell? ⟨bb, ob + j, none⟩ = some (.bool keep[j]) := e3 j _ (by simp [bools, hkj])
        have lb : bb < w.heap.size := e2.2
        clear e3
        cases hkk : keep[j]
        · rw [hkk] at ck
          have HKK := Lib.hid (show keep.getD j false = false by rw [List.getD_eq_getElem?_getD, List.getElem?_eq_getElem hkj]; exact hkk)
          clear hkk
          go_wp2_with (first
            | ((with_reducible refine at_ 21 rfl ?_); go_must (refine step_load_cells rfl 119 _ rfl O (j * 65) (.int .i64 a :: Disk.bytes8 pb) _ rfl HOc.out Try.underlying119 rfl (by rw [List.length_cons, HB64.out]; exact info_wr) ?_))
            | ((with_reducible refine at_ 6 rfl ?_); go_must (refine step_alloc rfl 119 rfl _ _ zero_wr rfl ?_); intro w2 hb2 hk2 hs2)
            | ((with_reducible refine at_store 119 (.tmp 6) (.tmp 21) rfl ?_); go_must (refine step_store rfl _ _ _ rfl wr.heap.size 0 (.int .i64 a :: Disk.bytes8 pb) _ _ rfl rfl hb2 (by rw [List.length_cons, List.length_cons, HB64.out, HZ.out]; omega) (by rw [List.length_cons, HB64.out]; exact info_wr) HOne.out ?_); intro w3 hb3 hk3 hs3; clear hb3; have ck3 := hk3.cell (hk2.cell ck (fun h => h)) (show bb ≠ wr.heap.size by omega); clear hb2))
          go_roundw
          case rel =>
            refine ⟨j + 1, by omega, by go_num, ?_⟩
            exact HAt.out.skip HHp.out HKK.out ⟨hk3.os.trans hk2.os, hk3.tape.trans hk2.tape, hk3.output.trans hk2.output, Nat.le_trans hk2.size hk3.size, fun k hk _ => (hk3.block k (by omega) (by omega)).trans (hk2.block k hk (fun h => h))⟩
          case measure => simp [intOf]; omega
        · rw [hkk] at ck
          have HKK := Lib.hid (show keep.getD j false = true by rw [List.getD_eq_getElem?_getD, List.getElem?_eq_getElem hkj]; exact hkk)
          clear hkk
          go_wp2_with (first
            | ((with_reducible refine at_ 21 rfl ?_); go_must (refine step_load_cells rfl 119 _ rfl O (j * 65) (.int .i64 a :: Disk.bytes8 pb) _ rfl HOc.out Try.underlying119 rfl (by rw [List.length_cons, HB64.out]; exact info_wr) ?_))
            | ((with_reducible refine at_ 6 rfl ?_); go_must (refine step_alloc rfl 119 rfl _ _ zero_wr rfl ?_); intro w2 hb2 hk2 hs2)
            | ((with_reducible refine at_store 119 (.tmp 6) (.tmp 21) rfl ?_); go_must (refine step_store rfl _ _ _ rfl wr.heap.size 0 (.int .i64 a :: Disk.bytes8 pb) _ _ rfl rfl hb2 (by rw [List.length_cons, List.length_cons, HB64.out, HZ.out]; omega) (by rw [List.length_cons, HB64.out]; exact info_wr) HOne.out ?_); intro w3 hb3 hk3 hs3; rw [put_whole (by rw [List.length_cons, List.length_cons, HB64.out, HZ.out])] at hb3; have ck3 := hk3.cell (hk2.cell ck (fun h => h)) (show bb ≠ wr.heap.size by omega); clear hb2))
          refine Canon.row [0, 1, 2, 4, 6, 3, 5, 7, 8, 9] (by kernel_rfl) (by kernel_rfl) (by repeat (first | (with_reducible exact Safe.body) | (with_reducible apply Safe.then) | (with_reducible apply Safe.inBlock) | (dsimp +zetaDelta only))) ?_
          simp only [Canon.pick, Canon.wpPlan, List.getElem?_toArray, List.getElem?_cons_zero, List.getElem?_cons_succ]
          have K3 : Keeps (fun _ => False) wr w3.drew := ⟨hk3.os.trans hk2.os, hk3.tape.trans hk2.tape, hk3.output.trans hk2.output, Nat.le_trans hk2.size hk3.size, fun k hk _ => (hk3.block k (by omega) (by omega)).trans (hk2.block k hk (fun h => h))⟩
          have c0' := K3.cell c0 (fun h => h)
          have bF' := K3.heap bF (fun h => h)
          have bW : w3.drew.heap[wr.heap.size]? = some (.cells (.int .i64 (a : Int) :: Disk.bytes8 pb).toArray 119 (0, 0)) := hb3
          have cW : w3.drew.cell? ⟨wr.heap.size, 0, none⟩ = some (.int .i64 a) := (cell_of_row w3.drew wr.heap.size 0 _ _ _ hb3).trans rfl
          clear c0 bF hb3 hk3 hk2 ck ck3
          generalize w3.drew = w4 at *
          go_wp2_with (first
            | ((with_reducible refine at_ 39 rfl ?_); go_must (refine step_load rfl 117 _ rfl wr.heap.size 1 (Disk.bytes8 pb) _ _ _ _ rfl bW HVT.out Try.underlying117 rfl (by rw [HB64.out]; exact info_sec) ?_))
            | ((with_reducible refine at_store 117 (.tmp 40) (.tmp 39) rfl ?_); go_must (refine step_store rfl _ _ _ rfl F (a * 64) (Disk.bytes8 pb) _ _ rfl rfl bF' (by rw [HB64.out, HFl.out]; omega) (by rw [HB64.out]; exact info_sec) HOnb.out ?_); intro w5 bF5 hk5 hs5))
          refine ⟨by rfl, trivial, ?_⟩
          go_wp2
          go_roundw
          case rel =>
            refine ⟨j + 1, by omega, by go_num, ?_⟩
            exact HAt.out.next HHp.out HKK.out K3 hk5 bF5
          case measure => simp [intOf]; omega
      · have HKK := Lib.hid (show keep.getD j false = false by rw [List.getD_eq_getElem?_getD, List.getElem?_eq_none (by omega)]; rfl)
        go_wp2_with (first
            | ((with_reducible refine at_ 21 rfl ?_); go_must (refine step_load_cells rfl 119 _ rfl O (j * 65) (.int .i64 a :: Disk.bytes8 pb) _ rfl HOc.out Try.underlying119 rfl (by rw [List.length_cons, HB64.out]; exact info_wr) ?_))
            | ((with_reducible refine at_ 6 rfl ?_); go_must (refine step_alloc rfl 119 rfl _ _ zero_wr rfl ?_); intro w2 hb2 hk2 hs2)
            | ((with_reducible refine at_store 119 (.tmp 6) (.tmp 21) rfl ?_); go_must (refine step_store rfl _ _ _ rfl wr.heap.size 0 (.int .i64 a :: Disk.bytes8 pb) _ _ rfl rfl hb2 (by rw [List.length_cons, List.length_cons, HB64.out, HZ.out]; omega) (by rw [List.length_cons, HB64.out]; exact info_wr) HOne.out ?_); intro w3 hb3 hk3 hs3; clear hb3 hb2))
        go_roundw
        case rel =>
          refine ⟨j + 1, by omega, by go_num, ?_⟩
          exact HAt.out.skip HHp.out HKK.out ⟨hk3.os.trans hk2.os, hk3.tape.trans hk2.tape, hk3.output.trans hk2.output, Nat.le_trans hk2.size hk3.size, fun k hk _ => (hk3.block k (by omega) (by omega)).trans (hk2.block k hk (fun h => h))⟩
        case measure => simp [intOf]; omega
    · have e : j = s.opn.length := by omega
      subst e
      clear hlt
      obtain ⟨hp1, hK1⟩ := HAt.out
      rw [List.take_length] at hp1
      generalize hT : ({ s with fast := Disk.St.keep keep 0 s.fast s.opn } : Disk.St) = t at hp1
      have T1 := Lib.hid (show t.now = s.now by rw [← hT])
      have T3 := Lib.hid (show t.opn = s.opn by rw [← hT])
      have HT := Lib.hid hT
      have c2 := hp1.cell 2 _ rfl
      rw [HV.out] at c2
      clear hT hat HAt
      go_wp2
      clear c2
      have HIn' := Lib.hid hp1.ok.o64
      obtain ⟨wo, rfl⟩ : ∃ wo : World, wo = wr := ⟨_, rfl⟩
      go_loopw [47] (fun i wr' => ∃ j : Nat, j ≤ s.opn.length ∧ i = .int .i64 j ∧ BackAt wo S g F N vo t j wr') (fun i _ => s.opn.length - (intOf i).toNat)
      case atStart =>
        refine ⟨0, Nat.zero_le _, rfl, ?_, Keeps.refl _ wo⟩
        simpa [Disk.St.settle] using hp1
      case round =>
        obtain ⟨j, hj, rfl, hat⟩ := hrel
        have HAt := Lib.hid hat
        by_cases hlt : j < s.opn.length
        · obtain ⟨O, rfl⟩ : ∃ O, A = some ⟨O, 0, none⟩ := HOA.out.resolve_left (by omega)
          have hlt' : j < t.opn.length := by rw [T3.out]; exact hlt
          obtain ⟨⟨pa, pb⟩, hp⟩ : ∃ p, t.opn[j]? = some p := ⟨_, List.getElem?_eq_getElem hlt'⟩
          obtain ⟨q1, q2, q3⟩ := HIn'.out _ (List.mem_of_getElem? hp)
          simp only at q1 q2 q3
          obtain ⟨a, rfl⟩ : ∃ a : Nat, pa = a := ⟨pa.toNat, by omega⟩
          have hfl : t.fast.length = t.now.length := hp1.ok.len
          have ha : a < t.fast.length := by omega
          have hx : t.fast[a]? = some t.fast[a] := List.getElem?_eq_getElem ha
          have hx64 : t.fast[a].length = 64 := hp1.ok.f64 _ (List.getElem_mem ha)
          have own := hat.1.own
          rw [HV.out] at own
          have HOc := Lib.hid (Disk.opens_cells (l := t.opn) (n := s.opn.length) (by have := own; rw [show t.opn.length = s.opn.length from T3.out ▸ rfl] at this ⊢; exact this) (fun p hp => (HIn'.out p hp).1) hp)
          have HHp := Lib.hid hp
          have HHx := Lib.hid hx
          have HX64 := Lib.hid (show (Disk.bytes8 t.fast[a]).length = 64 by rw [Disk.bytes8_len]; exact hx64)
          have HB64 := Lib.hid (show (Disk.bytes8 pb).length = 64 by rw [Disk.bytes8_len]; exact q1)
          have HZ := Lib.hid (show (Disk.bytes8 Disk.zsec).length = 64 by rw [Disk.bytes8_len, Disk.zsec_len])
          have HOne := Lib.hid (all_oneCell_toArray (cs := .int .i64 (a : Int) :: Disk.bytes8 pb) (by intro v hv; rcases List.mem_cons.1 hv with rfl | hv; rfl; exact Disk.bytes8_one _ v hv))
          have HOnx := Lib.hid (all_oneCell_toArray (Disk.bytes8_one t.fast[a]))
          have HXat := Lib.hid (Disk.flat_at hp1.ok.f64 a _ hx)
          have HFl := Lib.hid (show (Disk.flat (Disk.St.settle t.fast t.now (t.opn.take j))).length = t.fast.length * 64 by rw [Disk.flat_len hat.1.ok.n64, ← hat.1.ok.len])
          have nlen : (Disk.St.settle t.fast t.now (t.opn.take j)).length = t.now.length := Disk.settle_len _ _ _
          have nmax : t.now.length ≤ 4096 := hp1.ok.most
          have c0 := (hat.1.cell 0 _ rfl)
          have c1 := (hat.1.cell 1 _ rfl)
          simp only [nlen] at c0 c1
          have bN := hat.1.bN
          have bF := hat.1.bF
          have lg := lt_of hat.1.blk
          have lN := lt_of bN
          have lF := lt_of bF
          clear hat own hp hx hx64 q1 nlen
          go_wp2_with (first
            | ((with_reducible refine at_ 50 rfl ?_); go_must (refine step_load_cells rfl 119 _ rfl O (j * 65) (.int .i64 a :: Disk.bytes8 pb) _ rfl HOc.out Try.underlying119 rfl (by rw [List.length_cons, HB64.out]; exact info_wr) ?_))
            | ((with_reducible refine at_ 8 rfl ?_); go_must (refine step_alloc rfl 119 rfl _ _ zero_wr rfl ?_); intro w2 hb2 hk2 hs2)
            | ((with_reducible refine at_store 119 (.tmp 8) (.tmp 50) rfl ?_); go_must (refine step_store rfl _ _ _ rfl wr.heap.size 0 (.int .i64 a :: Disk.bytes8 pb) _ _ rfl rfl hb2 (by rw [List.length_cons, List.length_cons, HB64.out, HZ.out]; omega) (by rw [List.length_cons, HB64.out]; exact info_wr) HOne.out ?_); intro w3 hb3 hk3 hs3; rw [put_whole (by rw [List.length_cons, List.length_cons, HB64.out, HZ.out])] at hb3; clear hb2))
          refine Canon.row [0, 1, 2, 4, 6, 7, 8, 10, 3, 5, 9, 11, 12, 13, 14, 15] (by kernel_rfl) (by kernel_rfl) (by repeat (first | (with_reducible exact Safe.body) | (with_reducible apply Safe.then) | (with_reducible apply Safe.inBlock) | (dsimp +zetaDelta only))) ?_
          simp only [Canon.pick, Canon.wpPlan, List.getElem?_toArray, List.getElem?_cons_zero, List.getElem?_cons_succ]
          have K3 : Keeps (fun _ => False) wr w3.drew := ⟨hk3.os.trans hk2.os, hk3.tape.trans hk2.tape, hk3.output.trans hk2.output, Nat.le_trans hk2.size hk3.size, fun k hk _ => (hk3.block k (by omega) (by omega)).trans (hk2.block k hk (fun h => h))⟩
          have c0' := K3.cell c0 (fun h => h)
          have c1' := K3.cell c1 (fun h => h)
          have bN' := K3.heap bN (fun h => h)
          have bF' := K3.heap bF (fun h => h)
          have cW : w3.drew.cell? ⟨wr.heap.size, 0, none⟩ = some (.int .i64 a) := (cell_of_row w3.drew wr.heap.size 0 _ _ _ hb3).trans rfl
          clear c0 c1 bN bF hb3 hk3 hk2
          generalize w3.drew = w4 at *
          go_wp2_with (first
            | ((with_reducible refine at_ 64 rfl ?_); go_must (refine step_load rfl 117 _ rfl F (a * 64) (Disk.bytes8 t.fast[a]) _ _ _ _ rfl bF' (by rw [HX64.out]; exact HXat.out) Try.underlying117 rfl (by rw [HX64.out]; exact info_sec) ?_))
            | ((with_reducible refine at_store 117 (.tmp 65) (.tmp 64) rfl ?_); go_must (refine step_store rfl _ _ _ rfl N (a * 64) (Disk.bytes8 t.fast[a]) _ _ rfl rfl bN' (by rw [HX64.out, HFl.out]; omega) (by rw [HX64.out]; exact info_sec) HOnx.out ?_); intro w5 bN5 hk5 hs5))
          refine ⟨by rfl, trivial, ?_⟩
          go_wp2
          go_roundw
          case rel =>
            refine ⟨j + 1, by omega, by go_num, ?_⟩
            exact HAt.out.next HHp.out HHx.out K3 hk5 bN5
          case measure => simp [intOf]; omega
        · have e : j = s.opn.length := by omega
          subst e
          clear hlt
          have b0 := hat.1.blk
          clear hat
          go_wp2_with (first
            | ((with_reducible refine at_store 98 (.tmp 72) (.const (.slice none 0 0)) rfl ?_); go_must (refine step_store1 rfl _ _ _ rfl g 2 (.slice none 0 0) _ _ rfl rfl rfl b0 (by simp) info_wrs ?_); intro w2 b2 hk2 hs2)
            | ((with_reducible refine at_store 4 (.tmp 74) (.const (.bool false)) rfl ?_); go_must (refine step_store1 rfl _ _ _ rfl g 3 (.bool false) _ _ rfl rfl rfl b2 (by simp) info_bool ?_); intro w3 b3 hk3 hs3)
            | ((with_reducible refine at_store 3 (.tmp 76) (.const (.int .i64 0)) rfl ?_); go_must (refine step_store1 rfl _ _ _ rfl g 4 (.int .i64 0) _ _ rfl rfl rfl b3 (by simp) info_int ?_); intro w4 b4 hk4 hs4)
            | ((with_reducible refine at_store 4 (.tmp 78) (.const (.bool false)) rfl ?_); go_must (refine step_store1 rfl _ _ _ rfl g 5 (.bool false) _ _ rfl rfl rfl b4 (by simp) info_bool ?_); intro w5 b5 hk5 hs5))
          go_ret
          have hp := HAt.out.1
          have e : t.opn.take s.opn.length = s.opn := by rw [T3.out, List.take_length]
          have q := hp.ok
          have kk := ((hk2.trans hk3 (fun _ _ h => h)).trans hk4 (fun _ _ h => h)).trans hk5 (fun _ _ h => h)
          have kS : Keeps S w w5 := ((hK1.trans HAt.out.2 (fun _ _ h => h)).trans kk (fun k _ e => by subst e; exact h.inS.1))
          have T2 : t.fast = Disk.St.keep keep 0 s.fast s.opn := by rw [← HT.out]
          refine ⟨rfl, ⟨.slice none 0 0, ?_⟩, kS⟩
          have nl : (Disk.St.settle t.fast t.now s.opn).length = s.now.length := by rw [Disk.settle_len, T1.out]
          have e1 : s.crash keep = ⟨t.fast, Disk.St.settle t.fast t.now s.opn, [], false, 0, false⟩ := by rw [T2, T1.out]; rfl
          have bN := kk.heap hp.bN h.ne.2.1
          have bF := kk.heap hp.bF h.ne.1
          rw [e] at bN
          rw [e1]
          have n64 := q.n64
          have qpos := q.pos
          have qmost := q.most
          have qlen := q.len
          rw [e] at n64 qpos qmost qlen
          refine ⟨?_, bF, bN, OwnRow.nil _ _ _ _, h.inS, h.ne, ⟨qlen, qpos, qmost, q.f64, n64, fun p hp => (by cases hp), Int.le_refl _, show (0 : Int) ≤ 9223372036854775807 by decide⟩⟩
          rw [b5]
          simp [e]
end
end Go.Proofs.Ytbiohidelhfaiaa
end
