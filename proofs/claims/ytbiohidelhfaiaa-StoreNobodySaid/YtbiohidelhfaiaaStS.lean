/-
  The walk of change.
-/
import Derived.Test.YtbiohidelhfaiaaStR
import Derived.Test.YtbiohidelhfaiaaChgM
import Derived.Test.YtbiohidelhfaiaaClone
namespace Go.Proofs.Ytbiohidelhfaiaa
open Go.RowKit Go.Canon Go.Mem
open Go.Proofs.Ytbiohidelhfaiaa.Sto (Chg)
set_option linter.unusedVariables false
set_option linter.unusedSimpArgs false
theorem piece_sub {b k r : List Int} (hB : IsB b) (h : Sto.piece b = some (k, r)) : IsB k ∧ IsB r ∧ k.length ≤ b.length ∧ r.length ≤ b.length := by
  unfold Sto.piece at h
  split at h
  · cases h
  · simp only [Option.some.injEq, Prod.mk.injEq] at h
    obtain ⟨rfl, rfl⟩ := h
    exact ⟨fun x hx => hB x (List.drop_subset _ _ (List.mem_of_mem_take hx)), fun x hx => hB x (List.drop_subset _ _ hx), by rw [List.length_take, List.length_drop]; omega, by rw [List.length_drop]; omega⟩
theorem ret_cell_tmp2 {P : Program} {w : World} {fn : Func} {t s u : Tmp} {ty : TypeId} (h : fn.results = #[.cell t ty, .tmp s, .tmp u]) {tmps : Array Value} {b : Nat} (vs : List Value) {te : TypeId} {fr : Nat × Nat} (d : TypeDesc) (hx : tmps.getD t undef = .pointer (some ⟨b, 0, none⟩)) (hb : w.heap[b]? = some (.cells vs.toArray te fr))
    (hu : P.underlying ty = some d) (hd : d.isRow = true) (hi : (P.info? ty).map (·.size) = some vs.length) : (results fn tmps).run P w = .ok (.tuple #[.agg vs.toArray, tmps.getD s undef, tmps.getD u undef]) w := by
  have hx' : tmps[t]?.getD undef = .pointer (some ⟨b, 0, none⟩) := by rw [← Array.getD_eq_getD_getElem?]; exact hx
  simp [results, h, hx', asAddr, run_loadVar_mid w b 0 ty vs d (range_of hb) hu hd hi]
theorem info_str : (Try.prog.info? 9).map (·.size) = some 1 := by kernel_rfl
theorem info_bytes : (Try.prog.info? 23).map (·.size) = some 1 := by kernel_rfl
/-- A change that was read, and what is behind it. -/
def ChangeIs (w : World) (ok : Nat → Prop) (r : Option (Chg × List Int)) : Value → World → Prop := fun v w' => Keeps (fun _ => False) w w' ∧ match r with
  | none => ∃ c vV a, v = .tuple #[.agg (chgC c vV).toArray, a, .bool false] ∧ vV.oneCell' = true
  | some (c, r) => ∃ vV a, v = .tuple #[.agg (chgC c vV).toArray, a, .bool true] ∧ OwnRow w' (fun j => w.heap.size ≤ j) 5 1 vV c.val.length (Disk.bytes8 c.val) ∧ Rd w' ok a r.length (Disk.bytes8 r)
set_option maxHeartbeats 3200000 in
set_option maxRecDepth 100000 in
theorem change_c {ok : Nat → Prop} {w : World} (v : Value) (b : List Int) (hr : Rd w ok v b.length (Disk.bytes8 b)) (hB : IsB b) (hl : b.length ≤ 1000000) (hok : ∀ j, ok j → j < w.heap.size) : Calls Try.prog 44 #[v] w (Rets (ChangeIs w ok (Sto.change b))) := by
  obtain ⟨A, c, rfl, _⟩ := hr.slice
  have HR := Lib.hid hr
  have HB := Lib.hid hB
  clear hr hB
  have KA : Keeps (fun _ => False) w (w.alloc (.cells #[.string ⟨#[]⟩, .bool false, .slice none 0 0] 41)) := (Keeps.refl _ w).alloc _
  have hbA : (w.alloc (.cells #[.string ⟨#[]⟩, .bool false, .slice none 0 0] 41)).heap[w.heap.size]? = some (.cells chgZ.toArray 41 (0, 0)) := heap_alloc_new w _
  have hzA : (w.alloc (.cells #[.string ⟨#[]⟩, .bool false, .slice none 0 0] 41)).heap.size = w.heap.size + 1 := by simp
  have hzw : ∀ j, ok j → j < w.heap.size := hok
  cases b with
  | nil =>
    go_enter Try.func44, Try.ntmps44
    go_wp2
    ((try simp only [Exit.inBlock, Exit.then]); refine bodyPost_ret (ret_cell_tmp2 rfl chgZ _ rfl hbA Try.underlying41 rfl info_chg) rfl ?_)
    exact ⟨KA, ⟨[], false, []⟩, .slice none 0 0, _, rfl, rfl⟩
  | cons t r =>
    obtain ⟨ba, oa, c', e, _, hba, hcell⟩ := HR.out.at (by intro e; cases e)
    cases e
    have cx : (w.alloc (.cells #[.string ⟨#[]⟩, .bool false, .slice none 0 0] 41)).cell? ⟨ba, oa, none⟩ = some (.int .u8 t) := KA.cell (hcell 0 (.int .u8 t) rfl) (fun h => h)
    have ht := HB.out t (List.mem_cons_self ..)
    have hBr : IsB r := fun x hx => HB.out x (List.mem_cons_of_mem _ hx)
    have hlr : r.length ≤ 1000000 := by rw [List.length_cons] at hl; omega
    have hLt : Hid (Rd w ok (.slice (some ⟨ba, oa, none⟩) (t :: r).length c) (t :: r).length (Disk.bytes8 (t :: r))) := HR
    have hn1 : 1 ≤ (t :: r).length := by simp
    have hnr : (t :: r).length - 1 = r.length := by simp
    clear hcell
    have hq : (((t :: r).length : Int) == 0) = false := by rw [beq_eq_false_iff_ne]; omega
    generalize hN : (t :: r).length = N at *
    by_cases h1 : 1 < t
    · have HE := Lib.hid (show Sto.change (t :: r) = none by unfold Sto.change; simp only; rw [if_pos h1])
      go_enter Try.func44, Try.ntmps44
      go_wp2
      ((try simp only [Exit.inBlock, Exit.then]); refine bodyPost_ret (ret_cell_tmp2 rfl chgZ _ rfl hbA Try.underlying41 rfl info_chg) rfl ?_)
      rw [HE.out]
      exact ⟨KA, ⟨[], false, []⟩, .slice none 0 0, _, rfl, rfl⟩
    · have hbA' := Lib.hid hbA
      have hzA' := Lib.hid hzA
      have KA' := Lib.hid KA
      obtain ⟨w1, hw1⟩ : ∃ w1, w1 = w.alloc (.cells #[.string ⟨#[]⟩, .bool false, .slice none 0 0] 41) := ⟨_, rfl⟩
      rw [← hw1] at hbA' hzA' KA'
      have HW := Lib.hid hw1
      clear hw1 hbA hzA KA
      have hz1 : w1.heap.size = w.heap.size + 1 := hzA'.out
      have HP1 := Lib.hid (fun (w : World) (v : Value) (h : Rd w ok v r.length (Disk.bytes8 r)) => piece_c v r h hBr hlr)
      have ht01 : t = 0 ∨ t = 1 := by omega
      cases hp : Sto.piece r with
      | none =>
        rw [hp] at HP1
        have HE := Lib.hid (show Sto.change (t :: r) = none by unfold Sto.change; simp only; rw [if_neg h1, hp])
        clear hp
        rcases ht01 with rfl | rfl
        · go_enter Try.func44, Try.ntmps44
          go_wp2_with (first
            | ((with_reducible refine at_ 5 rfl ?_); go_must (rw [← HW.out]; refine step_alloc rfl _ rfl _ chgZ row_chg rfl ?_); intro w3 hb3 hk3 hs3; rw [hz1] at hb3 hs3 ⊢)
            | ((with_reducible refine at_store 41 (.tmp 5) (.tmp 24) rfl ?_); go_must (refine step_store rfl _ _ _ rfl (w.heap.size + 1) 0 [.string ⟨#[]⟩, .bool false, .slice none 0 0] _ _ rfl rfl hb3 (by simp [chgZ]) info_chg (by simp [Value.oneCell']) ?_); intro w4 hb4 hk4 hs4; rw [put_whole (by rfl)] at hb4)
            | ((with_reducible refine at_ 27 rfl ?_); go_loud (refine step_slice_from (ok := ok) rfl _ _ _ rfl 5 under_elem info_elem _ N c 1 .i64 _ rfl rfl hn1 (((hLt.out.kept KA'.out (fun _ _ h => h)).kept hk3 (fun _ _ h => h)).kept hk4 (fun j h e => by have := hzw j h; omega)) (by rw [← hN]; exact Disk.bytes8_len _) ?_); intro v5 hr5)
            | (go_at_call 65; refine Rets.use (HP1.out _ _ (by rw [hnr] at hr5; exact hr5)) ?_; rintro _ w6 ⟨hk6, rfl⟩)
            | ((with_reducible refine at_store 41 (.tmp 2) (.tmp 34) rfl ?_); go_must (refine step_store rfl _ _ _ rfl w.heap.size 0 chgZ _ _ rfl rfl (hk6.heap (hk4.heap (hk3.heap hbA'.out (fun h => h)) (fun e => by omega)) (fun h => h)) (by simp [chgZ]) info_chg (by simp [Value.oneCell', chgZ]) ?_); intro w7 hb7 hk7 hs7; rw [put_whole (by rfl)] at hb7))
          ((try simp only [Exit.inBlock, Exit.then]); refine bodyPost_ret (ret_cell_tmp2 rfl chgZ _ rfl hb7 Try.underlying41 rfl info_chg) rfl ?_)
          rw [HE.out]
          exact ⟨((((KA'.out.trans hk3 (fun _ _ h => h)).mono (S' := fun j => w.heap.size ≤ j) (fun _ _ h => h.elim)).trans hk4 (fun j _ h => by omega)).trans hk6 (fun _ _ h => h.elim)).trans hk7 (fun j _ h => by omega) |>.mono (fun j hj h => by omega), ⟨[], false, []⟩, .slice none 0 0, _, rfl, rfl⟩
        · go_enter Try.func44, Try.ntmps44
          go_wp2_with (first
            | ((with_reducible refine at_ 5 rfl ?_); go_must (rw [← HW.out]; refine step_alloc rfl _ rfl _ chgZ row_chg rfl ?_); intro w3 hb3 hk3 hs3; rw [hz1] at hb3 hs3 ⊢)
            | ((with_reducible refine at_store 41 (.tmp 5) (.tmp 24) rfl ?_); go_must (refine step_store rfl _ _ _ rfl (w.heap.size + 1) 0 [.string ⟨#[]⟩, .bool true, .slice none 0 0] _ _ rfl rfl hb3 (by simp [chgZ]) info_chg (by simp [Value.oneCell']) ?_); intro w4 hb4 hk4 hs4; rw [put_whole (by rfl)] at hb4)
            | ((with_reducible refine at_ 27 rfl ?_); go_loud (refine step_slice_from (ok := ok) rfl _ _ _ rfl 5 under_elem info_elem _ N c 1 .i64 _ rfl rfl hn1 (((hLt.out.kept KA'.out (fun _ _ h => h)).kept hk3 (fun _ _ h => h)).kept hk4 (fun j h e => by have := hzw j h; omega)) (by rw [← hN]; exact Disk.bytes8_len _) ?_); intro v5 hr5)
            | (go_at_call 65; refine Rets.use (HP1.out _ _ (by rw [hnr] at hr5; exact hr5)) ?_; rintro _ w6 ⟨hk6, rfl⟩)
            | ((with_reducible refine at_store 41 (.tmp 2) (.tmp 34) rfl ?_); go_must (refine step_store rfl _ _ _ rfl w.heap.size 0 chgZ _ _ rfl rfl (hk6.heap (hk4.heap (hk3.heap hbA'.out (fun h => h)) (fun e => by omega)) (fun h => h)) (by simp [chgZ]) info_chg (by simp [Value.oneCell', chgZ]) ?_); intro w7 hb7 hk7 hs7; rw [put_whole (by rfl)] at hb7))
          ((try simp only [Exit.inBlock, Exit.then]); refine bodyPost_ret (ret_cell_tmp2 rfl chgZ _ rfl hb7 Try.underlying41 rfl info_chg) rfl ?_)
          rw [HE.out]
          exact ⟨((((KA'.out.trans hk3 (fun _ _ h => h)).mono (S' := fun j => w.heap.size ≤ j) (fun _ _ h => h.elim)).trans hk4 (fun j _ h => by omega)).trans hk6 (fun _ _ h => h.elim)).trans hk7 (fun j _ h => by omega) |>.mono (fun j hj h => by omega), ⟨[], false, []⟩, .slice none 0 0, _, rfl, rfl⟩
      | some q =>
        obtain ⟨k, r2⟩ := q
        obtain ⟨hBk, hBr2, hkl, hrl⟩ := piece_sub hBr hp
        rw [hp] at HP1
        have HE0 := Lib.hid (show Sto.change (t :: r) = if t = 1 then some (⟨k, true, []⟩, r2) else match Sto.piece r2 with
          | none => none
          | some (v, r3) => some (⟨k, false, v⟩, r3) by unfold Sto.change; simp only; rw [if_neg h1, hp]; rfl)
        clear hp
        have HBk := Lib.hid hBk
        clear hBk
        obtain ⟨sk, hsk⟩ : ∃ s, s = str k := ⟨_, rfl⟩
        have HSk := Lib.hid hsk
        clear hsk
        rcases ht01 with rfl | rfl
        · have HE1 := Lib.hid (show Sto.change (0 :: r) = match Sto.piece r2 with
            | none => none
            | some (v, r3) => some (⟨k, false, v⟩, r3) by rw [HE0.out, if_neg (by decide)])
          have HP2 := Lib.hid (fun (w : World) (v : Value) (h : Rd w ok v r2.length (Disk.bytes8 r2)) => piece_c v r2 h hBr2 (by omega))
          cases hp2 : Sto.piece r2 with
          | none =>
            rw [hp2] at HP2
            have HE := Lib.hid (show Sto.change (0 :: r) = none by rw [HE1.out, hp2])
            clear hp2
            go_enter Try.func44, Try.ntmps44
            go_wp2_with (first
              | ((with_reducible refine at_ 5 rfl ?_); go_must (rw [← HW.out]; refine step_alloc rfl _ rfl _ chgZ row_chg rfl ?_); intro w3 hb3 hk3 hs3; rw [hz1] at hb3 hs3 ⊢)
              | ((with_reducible refine at_store 41 (.tmp 5) (.tmp 24) rfl ?_); go_must (refine step_store rfl _ _ _ rfl (w.heap.size + 1) 0 [.string ⟨#[]⟩, .bool false, .slice none 0 0] _ _ rfl rfl hb3 (by simp [chgZ]) info_chg (by simp [Value.oneCell']) ?_); intro w4 hb4 hk4 hs4; rw [put_whole (by rfl)] at hb4)
              | ((with_reducible refine at_ 27 rfl ?_); go_loud (refine step_slice_from (ok := ok) rfl _ _ _ rfl 5 under_elem info_elem _ N c 1 .i64 _ rfl rfl hn1 (((hLt.out.kept KA'.out (fun _ _ h => h)).kept hk3 (fun _ _ h => h)).kept hk4 (fun j h e => by have := hzw j h; omega)) (by rw [← hN]; exact Disk.bytes8_len _) ?_); intro v5 hr5)
              | (go_at_call 65; refine Rets.use (HP1.out _ _ (by rw [hnr] at hr5; exact hr5)) ?_; rintro _ w6 ⟨hk6, a6, c6, rfl, hra6, hrc6⟩; have hb6 := hk6.heap hb4 (fun h => h); have hB6 := hk6.heap (hk4.heap (hk3.heap hbA'.out (fun h => h)) (fun e => by omega)) (fun h => h); have hz6 := hk6.size)
              | ((with_reducible refine at_ 36 rfl ?_); go_must (refine step_bytes_str rfl _ _ _ rfl 5 Try.underlying23 Try.underlying5 Try.underlying9 _ k rfl hra6 HBk.out ?_); rw [← HSk.out])
              | ((with_reducible refine at_store 9 (.tmp 37) (.tmp 36) rfl ?_); go_must (refine step_store1 rfl _ _ _ rfl (w.heap.size + 1) 0 (.string sk) [.string ⟨#[]⟩, .bool false, .slice none 0 0] _ rfl rfl rfl hb6 (by simp) info_str ?_); intro w7 hb7 hk7 hs7; have d1 : w7.cell? ⟨w.heap.size + 1, 1, none⟩ = some (.bool false) := cell_of_row w7 _ 1 _ _ _ hb7; have hB7 := hk7.heap hB6 (fun e => by omega); have HR7 := Lib.hid (hrc6.kept hk7 (fun j h e => by have := hzw j h; omega)); have HK7 := Lib.hid (((((KA'.out.trans hk3 (fun _ _ h => h)).mono (S' := fun j => w.heap.size ≤ j) (fun _ _ h => h.elim)).trans hk4 (fun j _ h => by omega)).trans hk6 (fun _ _ h => h.elim)).trans hk7 (fun j _ h => by omega)); have hb7 : w7.heap[w.heap.size + 1]? = some (.cells [Value.string sk, .bool false, .slice none 0 0].toArray 41 (0, 0)) := hb7; have hz7 : w.heap.size + 1 < w7.heap.size := by omega)
              | (go_at_call 65; refine Rets.use (HP2.out _ _ HR7.out) ?_; rintro _ w8 ⟨hk8, rfl⟩; have HK8 := Lib.hid (HK7.out.trans hk8 (fun _ _ h => h.elim)); have hb8 := hk8.heap hb7 (fun h => h); have hB8 := hk8.heap hB7 (fun h => h); have hz8 := hk8.size)
              | (go_at_call 64; refine Rets.use (clone_c _ [] (Rd.nil _ (fun _ => True)) (by decide)) ?_; rintro v10 w10 hO10; have HK10 := Lib.hid (HK8.out.trans hO10.2 (fun _ _ h => h.elim)); have hb10 := hO10.2.heap hb8 (fun h => h); have hB10 := hO10.2.heap hB8 (fun h => h); have hz10 := hO10.2.size)
              | ((with_reducible refine at_store 23 (.tmp 50) (.tmp 49) rfl ?_); go_must (refine step_store1 rfl _ _ _ rfl (w.heap.size + 1) 2 v10 _ _ rfl rfl (Rd.one hO10.1.rd) hb10 (by simp) info_bytes ?_); intro w11 hb11 hk11 hs11; have HK11 := Lib.hid (HK10.out.trans (hk11.mono (S' := fun j => w.heap.size ≤ j) (fun j _ h => by omega)) (fun _ _ h => h)); have hB11 := hk11.heap hB10 (fun e => by omega))
              | ((with_reducible refine at_ 51 rfl ?_); go_must (refine step_load rfl _ _ rfl (w.heap.size + 1) 0 [.string sk, .bool false, v10] _ _ _ _ rfl hb11 rfl Try.underlying41 rfl info_chg ?_))
              | ((with_reducible refine at_store 41 (.tmp 2) (.tmp 51) rfl ?_); go_must (refine step_store rfl _ _ _ rfl w.heap.size 0 [.string sk, .bool false, v10] _ _ rfl rfl hB11 (by simp [chgZ]) info_chg (by have := (Rd.one hO10.1.rd); simp [Value.oneCell', this]; exact this) ?_); intro w12 hb12 hk12 hs12; rw [put_whole (by rfl)] at hb12; have HK12 := Lib.hid (HK11.out.trans (hk12.mono (S' := fun j => w.heap.size ≤ j) (fun j _ h => by omega)) (fun _ _ h => h))))
            ((try simp only [Exit.inBlock, Exit.then]); refine bodyPost_ret (ret_cell_tmp2 rfl [.string sk, .bool false, v10] _ rfl hb12 Try.underlying41 rfl info_chg) rfl ?_)
            rw [HE.out]
            exact ⟨HK12.out.mono (fun j hj h => by omega), ⟨k, false, []⟩, v10, _, by rw [HSk.out]; rfl, (Rd.one hO10.1.rd)⟩
          | some q =>
            obtain ⟨val, r3⟩ := q
            obtain ⟨_, _, hvl, _⟩ := piece_sub hBr2 hp2
            rw [hp2] at HP2
            have HE := Lib.hid (show Sto.change (0 :: r) = some (⟨k, false, val⟩, r3) by rw [HE1.out, hp2])
            clear hp2
            go_enter Try.func44, Try.ntmps44
            go_wp2_with (first
              | ((with_reducible refine at_ 5 rfl ?_); go_must (rw [← HW.out]; refine step_alloc rfl _ rfl _ chgZ row_chg rfl ?_); intro w3 hb3 hk3 hs3; rw [hz1] at hb3 hs3 ⊢)
              | ((with_reducible refine at_store 41 (.tmp 5) (.tmp 24) rfl ?_); go_must (refine step_store rfl _ _ _ rfl (w.heap.size + 1) 0 [.string ⟨#[]⟩, .bool false, .slice none 0 0] _ _ rfl rfl hb3 (by simp [chgZ]) info_chg (by simp [Value.oneCell']) ?_); intro w4 hb4 hk4 hs4; rw [put_whole (by rfl)] at hb4)
              | ((with_reducible refine at_ 27 rfl ?_); go_loud (refine step_slice_from (ok := ok) rfl _ _ _ rfl 5 under_elem info_elem _ N c 1 .i64 _ rfl rfl hn1 (((hLt.out.kept KA'.out (fun _ _ h => h)).kept hk3 (fun _ _ h => h)).kept hk4 (fun j h e => by have := hzw j h; omega)) (by rw [← hN]; exact Disk.bytes8_len _) ?_); intro v5 hr5)
              | (go_at_call 65; refine Rets.use (HP1.out _ _ (by rw [hnr] at hr5; exact hr5)) ?_; rintro _ w6 ⟨hk6, a6, c6, rfl, hra6, hrc6⟩; have hb6 := hk6.heap hb4 (fun h => h); have hB6 := hk6.heap (hk4.heap (hk3.heap hbA'.out (fun h => h)) (fun e => by omega)) (fun h => h); have hz6 := hk6.size)
              | ((with_reducible refine at_ 36 rfl ?_); go_must (refine step_bytes_str rfl _ _ _ rfl 5 Try.underlying23 Try.underlying5 Try.underlying9 _ k rfl hra6 HBk.out ?_); rw [← HSk.out])
              | ((with_reducible refine at_store 9 (.tmp 37) (.tmp 36) rfl ?_); go_must (refine step_store1 rfl _ _ _ rfl (w.heap.size + 1) 0 (.string sk) [.string ⟨#[]⟩, .bool false, .slice none 0 0] _ rfl rfl rfl hb6 (by simp) info_str ?_); intro w7 hb7 hk7 hs7; have d1 : w7.cell? ⟨w.heap.size + 1, 1, none⟩ = some (.bool false) := cell_of_row w7 _ 1 _ _ _ hb7; have hB7 := hk7.heap hB6 (fun e => by omega); have HR7 := Lib.hid (hrc6.kept hk7 (fun j h e => by have := hzw j h; omega)); have HK7 := Lib.hid (((((KA'.out.trans hk3 (fun _ _ h => h)).mono (S' := fun j => w.heap.size ≤ j) (fun _ _ h => h.elim)).trans hk4 (fun j _ h => by omega)).trans hk6 (fun _ _ h => h.elim)).trans hk7 (fun j _ h => by omega)); have hb7 : w7.heap[w.heap.size + 1]? = some (.cells [Value.string sk, .bool false, .slice none 0 0].toArray 41 (0, 0)) := hb7; have hz7 : w.heap.size + 1 < w7.heap.size := by omega)
              | (go_at_call 65; refine Rets.use (HP2.out _ _ HR7.out) ?_; rintro _ w8 ⟨hk8, a8, c8, rfl, hra8, hrc8⟩; have HK8 := Lib.hid (HK7.out.trans hk8 (fun _ _ h => h.elim)); have hb8 := hk8.heap hb7 (fun h => h); have hB8 := hk8.heap hB7 (fun h => h); have hz8 := hk8.size)
              | (go_at_call 64; refine Rets.use (clone_c _ val hra8 (by omega)) ?_; rintro v10 w10 hO10; have HK10 := Lib.hid (HK8.out.trans hO10.2 (fun _ _ h => h.elim)); have hb10 := hO10.2.heap hb8 (fun h => h); have hB10 := hO10.2.heap hB8 (fun h => h); have hz10 := hO10.2.size)
              | ((with_reducible refine at_store 23 (.tmp 50) (.tmp 49) rfl ?_); go_must (refine step_store1 rfl _ _ _ rfl (w.heap.size + 1) 2 v10 _ _ rfl rfl (Rd.one hO10.1.rd) hb10 (by simp) info_bytes ?_); intro w11 hb11 hk11 hs11; have HK11 := Lib.hid (HK10.out.trans (hk11.mono (S' := fun j => w.heap.size ≤ j) (fun j _ h => by omega)) (fun _ _ h => h)); have hB11 := hk11.heap hB10 (fun e => by omega))
              | ((with_reducible refine at_ 51 rfl ?_); go_must (refine step_load rfl _ _ rfl (w.heap.size + 1) 0 [.string sk, .bool false, v10] _ _ _ _ rfl hb11 rfl Try.underlying41 rfl info_chg ?_))
              | ((with_reducible refine at_store 41 (.tmp 2) (.tmp 51) rfl ?_); go_must (refine step_store rfl _ _ _ rfl w.heap.size 0 [.string sk, .bool false, v10] _ _ rfl rfl hB11 (by simp [chgZ]) info_chg (by have := (Rd.one hO10.1.rd); simp [Value.oneCell', this]; exact this) ?_); intro w12 hb12 hk12 hs12; rw [put_whole (by rfl)] at hb12; have HK12 := Lib.hid (HK11.out.trans (hk12.mono (S' := fun j => w.heap.size ≤ j) (fun j _ h => by omega)) (fun _ _ h => h))))
            ((try simp only [Exit.inBlock, Exit.then]); refine bodyPost_ret (ret_cell_tmp2 rfl [.string sk, .bool false, v10] _ rfl hb12 Try.underlying41 rfl info_chg) rfl ?_)
            rw [HE.out]
            refine ⟨HK12.out.mono (fun j hj h => by omega), v10, _, by rw [HSk.out]; rfl, ?_, ?_⟩
            · exact ((hO10.1.kept hk11 (fun j h e => by omega)).kept hk12 (fun j h e => by omega)).mono (fun j _ h => by omega)
            · exact ((hrc8.kept hO10.2 (fun _ _ h => h)).kept hk11 (fun j h e => by have := hzw j h; omega)).kept hk12 (fun j h e => by have := hzw j h; omega)
        · have HE := Lib.hid (show Sto.change (1 :: r) = some (⟨k, true, []⟩, r2) by rw [HE0.out, if_pos rfl])
          go_enter Try.func44, Try.ntmps44
          go_wp2_with (first
            | ((with_reducible refine at_ 5 rfl ?_); go_must (rw [← HW.out]; refine step_alloc rfl _ rfl _ chgZ row_chg rfl ?_); intro w3 hb3 hk3 hs3; rw [hz1] at hb3 hs3 ⊢)
            | ((with_reducible refine at_store 41 (.tmp 5) (.tmp 24) rfl ?_); go_must (refine step_store rfl _ _ _ rfl (w.heap.size + 1) 0 [.string ⟨#[]⟩, .bool true, .slice none 0 0] _ _ rfl rfl hb3 (by simp [chgZ]) info_chg (by simp [Value.oneCell']) ?_); intro w4 hb4 hk4 hs4; rw [put_whole (by rfl)] at hb4)
            | ((with_reducible refine at_ 27 rfl ?_); go_loud (refine step_slice_from (ok := ok) rfl _ _ _ rfl 5 under_elem info_elem _ N c 1 .i64 _ rfl rfl hn1 (((hLt.out.kept KA'.out (fun _ _ h => h)).kept hk3 (fun _ _ h => h)).kept hk4 (fun j h e => by have := hzw j h; omega)) (by rw [← hN]; exact Disk.bytes8_len _) ?_); intro v5 hr5)
            | (go_at_call 65; refine Rets.use (HP1.out _ _ (by rw [hnr] at hr5; exact hr5)) ?_; rintro _ w6 ⟨hk6, a6, c6, rfl, hra6, hrc6⟩; have hb6 := hk6.heap hb4 (fun h => h); have hB6 := hk6.heap (hk4.heap (hk3.heap hbA'.out (fun h => h)) (fun e => by omega)) (fun h => h); have hz6 := hk6.size)
            | ((with_reducible refine at_ 36 rfl ?_); go_must (refine step_bytes_str rfl _ _ _ rfl 5 Try.underlying23 Try.underlying5 Try.underlying9 _ k rfl hra6 HBk.out ?_); rw [← HSk.out])
            | ((with_reducible refine at_store 9 (.tmp 37) (.tmp 36) rfl ?_); go_must (refine step_store1 rfl _ _ _ rfl (w.heap.size + 1) 0 (.string sk) [.string ⟨#[]⟩, .bool true, .slice none 0 0] _ rfl rfl rfl hb6 (by simp) info_str ?_); intro w7 hb7 hk7 hs7; have d1 : w7.cell? ⟨w.heap.size + 1, 1, none⟩ = some (.bool true) := cell_of_row w7 _ 1 _ _ _ hb7; have hB7 := hk7.heap hB6 (fun e => by omega); have HR7 := Lib.hid (hrc6.kept hk7 (fun j h e => by have := hzw j h; omega)); have HK7 := Lib.hid (((((KA'.out.trans hk3 (fun _ _ h => h)).mono (S' := fun j => w.heap.size ≤ j) (fun _ _ h => h.elim)).trans hk4 (fun j _ h => by omega)).trans hk6 (fun _ _ h => h.elim)).trans hk7 (fun j _ h => by omega)); have hb7 : w7.heap[w.heap.size + 1]? = some (.cells [Value.string sk, .bool true, .slice none 0 0].toArray 41 (0, 0)) := hb7; have hz7 : w.heap.size + 1 < w7.heap.size := by omega)
            | ((with_reducible refine at_ 40 rfl ?_); go_must (refine step_load rfl _ _ rfl (w.heap.size + 1) 0 [.string sk, .bool true, .slice none 0 0] _ _ _ _ rfl hb7 rfl Try.underlying41 rfl info_chg ?_))
            | ((with_reducible refine at_store 41 (.tmp 2) (.tmp 40) rfl ?_); go_must (refine step_store rfl _ _ _ rfl w.heap.size 0 [.string sk, .bool true, .slice none 0 0] _ _ rfl rfl hB7 (by simp [chgZ]) info_chg (by simp [Value.oneCell']) ?_); intro w8 hb8 hk8 hs8; rw [put_whole (by rfl)] at hb8))
          ((try simp only [Exit.inBlock, Exit.then]); refine bodyPost_ret (ret_cell_tmp2 rfl [.string sk, .bool true, .slice none 0 0] _ rfl hb8 Try.underlying41 rfl info_chg) rfl ?_)
          rw [HE.out]
          refine ⟨HK7.out.trans (hk8.mono (S' := fun j => w.heap.size ≤ j) (fun j _ h => by omega)) (fun _ _ h => h) |>.mono (fun j hj h => by omega), _, _, by rw [HSk.out]; rfl, OwnRow.nil _ _ _ _, ?_⟩
          exact HR7.out.kept hk8 (fun j h e => by have := hzw j h; omega)
end Go.Proofs.Ytbiohidelhfaiaa
