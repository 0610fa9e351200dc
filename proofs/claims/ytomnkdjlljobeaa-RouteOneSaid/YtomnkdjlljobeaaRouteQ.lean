/-
  Targets, the document's: Parse.
-/
import Derived.Test.YtomnkdjlljobeaaRouteT
namespace Go.Proofs.Ytomnkdjlljobeaa
open Go.RowKit Go.Canon Go.Mem
set_option linter.unusedVariables false
set_option linter.unusedSimpArgs false
theorem pick_mem {f : List Int} {ps : List (List Int)} {g : FormP} (h : pickP f ps = some g) : g ∈ formsL := List.mem_of_find?_eq_some h
theorem meth_some : ∀ g ∈ formsL, (g.method.toList == []) = false := by
  intro g hg
  have h : g.method = sPUT ∨ g.method = sPOST ∨ g.method = sGET := by
    simp only [formsL, List.mem_cons, List.not_mem_nil, or_false] at hg
    rcases hg with rfl | rfl | rfl | rfl | rfl | rfl | rfl | rfl | rfl | rfl <;> simp
  rcases h with h | h | h <;> rw [h, ByteArray.toList_eq] <;> rfl
theorem parseT_some {s : List Int} {q : AskP} {m : ByteArray} (h : parseT s = some (q, m)) : (m.toList == []) = false ∧ q.body = [] := by
  unfold parseT at h
  cases hp : partsF s with
  | none => rw [hp] at h; cases h
  | some x =>
    obtain ⟨f, ps⟩ := x
    rw [hp] at h
    simp only at h
    cases hk : pickP f ps with
    | none => rw [hk] at h; cases h
    | some g =>
      rw [hk] at h
      simp only at h
      split at h
      · simp only [Option.some.injEq, Prod.mk.injEq] at h
        obtain ⟨rfl, rfl⟩ := h
        refine ⟨meth_some g (pick_mem hk), ?_⟩
        unfold askP; split <;> rfl
      · cases h
set_option maxHeartbeats 3200000 in
set_option maxRecDepth 100000 in
theorem rparse23_c {w : World} {ok : Nat → Prop} (r : ReqP) (hr : r.Ok) (hl : r.target.length ≤ 1000000) (hl2 : r.body.length ≤ 1000000) (v : Value) (h1 : Rd w ok v r.body.length (Disk.bytes8 r.body)) : Calls Try.prog 28 #[reqV r v] w (Rets (ParsePost w (parseP r))) := by
  obtain ⟨A, c, rfl, _⟩ := h1.slice
  have HR := Lib.hid h1.lt
  have HF := Lib.hid (fun w => target23_c (w := w) r.target hr.target hl)
  have HZ := Lib.hid (fun c h w' => ret_zero (w := w) (w' := w') (r := r) (c := c) h)
  have HNo := Lib.hid (parse_none (r := r))
  clear h1 hr
  unfold reqV
  cases hT : parseT r.target with
  | none =>
    have HT := Lib.hid (HNo.out hT)
    have hE : ((⟨#[]⟩ : ByteArray).toList == []) = true := by rw [ByteArray.toList_eq]; rfl
    rw [show tgtR r.target = (zeroA, ⟨#[]⟩) by unfold tgtR; rw [hT]] at HF
    clear hT HNo
    generalize (⟨#[]⟩ : ByteArray) = se at HF hE
    generalize str r.target = st at *
    go_enter Try.func28, Try.ntmps28
    go_wp2_with (first
      | ((with_reducible refine at_store 58 (.tmp 2) (.tmp 14) rfl ?_); go_must (refine step_store rfl _ _ _ rfl (w.heap.size + 1) 0 (askC zeroA (.slice none 0 0)) _ _ rfl rfl hb1 (by simp [askC_len]) (info_askC _ _) (askC_one _) ?_); intro w8 hb8 hk8 hs8)
      | ((with_reducible refine at_store 58 (.tmp 4) (.tmp 10) rfl ?_); go_must (refine step_store rfl _ _ _ rfl w2.heap.size 0 (askC zeroA (.slice none 0 0)) _ _ rfl rfl hb3 (by simp [askC_len]) (info_askC _ _) (askC_one _) ?_); intro w4 hb4 hk4 hs4; rw [put_whole (by rfl)] at hb4; have hb1 := hk4.heap (hk3.heap hb1 (fun h => h)) (fun h => by omega); have hb0 := hk4.heap (hk3.heap hb0 (fun h => h)) (fun h => by omega); have hk4 := (hk2.trans hk3 (fun _ _ h => h)).trans hk4 (fun _ hk h => by omega); have c0 : w4.cell? ⟨w.heap.size, 0, none⟩ = some (.string (str r.method)) := (cell_of_row w4 _ 0 _ _ _ hb0).trans rfl; have c3 : w4.cell? ⟨w.heap.size, 3, none⟩ = some (.slice A r.body.length c) := (cell_of_row w4 _ 3 _ _ _ hb0).trans rfl)
      | ((with_reducible refine at_ 4 rfl ?_); go_must (refine step_alloc rfl _ rfl _ (askC zeroA (.slice none 0 0)) row_ask rfl ?_); intro w3 hb3 hk3 hs3)
      | (go_at_call 45; go_loud (refine Rets.use (HF.out _) ?_); rintro _ w2 ⟨hk2, rfl⟩; obtain ⟨hb0, hb1, hk2, hs2⟩ := after2 hk2))
    rw [put_whole (by rfl)] at hb8
    refine bodyPost_ret (ret_cell_tmp rfl (askC zeroA (.slice none 0 0)) _ rfl hb8 Try.underlying58 rfl (info_askC _ _)) rfl ?_
    exact HZ.out _ HT.out _ (hk4.trans hk8 (fun _ hk h => by omega))
  | some x =>
    obtain ⟨qa, m⟩ := x
    obtain ⟨hme, hqb⟩ := parseT_some hT
    rw [show tgtR r.target = (qa, m) by unfold tgtR; rw [hT]] at HF
    have HPT := Lib.hid hT
    clear hT HNo
    generalize str r.target = st at *
    cases hm : (str r.method).toList == m.toList with
    | false =>
      have HT := Lib.hid (show parseP r = (zeroA, 405) by unfold parseP; rw [HPT.out]; simp [hm])
      clear HPT
      go_enter Try.func28, Try.ntmps28
      go_wp2_with (first
        | ((with_reducible refine at_store 58 (.tmp 2) (.tmp 19) rfl ?_); go_must (refine step_store rfl _ _ _ rfl (w.heap.size + 1) 0 (askC zeroA (.slice none 0 0)) _ _ rfl rfl hb1 (by simp [askC_len]) (info_askC _ _) (askC_one _) ?_); intro w8 hb8 hk8 hs8)
        | ((with_reducible refine at_store 58 (.tmp 4) (.tmp 10) rfl ?_); go_must (refine step_store rfl _ _ _ rfl w2.heap.size 0 (askC qa (.slice none 0 0)) _ _ rfl rfl hb3 (by simp [askC_len]) (info_askC _ _) (askC_one _) ?_); intro w4 hb4 hk4 hs4; rw [put_whole (by rfl)] at hb4; have hb1 := hk4.heap (hk3.heap hb1 (fun h => h)) (fun h => by omega); have hb0 := hk4.heap (hk3.heap hb0 (fun h => h)) (fun h => by omega); have hk4 := (hk2.trans hk3 (fun _ _ h => h)).trans hk4 (fun _ hk h => by omega); have c0 : w4.cell? ⟨w.heap.size, 0, none⟩ = some (.string (str r.method)) := (cell_of_row w4 _ 0 _ _ _ hb0).trans rfl; have c3 : w4.cell? ⟨w.heap.size, 3, none⟩ = some (.slice A r.body.length c) := (cell_of_row w4 _ 3 _ _ _ hb0).trans rfl)
        | ((with_reducible refine at_ 4 rfl ?_); go_must (refine step_alloc rfl _ rfl _ (askC zeroA (.slice none 0 0)) row_ask rfl ?_); intro w3 hb3 hk3 hs3)
        | (go_at_call 45; go_loud (refine Rets.use (HF.out _) ?_); rintro _ w2 ⟨hk2, rfl⟩; obtain ⟨hb0, hb1, hk2, hs2⟩ := after2 hk2))
      rw [put_whole (by rfl)] at hb8
      refine bodyPost_ret (ret_cell_tmp rfl (askC zeroA (.slice none 0 0)) _ rfl hb8 Try.underlying58 rfl (info_askC _ _)) rfl ?_
      exact HZ.out _ HT.out _ (hk4.trans hk8 (fun _ hk h => by omega))
    | true =>
      cases hput : m.toList == [80, 85, 84] with
      | false =>
        have HT := Lib.hid (show parseP r = (qa, 200) by unfold parseP; rw [HPT.out]; simp only [hm, hput]; rfl)
        clear HPT
        go_enter Try.func28, Try.ntmps28
        go_wp2_with (first
          | ((with_reducible refine at_ 26 rfl ?_); go_must (refine step_load rfl _ _ rfl w2.heap.size 0 (askC qa (.slice none 0 0)) _ _ (0, 0) _ rfl hb4 rfl Try.underlying58 rfl (info_askC _ _) ?_))
          | ((with_reducible refine at_store 58 (.tmp 2) (.tmp 26) rfl ?_); go_must (refine step_store rfl _ _ _ rfl (w.heap.size + 1) 0 (askC qa (.slice none 0 0)) _ _ rfl rfl hb1 (by simp [askC_len]) (info_askC _ _) (askC_one _) ?_); intro w10 hb10 hk10 hs10)
          | ((with_reducible refine at_store 58 (.tmp 4) (.tmp 10) rfl ?_); go_must (refine step_store rfl _ _ _ rfl w2.heap.size 0 (askC qa (.slice none 0 0)) _ _ rfl rfl hb3 (by simp [askC_len]) (info_askC _ _) (askC_one _) ?_); intro w4 hb4 hk4 hs4; rw [put_whole (by rfl)] at hb4; have hb1 := hk4.heap (hk3.heap hb1 (fun h => h)) (fun h => by omega); have hb0 := hk4.heap (hk3.heap hb0 (fun h => h)) (fun h => by omega); have hk4 := (hk2.trans hk3 (fun _ _ h => h)).trans hk4 (fun _ hk h => by omega); have c0 : w4.cell? ⟨w.heap.size, 0, none⟩ = some (.string (str r.method)) := (cell_of_row w4 _ 0 _ _ _ hb0).trans rfl; have c3 : w4.cell? ⟨w.heap.size, 3, none⟩ = some (.slice A r.body.length c) := (cell_of_row w4 _ 3 _ _ _ hb0).trans rfl)
          | ((with_reducible refine at_ 4 rfl ?_); go_must (refine step_alloc rfl _ rfl _ (askC zeroA (.slice none 0 0)) row_ask rfl ?_); intro w3 hb3 hk3 hs3)
          | (go_at_call 45; go_loud (refine Rets.use (HF.out _) ?_); rintro _ w2 ⟨hk2, rfl⟩; obtain ⟨hb0, hb1, hk2, hs2⟩ := after2 hk2))
        rw [put_whole (by rfl)] at hb10
        refine bodyPost_ret (ret_cell_tmp rfl (askC qa (.slice none 0 0)) _ rfl hb10 Try.underlying58 rfl (info_askC _ _)) rfl ?_
        rw [HT.out]
        exact ⟨hk4.trans hk10 (fun _ hk h => by omega), _, rfl, by rw [hqb]; exact OwnRow.nil _ _ _ _⟩
      | true =>
        have HT := Lib.hid (show parseP r = ({ qa with body := r.body }, 200) by unfold parseP; rw [HPT.out]; simp only [hm, hput]; rfl)
        clear HPT
        go_enter Try.func28, Try.ntmps28
        go_wp2_with (first
          | ((with_reducible refine at_ 26 rfl ?_); go_must (refine step_load rfl _ _ rfl w2.heap.size 0 (askC qa (.slice Ab r.body.length cb)) _ _ (0, 0) _ rfl hb11 rfl Try.underlying58 rfl (info_askC _ _) ?_))
          | ((with_reducible refine at_store 58 (.tmp 2) (.tmp 26) rfl ?_); go_must (refine step_store rfl _ _ _ rfl (w.heap.size + 1) 0 (askC qa (.slice Ab r.body.length cb)) _ _ rfl rfl hb1b (by simp [askC_len]) (info_askC _ _) (by simp [askC, Value.oneCell']) ?_); intro w12 hb12 hk12 hs12)
          | ((with_reducible refine at_store 22 (.tmp 25) (.tmp 24) rfl ?_); go_must (refine step_store1 rfl _ _ _ rfl w2.heap.size 3 (.slice Ab r.body.length cb) _ _ rfl rfl rfl hb10 (by simp [askC_len]) info_bytesR ?_); intro w11 hb11 hk11 hs11; have hb1b := hk11.heap (hk10.heap hb1 (fun h => h)) (fun h => by omega))
          | (go_at_call 13; go_loud (refine Rets.use (copy_c _ r.body (HR.out.kept hk4 (fun _ _ h => h)) (by omega)) ?_); rintro v10 w10 ⟨hO10, hk10⟩; obtain ⟨Ab, cb, rfl, _⟩ := hO10.slice; have hb10 := hk10.heap hb4 (fun h => h))
          | ((with_reducible refine at_store 58 (.tmp 4) (.tmp 10) rfl ?_); go_must (refine step_store rfl _ _ _ rfl w2.heap.size 0 (askC qa (.slice none 0 0)) _ _ rfl rfl hb3 (by simp [askC_len]) (info_askC _ _) (askC_one _) ?_); intro w4 hb4 hk4 hs4; rw [put_whole (by rfl)] at hb4; have hb1 := hk4.heap (hk3.heap hb1 (fun h => h)) (fun h => by omega); have hb0 := hk4.heap (hk3.heap hb0 (fun h => h)) (fun h => by omega); have hk4 := (hk2.trans hk3 (fun _ _ h => h)).trans hk4 (fun _ hk h => by omega); have c0 : w4.cell? ⟨w.heap.size, 0, none⟩ = some (.string (str r.method)) := (cell_of_row w4 _ 0 _ _ _ hb0).trans rfl; have c3 : w4.cell? ⟨w.heap.size, 3, none⟩ = some (.slice A r.body.length c) := (cell_of_row w4 _ 3 _ _ _ hb0).trans rfl)
          | ((with_reducible refine at_ 4 rfl ?_); go_must (refine step_alloc rfl _ rfl _ (askC zeroA (.slice none 0 0)) row_ask rfl ?_); intro w3 hb3 hk3 hs3)
          | (go_at_call 45; go_loud (refine Rets.use (HF.out _) ?_); rintro _ w2 ⟨hk2, rfl⟩; obtain ⟨hb0, hb1, hk2, hs2⟩ := after2 hk2))
        rw [put_whole (by rfl)] at hb12
        refine bodyPost_ret (ret_cell_tmp rfl (askC qa (.slice Ab r.body.length cb)) _ rfl hb12 Try.underlying58 rfl (info_askC _ _)) rfl ?_
        rw [HT.out]
        have z2 := hk4.size
        refine ⟨((hk4.trans hk10 (fun _ _ h => h)).trans hk11 (fun _ hk h => by omega)).trans hk12 (fun _ hk h => by omega), _, rfl, ?_⟩
        exact ((hO10.kept hk11 (fun k h h' => by omega)).kept hk12 (fun k h h' => by omega)).mono (fun k hk h => by omega)
end Go.Proofs.Ytomnkdjlljobeaa
