/-
  Targets, the program's: what a form asks.
-/
import Derived.Test.YtibegbmehpggbaaRouteF
import Derived.Test.YtibegbmehpggbaaAsk
import Derived.Test.YtibegbmehpggbaaTxtD
namespace Go.Proofs.Ytibegbmehpggbaa
open Go.RowKit Go.Canon Go.Mem
set_option linter.unusedVariables false
set_option linter.unusedSimpArgs false
def okP (num : Bool) (ps : List (List Int)) : Bool := if num = true then ps.all fun p => (readD p).2 else ps.all nameF
def numAt (ps : List (List Int)) (i : Nat) : Int := match ps[i]? with | some p => (readD p).1 | none => 0
def askP (kind : Int) (num : Bool) (ps : List (List Int)) : AskP := if num = true then ⟨kind, [], [], [], numAt ps 0, numAt ps 1⟩ else ⟨kind, (ps[0]?).getD [], (ps[1]?).getD [], [], 0, 0⟩
def AskedPost (w : World) (f : FormP) (ps : List (List Int)) : Value → World → Prop := fun v w' => Keeps (fun _ => False) w w' ∧ ∃ q, v = .tuple #[askV q (.slice none 0 0), .bool (okP f.numbers ps)] ∧ (okP f.numbers ps = true → q = askP f.kind f.numbers ps)
theorem info_int3 : (Try.prog.info? 3).map (·.size) = some 1 := by kernel_rfl
theorem okP_take {num : Bool} {ps : List (List Int)} {k : Nat} (h : k < ps.length) : okP num (ps.take (k + 1)) = (okP num (ps.take k) && (if num = true then (readD ps[k]).2 else nameF ps[k])) := by
  unfold okP
  rw [List.take_add_one, List.getElem?_eq_getElem h]
  cases num <;> simp only [Option.toList_some, List.all_append, List.all_cons, List.all_nil, Bool.and_true, if_true, Bool.false_eq_true, if_false]
theorem okP_no {num : Bool} {ps : List (List Int)} {k : Nat} (h : k < ps.length) (hn : (if num = true then (readD ps[k]).2 else nameF ps[k]) = false) : okP num ps = false := by
  unfold okP
  cases num
  · simp only [Bool.false_eq_true, if_false] at hn ⊢
    exact List.all_eq_false.2 ⟨ps[k], List.getElem_mem _, by simp [hn]⟩
  · simp only [if_true] at hn ⊢
    exact List.all_eq_false.2 ⟨ps[k], List.getElem_mem _, by simp [hn]⟩
theorem row_ask : (Try.prog.info? 66).map (fun i => i.zero) = some (some (.agg #[.int .i64 0, .string ⟨#[]⟩, .string ⟨#[]⟩, .slice none 0 0, .int .i64 0, .int .i64 0])) := by kernel_rfl
theorem build_ask (k : Int) (w : World) : (Instr.build 66 #[(0, .int .i64 k)]).run Try.prog w = .ok (askV ⟨k, [], [], [], 0, 0⟩ (.slice none 0 0)) w := by kernel_rfl
theorem ask_name_next (kd : Int) (ps : List (List Int)) (v : Value) (k : Nat) (h : k < ps.length) (h2 : k < 2) : (askC (askP kd false (ps.take k)) v).set (1 + k) (.string (str ps[k])) = askC (askP kd false (ps.take (k + 1))) v := by
  match k, h2, ps, h with
  | 0, _, p :: r, _ => rfl
  | 1, _, p :: q :: r, _ => rfl
theorem ask_num_next (kd : Int) (ps : List (List Int)) (v : Value) (k : Nat) (h : k < ps.length) (h2 : k < 2) : (askC (askP kd true (ps.take k)) v).set (4 + k) (.int .i64 (readD ps[k]).1) = askC (askP kd true (ps.take (k + 1))) v := by
  match k, h2, ps, h with
  | 0, _, p :: r, _ => rfl
  | 1, _, p :: q :: r, _ => rfl
theorem askC_one (q : AskP) : (askC q (.slice none 0 0)).toArray.all (·.oneCell') = true := by simp [askC, Value.oneCell']
theorem askC_len (q : AskP) (v : Value) : (askC q v).length = 6 := rfl
theorem info_askC (q : AskP) (v : Value) : (Try.prog.info? 66).map (·.size) = some (askC q v).length := info_ask
theorem strs_get {ps : List (List Int)} {k : Nat} (h : k < ps.length) : (strs ps)[k]? = some (.string (str ps[k])) := by unfold strs; rw [List.getElem?_map, List.getElem?_eq_getElem h]; rfl
set_option maxHeartbeats 3200000 in
set_option maxRecDepth 100000 in
theorem ask23_c {w : World} {ok : Nat → Prop} (f : FormP) (ps : List (List Int)) (hB : ∀ p ∈ ps, IsB p ∧ p.length ≤ 1000000) (hn : ps.length ≤ 2) (v : Value) (hr : Rd w ok v ps.length (strs ps)) :
    Calls Try.prog 46 #[.agg f.cells.toArray, v] w (Rets (AskedPost w f ps)) := by
  obtain ⟨A, c, rfl, hc, _⟩ := hr.slice
  obtain ⟨ff, fp, fn, fm, fk⟩ := f
  have HR := Lib.hid hr.lt
  have HB := Lib.hid hB
  unfold FormP.cells
  simp only
  clear hr hB
  cases fn with
  | false =>
    go_enter Try.func46, Try.ntmps46
    go_wp2
    refine name_ fun w1 hw1 => ?_
    obtain ⟨hb0, hb1, hb2, hk1, hs1⟩ := alloc3 hw1
    clear hw1
    have HR1 := Lib.hid (HR.out.kept hk1 (fun _ _ h => h))
    have HK1 := Lib.hid hk1
    have H0 := Lib.hid hb0
    have H1 := Lib.hid hb1
    have H2 := Lib.hid hb2
    clear hk1 hb0 hb1 hb2
    go_loopw [7, 8, 9, 10, 16] (fun q1 q2 q3 q4 i wr => ∃ k : Nat, k ≤ ps.length ∧ i = .int .i64 k ∧ Hid (okP false (ps.take k) = true) ∧ wr.heap[w.heap.size + 1 + 1]? = some (.cells (askC (askP fk false (ps.take k)) (.slice none 0 0)).toArray 66 (0, 0)) ∧ Keeps (· = w.heap.size + 1 + 1) w1 wr) (fun _ _ _ _ i _ => ps.length - (intOf i).toNat)
    case atStart => exact ⟨0, Nat.zero_le _, rfl, Lib.hid rfl, H2.out, Keeps.refl _ _⟩
    case round =>
      obtain ⟨k, hk, rfl, HO, hb2, hkr⟩ := hrel
      have H0 := Lib.hid (hkr.heap H0.out (fun h => by omega))
      have H1 := Lib.hid (hkr.heap H1.out (fun h => by omega))
      have HKr := Lib.hid (HK1.out.trans hkr (fun k hk h => by omega))
      have hsz := hkr.size
      have hkr2 := Lib.hid hkr
      have H2 := Lib.hid hb2
      have HR2 := Lib.hid (HR1.out.kept hkr (fun k h h' => by have := h.2; omega))
      have ck : wr.cell? ⟨w.heap.size, 2, none⟩ = some (.bool false) := (cell_of_row wr _ 2 _ _ _ H0.out).trans rfl
      clear hb2 hkr HR1
      by_cases hlt : k < ps.length
      · obtain ⟨b, o, c', e, _, _, hcell⟩ := HR2.out.at (by intro e; have := congrArg List.length e; rw [strs_len, List.length_nil] at this; omega)
        cases e
        have cx : wr.cell? ⟨b, o + k, none⟩ = some (.string (str ps[k])) := hcell k _ (strs_get hlt)
        clear hcell
        -- go on
        have hx := HB.out ps[k] (List.getElem_mem _)
        have HT := Lib.hid (okP_take (num := false) hlt)
        have HNo := Lib.hid (okP_no (num := false) hlt)
        have HN := Lib.hid (ask_name_next fk ps (.slice none 0 0) k hlt (by omega))
        have HC := Lib.hid (fun w => name_c ps[k] hx.1 hx.2 w)
        simp only [Bool.false_eq_true, if_false] at HT HNo
        generalize ps[k] = p at *
        cases hp : nameF p with
        | false =>
          have HF := Lib.hid (HNo.out hp)
          rw [hp] at HC
          clear hx HT HNo
          go_wp2_with (first
            | (go_at_call 58; go_loud (refine Rets.use (HC.out _) ?_); rintro _ _ ⟨rfl, rfl⟩)
            | ((with_reducible refine at_ 27 rfl ?_); go_must (refine step_load rfl _ _ rfl (w.heap.size + 1 + 1) 0 (askC _ _) _ _ (0, 0) _ rfl H2.out rfl Try.underlying66 rfl (info_askC _ _) ?_))
            | ((with_reducible refine at_store 66 (.tmp 4) (.tmp 27) rfl ?_); go_must (refine step_store rfl _ _ _ rfl (w.heap.size + 1) 0 (askC _ _) _ _ rfl rfl H1.out (by simp [askC_len]) (info_askC _ _) (askC_one _) ?_); intro w8 hb8 hk8 hs8))
          rw [put_whole (by rfl)] at hb8
          refine bodyPost_ret (ret_cell_tmp rfl (askC _ _) _ rfl hb8 Try.underlying66 rfl (info_askC _ _)) rfl ?_
          exact ⟨HKr.out.trans hk8 (fun _ hk h => by omega), _, by rw [HF.out] <;> rfl, fun h => by first | rfl | (rw [HF.out] at h; cases h)⟩
        | true =>
          have HO2 := Lib.hid (show okP false (ps.take (k + 1)) = true by rw [HT.out, HO.out, hp]; rfl)
          rw [hp] at HC
          clear hx HT HNo
          by_cases hk0 : k = 0
          · subst hk0
            replace cx : wr.cell? ⟨b, o, none⟩ = some (.string (str p)) := cx
            go_wp2_with (first
              | (go_at_call 58; go_loud (refine Rets.use (HC.out _) ?_); rintro _ _ ⟨rfl, rfl⟩)
              | ((with_reducible refine at_store 9 (.tmp 31) (.tmp 30) rfl ?_); go_must (refine step_store1 rfl _ _ _ rfl (w.heap.size + 1 + 1) 1 (.string (str p)) _ _ rfl rfl rfl H2.out (by simp [askC_len]) info_str ?_); intro w8 hb8 hk8 hs8))
            go_roundw
            case rel => exact ⟨_, by omega, by go_num, HO2, by rw [← HN.out]; exact hb8, hkr2.out.trans hk8 (fun _ _ h => h)⟩
            case measure => simp [intOf]; omega
          · obtain rfl : k = 1 := by omega
            go_wp2_with (first
              | (go_at_call 58; go_loud (refine Rets.use (HC.out _) ?_); rintro _ _ ⟨rfl, rfl⟩)
              | ((with_reducible refine at_store 9 (.tmp 33) (.tmp 32) rfl ?_); go_must (refine step_store1 rfl _ _ _ rfl (w.heap.size + 1 + 1) 2 (.string (str p)) _ _ rfl rfl rfl H2.out (by simp [askC_len]) info_str ?_); intro w8 hb8 hk8 hs8))
            go_roundw
            case rel => exact ⟨_, by omega, by go_num, HO2, by rw [← HN.out]; exact hb8, hkr2.out.trans hk8 (fun _ _ h => h)⟩
            case measure => simp [intOf]; omega
      · obtain rfl : k = ps.length := by omega
        have HF := Lib.hid (show okP false ps = true by have := HO.out; rwa [List.take_length] at this)
        rw [List.take_length] at H2
        go_wp2_with (first
          | ((with_reducible refine at_ 49 rfl ?_); go_must (refine step_load rfl _ _ rfl (w.heap.size + 1 + 1) 0 (askC _ _) _ _ (0, 0) _ rfl H2.out rfl Try.underlying66 rfl (info_askC _ _) ?_))
          | ((with_reducible refine at_store 66 (.tmp 4) (.tmp 49) rfl ?_); go_must (refine step_store rfl _ _ _ rfl (w.heap.size + 1) 0 (askC _ _) _ _ rfl rfl H1.out (by simp [askC_len]) (info_askC _ _) (askC_one _) ?_); intro w8 hb8 hk8 hs8))
        rw [put_whole (by rfl)] at hb8
        refine bodyPost_ret (ret_cell_tmp rfl (askC _ _) _ rfl hb8 Try.underlying66 rfl (info_askC _ _)) rfl ?_
        exact ⟨HKr.out.trans hk8 (fun _ hk h => by omega), _, by rw [HF.out] <;> rfl, fun h => by first | rfl | (rw [HF.out] at h; cases h)⟩
  | true =>
    go_enter Try.func46, Try.ntmps46
    go_wp2
    refine name_ fun w1 hw1 => ?_
    obtain ⟨hb0, hb1, hb2, hk1, hs1⟩ := alloc3 hw1
    clear hw1
    have HR1 := Lib.hid (HR.out.kept hk1 (fun _ _ h => h))
    have HK1 := Lib.hid hk1
    have H0 := Lib.hid hb0
    have H1 := Lib.hid hb1
    have H2 := Lib.hid hb2
    clear hk1 hb0 hb1 hb2
    go_loopw [7, 8, 9, 10, 16] (fun q1 q2 q3 q4 i wr => ∃ k : Nat, k ≤ ps.length ∧ i = .int .i64 k ∧ Hid (okP true (ps.take k) = true) ∧ wr.heap[w.heap.size + 1 + 1]? = some (.cells (askC (askP fk true (ps.take k)) (.slice none 0 0)).toArray 66 (0, 0)) ∧ Keeps (· = w.heap.size + 1 + 1) w1 wr) (fun _ _ _ _ i _ => ps.length - (intOf i).toNat)
    case atStart => exact ⟨0, Nat.zero_le _, rfl, Lib.hid rfl, H2.out, Keeps.refl _ _⟩
    case round =>
      obtain ⟨k, hk, rfl, HO, hb2, hkr⟩ := hrel
      have H0 := Lib.hid (hkr.heap H0.out (fun h => by omega))
      have H1 := Lib.hid (hkr.heap H1.out (fun h => by omega))
      have HKr := Lib.hid (HK1.out.trans hkr (fun k hk h => by omega))
      have hsz := hkr.size
      have hkr2 := Lib.hid hkr
      have H2 := Lib.hid hb2
      have HR2 := Lib.hid (HR1.out.kept hkr (fun k h h' => by have := h.2; omega))
      have ck : wr.cell? ⟨w.heap.size, 2, none⟩ = some (.bool true) := (cell_of_row wr _ 2 _ _ _ H0.out).trans rfl
      clear hb2 hkr HR1
      by_cases hlt : k < ps.length
      · obtain ⟨b, o, c', e, _, _, hcell⟩ := HR2.out.at (by intro e; have := congrArg List.length e; rw [strs_len, List.length_nil] at this; omega)
        cases e
        have cx : wr.cell? ⟨b, o + k, none⟩ = some (.string (str ps[k])) := hcell k _ (strs_get hlt)
        clear hcell
        -- go on
        have hx := HB.out ps[k] (List.getElem_mem _)
        have HT := Lib.hid (okP_take (num := true) hlt)
        have HNo := Lib.hid (okP_no (num := true) hlt)
        have HN := Lib.hid (ask_num_next fk ps (.slice none 0 0) k hlt (by omega))
        have HC := Lib.hid (fun w => readDec_c ps[k] hx.1 hx.2 w)
        simp only [if_true] at HT HNo
        generalize ps[k] = p at *
        cases hp : (readD p).2 with
        | false =>
          have HF := Lib.hid (HNo.out hp)
          rw [hp] at HC
          clear hx HT HNo
          go_wp2_with (first
            | (go_at_call 59; go_loud (refine Rets.use (HC.out _) ?_); rintro _ _ ⟨rfl, rfl⟩)
            | ((with_reducible refine at_ 41 rfl ?_); go_must (refine step_load rfl _ _ rfl (w.heap.size + 1 + 1) 0 (askC _ _) _ _ (0, 0) _ rfl H2.out rfl Try.underlying66 rfl (info_askC _ _) ?_))
            | ((with_reducible refine at_store 66 (.tmp 4) (.tmp 41) rfl ?_); go_must (refine step_store rfl _ _ _ rfl (w.heap.size + 1) 0 (askC _ _) _ _ rfl rfl H1.out (by simp [askC_len]) (info_askC _ _) (askC_one _) ?_); intro w8 hb8 hk8 hs8))
          rw [put_whole (by rfl)] at hb8
          refine bodyPost_ret (ret_cell_tmp rfl (askC _ _) _ rfl hb8 Try.underlying66 rfl (info_askC _ _)) rfl ?_
          exact ⟨HKr.out.trans hk8 (fun _ hk h => by omega), _, by rw [HF.out] <;> rfl, fun h => by first | rfl | (rw [HF.out] at h; cases h)⟩
        | true =>
          have HO2 := Lib.hid (show okP true (ps.take (k + 1)) = true by rw [HT.out, HO.out, hp]; rfl)
          rw [hp] at HC
          clear hx HT HNo
          generalize (readD p).1 = n at *
          by_cases hk0 : k = 0
          · subst hk0
            replace cx : wr.cell? ⟨b, o, none⟩ = some (.string (str p)) := cx
            go_wp2_with (first
              | (go_at_call 59; go_loud (refine Rets.use (HC.out _) ?_); rintro _ _ ⟨rfl, rfl⟩)
              | ((with_reducible refine at_store 3 (.tmp 45) (.tmp 44) rfl ?_); go_must (refine step_store1 rfl _ _ _ rfl (w.heap.size + 1 + 1) 4 (.int .i64 n) _ _ rfl rfl rfl H2.out (by simp [askC_len]) info_int3 ?_); intro w8 hb8 hk8 hs8))
            go_roundw
            case rel => exact ⟨_, by omega, by go_num, HO2, by rw [← HN.out]; exact hb8, hkr2.out.trans hk8 (fun _ _ h => h)⟩
            case measure => simp [intOf]; omega
          · obtain rfl : k = 1 := by omega
            go_wp2_with (first
              | (go_at_call 59; go_loud (refine Rets.use (HC.out _) ?_); rintro _ _ ⟨rfl, rfl⟩)
              | ((with_reducible refine at_store 3 (.tmp 47) (.tmp 46) rfl ?_); go_must (refine step_store1 rfl _ _ _ rfl (w.heap.size + 1 + 1) 5 (.int .i64 n) _ _ rfl rfl rfl H2.out (by simp [askC_len]) info_int3 ?_); intro w8 hb8 hk8 hs8))
            go_roundw
            case rel => exact ⟨_, by omega, by go_num, HO2, by rw [← HN.out]; exact hb8, hkr2.out.trans hk8 (fun _ _ h => h)⟩
            case measure => simp [intOf]; omega
      · obtain rfl : k = ps.length := by omega
        have HF := Lib.hid (show okP true ps = true by have := HO.out; rwa [List.take_length] at this)
        rw [List.take_length] at H2
        go_wp2_with (first
          | ((with_reducible refine at_ 49 rfl ?_); go_must (refine step_load rfl _ _ rfl (w.heap.size + 1 + 1) 0 (askC _ _) _ _ (0, 0) _ rfl H2.out rfl Try.underlying66 rfl (info_askC _ _) ?_))
          | ((with_reducible refine at_store 66 (.tmp 4) (.tmp 49) rfl ?_); go_must (refine step_store rfl _ _ _ rfl (w.heap.size + 1) 0 (askC _ _) _ _ rfl rfl H1.out (by simp [askC_len]) (info_askC _ _) (askC_one _) ?_); intro w8 hb8 hk8 hs8))
        rw [put_whole (by rfl)] at hb8
        refine bodyPost_ret (ret_cell_tmp rfl (askC _ _) _ rfl hb8 Try.underlying66 rfl (info_askC _ _)) rfl ?_
        exact ⟨HKr.out.trans hk8 (fun _ hk h => by omega), _, by rw [HF.out] <;> rfl, fun h => by first | rfl | (rw [HF.out] at h; cases h)⟩
end Go.Proofs.Ytibegbmehpggbaa
