/-
  Asks: what they are in memory; Same, Cut.
-/
import Derived.Test.YtibegbmehpggbaaReq
namespace Go.Proofs.Ytibegbmehpggbaa
open Go.RowKit Go.Canon Go.Mem
set_option linter.unusedVariables false
set_option linter.unusedSimpArgs false
structure AskP where
  kind : Int
  name : List Int
  spec : List Int
  body : List Int
  a : Int
  b : Int
deriving DecidableEq
def askC (r : AskP) (v : Value) : List Value := [.int .i64 r.kind, .string (str r.name), .string (str r.spec), v, .int .i64 r.a, .int .i64 r.b]
def askV (r : AskP) (v : Value) : Value := .agg (askC r v).toArray
def i64 (n : Int) : Prop := -9223372036854775808 ≤ n ∧ n ≤ 9223372036854775807
structure AskP.Ok (r : AskP) : Prop where
  name : IsB r.name
  spec : IsB r.spec
  body : IsB r.body
  ka : i64 r.a
  kb : i64 r.b
theorem info_ask : (Try.prog.info? 66).map (·.size) = some 6 := by kernel_rfl
set_option maxHeartbeats 3200000 in
set_option maxRecDepth 100000 in
theorem same23_c {w : World} {ok ok2 : Nat → Prop} (r q : AskP) (hr : r.Ok) (hq : q.Ok) (v u : Value) (h1 : Rd w ok v r.body.length (Disk.bytes8 r.body)) (h2 : Rd w ok2 u q.body.length (Disk.bytes8 q.body)) (hl : r.body.length ≤ 1000000) :
    Calls Try.prog 33 #[askV r v, askV q u] w (Rets (Still (.bool (decide (r = q))) w)) := by
  obtain ⟨A, c, rfl, _⟩ := h1.slice
  obtain ⟨B, d, rfl, _⟩ := h2.slice
  have e1 := str_eq hr.name hq.name
  have e2 := str_eq hr.spec hq.spec
  have HS := Lib.hid (fun w' (hk : Keeps (fun _ => False) w w') => same_c _ _ r.body q.body (h1.kept hk (fun _ _ h => h)) (h2.kept hk (fun _ _ h => h)) (by omega))
  unfold askV askC
  obtain ⟨rk, rn, rs, rb, ra, rc⟩ := r
  obtain ⟨qk, qn, qs, qb, qa, qc⟩ := q
  simp only at *
  generalize str rn = srn at *
  generalize str qn = sqn at *
  generalize str rs = srs at *
  generalize str qs = sqs at *
  clear h1 h2 hr hq
  by_cases d0 : rk = qk
  · subst d0
    have b0 : (rk == rk) = true := by simp
    by_cases d1 : rn = qn
    · rw [decide_eq_true d1] at e1
      by_cases d2 : rs = qs
      · rw [decide_eq_true d2] at e2
        by_cases d3 : ra = qa
        · subst d3
          have b3 : (ra == ra) = true := by simp
          by_cases d4 : rc = qc
          · subst d4
            have b4 : (rc == rc) = true := by simp
            have HD := Lib.hid (show decide (AskP.mk rk rn rs rb ra rc = AskP.mk rk qn qs qb ra rc) = decide (rb = qb) by simp [d1, d2])
            clear d1 d2
            go_enter Try.func33, Try.ntmps33
            go_wp2_with (go_at_call 16; go_loud (refine Rets.use (HS.out _ (((Keeps.refl _ w).alloc _).alloc _)) ?_); rintro _ w3 ⟨rfl, hk3⟩)
            go_ret
            exact ⟨by rw [HD.out] <;> rfl, (((Keeps.refl _ w).alloc _).alloc _).trans hk3 (fun _ _ h => h)⟩
          · have b4 : (rc == qc) = false := by simpa using d4
            have HD := Lib.hid (show decide (AskP.mk rk rn rs rb ra rc = AskP.mk rk qn qs qb ra qc) = false by simp [d4])
            clear d1 d2 d4
            go_enter Try.func33, Try.ntmps33
            go_wp2
            go_ret
            exact ⟨by rw [HD.out] <;> rfl, ((Keeps.refl _ w).alloc _).alloc _⟩
        · have b3 : (ra == qa) = false := by simpa using d3
          have HD := Lib.hid (show decide (AskP.mk rk rn rs rb ra rc = AskP.mk rk qn qs qb qa qc) = false by simp [d3])
          clear d1 d2 d3
          go_enter Try.func33, Try.ntmps33
          go_wp2
          go_ret
          exact ⟨by rw [HD.out] <;> rfl, ((Keeps.refl _ w).alloc _).alloc _⟩
      · have HD := Lib.hid (show decide (AskP.mk rk rn rs rb ra rc = AskP.mk rk qn qs qb qa qc) = false by simp [d2])
        rw [decide_eq_false d2] at e2
        clear d1 d2
        go_enter Try.func33, Try.ntmps33
        go_wp2
        go_ret
        exact ⟨by rw [HD.out] <;> rfl, ((Keeps.refl _ w).alloc _).alloc _⟩
    · have HD := Lib.hid (show decide (AskP.mk rk rn rs rb ra rc = AskP.mk rk qn qs qb qa qc) = false by simp [d1])
      rw [decide_eq_false d1] at e1
      clear d1
      go_enter Try.func33, Try.ntmps33
      go_wp2
      go_ret
      exact ⟨by rw [HD.out] <;> rfl, ((Keeps.refl _ w).alloc _).alloc _⟩
  · have b0 : (rk == qk) = false := by simpa using d0
    have HD := Lib.hid (show decide (AskP.mk rk rn rs rb ra rc = AskP.mk qk qn qs qb qa qc) = false by simp [d0])
    clear d0
    go_enter Try.func33, Try.ntmps33
    go_wp2
    go_ret
    exact ⟨by rw [HD.out] <;> rfl, ((Keeps.refl _ w).alloc _).alloc _⟩
def AskP.cut (r : AskP) : AskP := ⟨r.kind, r.name.take 30, r.spec.take 30, r.body.take 4200, r.a, r.b⟩
theorem AskP.Ok.cut {r : AskP} (h : r.Ok) : r.cut.Ok := ⟨h.name.take 30, h.spec.take 30, h.body.take 4200, h.ka, h.kb⟩
/-- An ask, its body in memory of its own. -/
def AskPost (w : World) (r : AskP) : Value → World → Prop := fun v w' => Keeps (fun _ => False) w w' ∧ ∃ u, v = askV r u ∧ OwnRow w' (fun k => w.heap.size ≤ k) 5 1 u r.body.length (Disk.bytes8 r.body)
set_option maxHeartbeats 1600000 in
set_option maxRecDepth 100000 in
theorem cut22_c {w : World} {ok : Nat → Prop} (r : AskP) (v : Value) (h1 : Rd w ok v r.body.length (Disk.bytes8 r.body)) : Calls Try.prog 28 #[askV r v] w (Rets (AskPost w r.cut)) := by
  obtain ⟨A, c, rfl, _⟩ := h1.slice
  have HM := Lib.hid (fun w => cut4_c r.name 30 w)
  have HT := Lib.hid (fun w => cut4_c r.spec 30 w)
  have HCu := Lib.hid (fun w' (hk : Keeps (fun _ => False) w w') => cut_c (w := w') _ r.body (h1.kept hk (fun _ _ h => h)) 4200)
  have HE := Lib.hid (show r.cut = ⟨r.kind, r.name.take 30, r.spec.take 30, r.body.take 4200, r.a, r.b⟩ from rfl)
  have hcl : (r.body.take 4200).length ≤ 4200 := by rw [List.length_take]; omega
  unfold askV askC
  generalize r.cut = rc at *
  obtain ⟨rk, rm, rt, rb, ra, rd⟩ := r
  simp only at *
  generalize rm.take 30 = cm at *
  generalize rt.take 30 = ct at *
  generalize rb.take 4200 = cb at *
  generalize str rm = srm at *
  generalize str rt = srt at *
  clear h1
  go_enter Try.func28, Try.ntmps28
  go_wp2
  refine name_ fun w1 hw1 => ?_
  obtain ⟨hbx, hby, hk1, hs1⟩ := alloc2 hw1
  clear hw1
  refine Canon.region [2] [(⟨w.heap.size, 2, none⟩, .string srt)] [(4, 0)] (.hold [0, 3, 1, 4] (.loud 2 (.seg [6, 5, 7, 8, 9] .stop))) (by kernel_rfl) (by kernel_rfl) (by repeat (first | (with_reducible exact Safe.body) | (with_reducible apply Safe.then) | (with_reducible apply Safe.inBlock) | (dsimp +zetaDelta only))) ?_
  simp only [Canon.pick, Canon.wpPlan, List.getElem?_toArray, List.getElem?_cons_zero, List.getElem?_cons_succ]
  have KD : Keeps (fun _ => False) w1 w1.drew := (Keeps.refl _ w1).drew
  have hsd : w1.drew.heap.size = w1.heap.size := rfl
  have hbx := KD.heap hbx (fun h => h)
  have hby := KD.heap hby (fun h => h)
  have hk1 := hk1.trans KD (fun _ _ h => h)
  rw [← hsd] at hs1
  clear KD hsd
  generalize w1.drew = wd at *
  have c1 : wd.cell? ⟨w.heap.size, 1, none⟩ = some (.string srm) := (cell_of_row wd _ 1 _ _ _ hbx).trans rfl
  have c2 : wd.cell? ⟨w.heap.size, 2, none⟩ = some (.string srt) := (cell_of_row wd _ 2 _ _ _ hbx).trans rfl
  have HL := Lib.hid (show Cells [(⟨w.heap.size, 2, none⟩, Value.string srt)] wd by
    intro p hp
    rw [List.mem_singleton] at hp
    subst hp
    exact c2)
  refine ⟨HL.out, ?_⟩
  go_wp2_with (go_at_call 29; go_loud (refine Rets.use (HM.out _) ?_); rintro _ _ ⟨rfl, rfl⟩)
  refine ⟨HL.out, ?_⟩
  have hbx : wd.heap[w.heap.size]? = some (.cells [Value.int .i64 rk, .string srm, .string srt, .slice A rb.length c, .int .i64 ra, .int .i64 rd].toArray 66 (0, 0)) := hbx
  have hby : wd.heap[w.heap.size + 1]? = some (.cells [Value.int .i64 0, .string ⟨#[]⟩, .string ⟨#[]⟩, .slice none 0 0, .int .i64 0, .int .i64 0].toArray 66 (0, 0)) := hby
  go_wp2_with (first
    | ((with_reducible refine at_store 9 (.tmp 10) (.tmp 8) rfl ?_); go_must (refine step_store1 rfl _ _ _ rfl w.heap.size 2 (.string (str ct)) _ _ rfl rfl rfl hb2 (by simp) info_str ?_); intro w3 hb3 hk3 hs3)
    | ((with_reducible refine at_store 9 (.tmp 9) (.tmp 5) rfl ?_); go_must (refine step_store1 rfl _ _ _ rfl w.heap.size 1 (.string (str cm)) _ _ rfl rfl rfl hbx (by simp) info_str ?_); intro w2 hb2 hk2 hs2)
    | (go_at_call 29; go_loud (refine Rets.use (HT.out _) ?_); rintro _ _ ⟨rfl, rfl⟩))
  refine ⟨by rfl, ⟨fun _ => rfl, trivial⟩, ?_⟩
  have hb4 : w3.heap[w.heap.size]? = some (.cells [Value.int .i64 rk, .string (str cm), .string (str ct), .slice A rb.length c, .int .i64 ra, .int .i64 rd].toArray 66 (0, 0)) := hb3
  have KX := hk2.trans hk3 (fun _ _ h => h)
  have K4 := hk1.trans KX (fun _ hk h => by omega)
  have hby := KX.heap hby (fun h => by omega)
  have c3 : w3.cell? ⟨w.heap.size, 3, none⟩ = some (.slice A rb.length c) := (cell_of_row w3 _ 3 _ _ _ hb4).trans rfl
  have HC4 := Lib.hid (HCu.out w3 K4)
  have hz : w3.heap.size = w.heap.size + 2 := by omega
  clear c1 c2 HL hbx hk2 hk3 hb2 hb3 KX hk1 hs1 HM HT
  go_wp2_with (first
    | ((with_reducible refine at_store 66 (.tmp 2) (.tmp 16) rfl ?_); go_must (refine step_store rfl _ _ _ rfl (w.heap.size + 1) 0 [Value.int .i64 rk, .string (str cm), .string (str ct), .slice A6 cb.length c6, .int .i64 ra, .int .i64 rd] _ _ rfl rfl hby7 (by simp) info_ask (by simp [Value.oneCell']) ?_); intro w8 hb8 hk8 hs8)
    | ((with_reducible refine at_ 16 rfl ?_); go_must (refine step_load rfl _ _ rfl w.heap.size 0 [Value.int .i64 rk, .string (str cm), .string (str ct), .slice A6 cb.length c6, .int .i64 ra, .int .i64 rd] _ _ (0, 0) _ rfl hb7 rfl Try.underlying66 rfl info_ask ?_))
    | ((with_reducible refine at_store 22 (.tmp 15) (.tmp 14) rfl ?_); go_must (refine step_store1 rfl _ _ _ rfl w.heap.size 3 (.slice A6 cb.length c6) _ _ rfl rfl rfl hb6 (by simp) info_bytesR ?_); intro w7 hb7 hk7 hs7; have hby7 := hk7.heap hby6 (fun h => by omega))
    | (go_at_call 12; go_loud (refine Rets.use (copy_c v5 cb hr5 (by omega)) ?_); rintro v6 w6 ⟨hO6, hk6⟩; have hb6 := hk6.heap hb4 (fun h => h); have hby6 := hk6.heap hby (fun h => h); obtain ⟨A6, c6, rfl, _⟩ := hO6.slice)
    | (go_at_call 11; go_loud (refine Rets.use HC4.out ?_); rintro v5 _ ⟨hr5, rfl⟩))
  refine bodyPost_ret (ret_cell rfl [Value.int .i64 rk, .string (str cm), .string (str ct), .slice A6 cb.length c6, .int .i64 ra, .int .i64 rd] _ rfl hb8 Try.underlying66 rfl info_ask) rfl ?_
  refine ⟨((K4.trans hk6 (fun _ _ h => h)).trans hk7 (fun _ hk h => by omega)).trans hk8 (fun _ hk h => by omega), .slice A6 cb.length c6, by rw [HE.out] <;> rfl, ?_⟩
  rw [HE.out]
  exact ((hO6.kept hk7 (fun k h h' => by omega)).kept hk8 (fun k h h' => by omega)).mono (fun k hk h => by have := K4.size; omega)
end Go.Proofs.Ytibegbmehpggbaa
