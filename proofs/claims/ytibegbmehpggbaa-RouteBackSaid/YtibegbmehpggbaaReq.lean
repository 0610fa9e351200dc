/-
  Requests: what they are in memory; Same, Cut.
-/
import Derived.Test.YtibegbmehpggbaaTxtF
import Derived.Test.YtibegbmehpggbaaSet
namespace Go.Proofs.Ytibegbmehpggbaa
open Go.RowKit Go.Canon Go.Mem
set_option linter.unusedVariables false
set_option linter.unusedSimpArgs false
structure ReqP where
  method : List Int
  target : List Int
  token : List Int
  body : List Int
deriving DecidableEq
def reqV (r : ReqP) (v : Value) : Value := .agg #[.string (str r.method), .string (str r.target), .string (str r.token), v]
structure ReqP.Ok (r : ReqP) : Prop where
  method : IsB r.method
  target : IsB r.target
  token : IsB r.token
  body : IsB r.body
theorem ReqP.same {r q : ReqP} : (r = q) = (r.method = q.method ∧ r.target = q.target ∧ r.token = q.token ∧ r.body = q.body) := by
  cases r; cases q; simp
set_option maxHeartbeats 1600000 in
set_option maxRecDepth 100000 in
theorem same13_c {w : World} {ok ok2 : Nat → Prop} (r q : ReqP) (hr : r.Ok) (hq : q.Ok) (v u : Value) (h1 : Rd w ok v r.body.length (Disk.bytes8 r.body)) (h2 : Rd w ok2 u q.body.length (Disk.bytes8 q.body)) (hl : r.body.length ≤ 1000000) :
    Calls Try.prog 15 #[reqV r v, reqV q u] w (Rets (Still (.bool (decide (r = q))) w)) := by
  obtain ⟨A, c, rfl, _⟩ := h1.slice
  obtain ⟨B, d, rfl, _⟩ := h2.slice
  have e1 := str_eq hr.method hq.method
  have e2 := str_eq hr.target hq.target
  have e3 := str_eq hr.token hq.token
  have HS := Lib.hid (fun w' (hk : Keeps (fun _ => False) w w') => same_c _ _ r.body q.body (h1.kept hk (fun _ _ h => h)) (h2.kept hk (fun _ _ h => h)) (by omega))
  have HE := Lib.hid (ReqP.same (r := r) (q := q))
  unfold reqV
  obtain ⟨rm, rt, rk, rb⟩ := r
  obtain ⟨qm, qt, qk, qb⟩ := q
  simp only at *
  generalize str rm = srm at *
  generalize str qm = sqm at *
  generalize str rt = srt at *
  generalize str qt = sqt at *
  generalize str rk = srk at *
  generalize str qk = sqk at *
  by_cases d1 : rm = qm
  · rw [decide_eq_true d1] at e1
    by_cases d2 : rt = qt
    · rw [decide_eq_true d2] at e2
      by_cases d3 : rk = qk
      · rw [decide_eq_true d3] at e3
        have HD := Lib.hid (show decide (ReqP.mk rm rt rk rb = ReqP.mk qm qt qk qb) = decide (rb = qb) by simp [d1, d2, d3])
        clear h1 h2 d1 d2 d3
        go_enter Try.func15, Try.ntmps15
        go_wp2_with (go_at_call 16; go_loud (refine Rets.use (HS.out _ (((Keeps.refl _ w).alloc _).alloc _)) ?_); rintro _ w3 ⟨rfl, hk3⟩)
        go_ret
        exact ⟨by rw [HD.out] <;> rfl, (((Keeps.refl _ w).alloc _).alloc _).trans hk3 (fun _ _ h => h)⟩
      · have HD := Lib.hid (show decide (ReqP.mk rm rt rk rb = ReqP.mk qm qt qk qb) = false by simp [d3])
        rw [decide_eq_false d3] at e3
        clear h1 h2 d1 d2 d3
        go_enter Try.func15, Try.ntmps15
        go_wp2
        go_ret
        exact ⟨by rw [HD.out] <;> rfl, ((Keeps.refl _ w).alloc _).alloc _⟩
    · have HD := Lib.hid (show decide (ReqP.mk rm rt rk rb = ReqP.mk qm qt qk qb) = false by simp [d2])
      rw [decide_eq_false d2] at e2
      clear h1 h2 d1 d2
      go_enter Try.func15, Try.ntmps15
      go_wp2
      go_ret
      exact ⟨by rw [HD.out] <;> rfl, ((Keeps.refl _ w).alloc _).alloc _⟩
  · have HD := Lib.hid (show decide (ReqP.mk rm rt rk rb = ReqP.mk qm qt qk qb) = false by simp [d1])
    rw [decide_eq_false d1] at e1
    clear h1 h2 d1
    go_enter Try.func15, Try.ntmps15
    go_wp2
    go_ret
    exact ⟨by rw [HD.out] <;> rfl, ((Keeps.refl _ w).alloc _).alloc _⟩
theorem info_str : (Try.prog.info? 9).map (·.size) = some 1 := by kernel_rfl
theorem info_req : (Try.prog.info? 26).map (·.size) = some 4 := by kernel_rfl
theorem info_bytesR : (Try.prog.info? 22).map (·.size) = some 1 := by kernel_rfl
def ReqP.cut (r : ReqP) : ReqP := ⟨r.method.take 50, r.target.take 200, r.token.take 1200, r.body.take 2100⟩
theorem ReqP.Ok.cut {r : ReqP} (h : r.Ok) : r.cut.Ok := ⟨h.method.take 50, h.target.take 200, h.token.take 1200, h.body.take 2100⟩
/-- A request, its body in memory of its own. -/
def ReqPost (w : World) (r : ReqP) : Value → World → Prop := fun v w' => Keeps (fun _ => False) w w' ∧ ∃ u, v = reqV r u ∧ OwnRow w' (fun k => w.heap.size ≤ k) 5 1 u r.body.length (Disk.bytes8 r.body)
set_option maxHeartbeats 1600000 in
set_option maxRecDepth 100000 in
theorem cut13_c {w : World} {ok : Nat → Prop} (r : ReqP) (v : Value) (h1 : Rd w ok v r.body.length (Disk.bytes8 r.body)) : Calls Try.prog 24 #[reqV r v] w (Rets (ReqPost w r.cut)) := by
  obtain ⟨A, c, rfl, _⟩ := h1.slice
  have HM := Lib.hid (fun w => cut4_c r.method 50 w)
  have HT := Lib.hid (fun w => cut4_c r.target 200 w)
  have HK := Lib.hid (fun w => cut4_c r.token 1200 w)
  have HCu := Lib.hid (fun w' (hk : Keeps (fun _ => False) w w') => cut_c (w := w') _ r.body (h1.kept hk (fun _ _ h => h)) 2100)
  have HE := Lib.hid (show r.cut = ⟨r.method.take 50, r.target.take 200, r.token.take 1200, r.body.take 2100⟩ from rfl)
  have hcl : (r.body.take 2100).length ≤ 2100 := by rw [List.length_take]; omega
  unfold reqV
  generalize r.cut = rc at *
  obtain ⟨rm, rt, rk, rb⟩ := r
  simp only at *
  generalize rm.take 50 = cm at *
  generalize rt.take 200 = ct at *
  generalize rk.take 1200 = ck at *
  generalize rb.take 2100 = cb at *
  generalize str rm = srm at *
  generalize str rt = srt at *
  generalize str rk = srk at *
  clear h1
  go_enter Try.func24, Try.ntmps24
  go_wp2
  refine name_ fun w1 hw1 => ?_
  obtain ⟨hbx, hby, hk1, hs1⟩ := alloc2 hw1
  clear hw1
  refine Canon.region [2, 5] [(⟨w.heap.size, 1, none⟩, .string srt), (⟨w.heap.size, 2, none⟩, .string srk)] [(4, 0), (7, 1)] (.hold [0, 3, 6, 1, 4, 7] (.loud 2 (.seg [9] (.loud 5 (.seg [8, 10, 11, 12, 13, 14] .stop))))) (by kernel_rfl) (by kernel_rfl) (by repeat (first | (with_reducible exact Safe.body) | (with_reducible apply Safe.then) | (with_reducible apply Safe.inBlock) | (dsimp +zetaDelta only))) ?_
  simp only [Canon.pick, Canon.wpPlan, List.getElem?_toArray, List.getElem?_cons_zero, List.getElem?_cons_succ]
  have KD : Keeps (fun _ => False) w1 w1.drew := (Keeps.refl _ w1).drew
  have hsd : w1.drew.heap.size = w1.heap.size := rfl
  have hbx := KD.heap hbx (fun h => h)
  have hby := KD.heap hby (fun h => h)
  have hk1 := hk1.trans KD (fun _ _ h => h)
  rw [← hsd] at hs1
  clear KD hsd
  generalize w1.drew = wd at *
  have c0 : wd.cell? ⟨w.heap.size, 0, none⟩ = some (.string srm) := (cell_of_row wd _ 0 _ _ _ hbx).trans rfl
  have c1 : wd.cell? ⟨w.heap.size, 1, none⟩ = some (.string srt) := (cell_of_row wd _ 1 _ _ _ hbx).trans rfl
  have c2 : wd.cell? ⟨w.heap.size, 2, none⟩ = some (.string srk) := (cell_of_row wd _ 2 _ _ _ hbx).trans rfl
  have HL := Lib.hid (show Cells [(⟨w.heap.size, 1, none⟩, Value.string srt), (⟨w.heap.size, 2, none⟩, .string srk)] wd by
    intro p hp
    simp only [List.mem_cons, List.not_mem_nil, or_false] at hp
    rcases hp with rfl | rfl
    · exact c1
    · exact c2)
  refine ⟨HL.out, ?_⟩
  go_wp2_with (go_at_call 29; go_loud (refine Rets.use (HM.out _) ?_); rintro _ _ ⟨rfl, rfl⟩)
  refine ⟨HL.out, ?_⟩
  go_wp2_with (go_at_call 29; go_loud (refine Rets.use (HT.out _) ?_); rintro _ _ ⟨rfl, rfl⟩)
  refine ⟨HL.out, ?_⟩
  have hbx : wd.heap[w.heap.size]? = some (.cells [Value.string srm, .string srt, .string srk, .slice A rb.length c].toArray 26 (0, 0)) := hbx
  have hby : wd.heap[w.heap.size + 1]? = some (.cells [Value.string ⟨#[]⟩, .string ⟨#[]⟩, .string ⟨#[]⟩, .slice none 0 0].toArray 26 (0, 0)) := hby
  go_wp2_with (first
    | ((with_reducible refine at_store 9 (.tmp 14) (.tmp 11) rfl ?_); go_must (refine step_store1 rfl _ _ _ rfl w.heap.size 2 (.string (str ck)) _ _ rfl rfl rfl hb3 (by simp) info_str ?_); intro w4 hb4 hk4 hs4)
    | ((with_reducible refine at_store 9 (.tmp 13) (.tmp 8) rfl ?_); go_must (refine step_store1 rfl _ _ _ rfl w.heap.size 1 (.string (str ct)) _ _ rfl rfl rfl hb2 (by simp) info_str ?_); intro w3 hb3 hk3 hs3)
    | ((with_reducible refine at_store 9 (.tmp 12) (.tmp 5) rfl ?_); go_must (refine step_store1 rfl _ _ _ rfl w.heap.size 0 (.string (str cm)) _ _ rfl rfl rfl hbx (by simp) info_str ?_); intro w2 hb2 hk2 hs2)
    | (go_at_call 29; go_loud (refine Rets.use (HK.out _) ?_); rintro _ _ ⟨rfl, rfl⟩))
  refine ⟨by rfl, ⟨fun _ => rfl, fun _ => rfl, trivial⟩, ?_⟩
  have hb4 : w4.heap[w.heap.size]? = some (.cells [Value.string (str cm), .string (str ct), .string (str ck), .slice A rb.length c].toArray 26 (0, 0)) := hb4
  have KX := (hk2.trans hk3 (fun _ _ h => h)).trans hk4 (fun _ _ h => h)
  have K4 := hk1.trans KX (fun _ hk h => by omega)
  have hby := KX.heap hby (fun h => by omega)
  have c3 : w4.cell? ⟨w.heap.size, 3, none⟩ = some (.slice A rb.length c) := (cell_of_row w4 _ 3 _ _ _ hb4).trans rfl
  have HC4 := Lib.hid (HCu.out w4 K4)
  have hz : w4.heap.size = w.heap.size + 2 := by omega
  clear c0 c1 c2 HL hbx hk2 hk3 hk4 hb2 hb3 KX hk1 hs1 HM HT HK
  go_wp2_with (first
    | ((with_reducible refine at_store 26 (.tmp 2) (.tmp 20) rfl ?_); go_must (refine step_store rfl _ _ _ rfl (w.heap.size + 1) 0 [Value.string (str cm), .string (str ct), .string (str ck), .slice A6 cb.length c6] _ _ rfl rfl hby7 (by simp) info_req (by simp [Value.oneCell']) ?_); intro w8 hb8 hk8 hs8)
    | ((with_reducible refine at_ 20 rfl ?_); go_must (refine step_load rfl _ _ rfl w.heap.size 0 [Value.string (str cm), .string (str ct), .string (str ck), .slice A6 cb.length c6] _ _ (0, 0) _ rfl hb7 rfl Try.underlying26 rfl info_req ?_))
    | ((with_reducible refine at_store 22 (.tmp 19) (.tmp 18) rfl ?_); go_must (refine step_store1 rfl _ _ _ rfl w.heap.size 3 (.slice A6 cb.length c6) _ _ rfl rfl rfl hb6 (by simp) info_bytesR ?_); intro w7 hb7 hk7 hs7; have hby7 := hk7.heap hby6 (fun h => by omega))
    | (go_at_call 12; go_loud (refine Rets.use (copy_c v5 cb hr5 (by omega)) ?_); rintro v6 w6 ⟨hO6, hk6⟩; have hb6 := hk6.heap hb4 (fun h => h); have hby6 := hk6.heap hby (fun h => h); obtain ⟨A6, c6, rfl, _⟩ := hO6.slice)
    | (go_at_call 11; go_loud (refine Rets.use HC4.out ?_); rintro v5 _ ⟨hr5, rfl⟩))
  refine bodyPost_ret (ret_cell rfl [Value.string (str cm), .string (str ct), .string (str ck), .slice A6 cb.length c6] _ rfl hb8 Try.underlying26 rfl info_req) rfl ?_
  refine ⟨((K4.trans hk6 (fun _ _ h => h)).trans hk7 (fun _ hk h => by omega)).trans hk8 (fun _ hk h => by omega), .slice A6 cb.length c6, by rw [HE.out] <;> rfl, ?_⟩
  rw [HE.out]
  exact ((hO6.kept hk7 (fun k h h' => by omega)).kept hk8 (fun k h h' => by omega)).mono (fun k hk h => by have := K4.size; omega)
end Go.Proofs.Ytibegbmehpggbaa
