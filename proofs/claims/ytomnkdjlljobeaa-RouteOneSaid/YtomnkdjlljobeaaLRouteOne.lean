/-
  RouteOne: the walk.
-/
import Derived.Test.YtomnkdjlljobeaaLRoutePrints
import Derived.Test.YtomnkdjlljobeaaCanon3
namespace Go.Proofs.Ytomnkdjlljobeaa
open Go.RowKit Go.Canon Go.Mem Go.Args
set_option linter.unusedVariables false
set_option linter.unusedSimpArgs false
theorem print_back {a : AskP} {x : ReqP} (h : printP a = (x, 0)) : (parseP x).1 = a := by
  unfold printP at h
  split at h
  · simp at h
  · split at h
    · rename_i hc
      simp only [Prod.mk.injEq] at h
      rw [← h.1]; exact hc.2
    · simp at h
theorem print_one {a b : AskP} {x y : ReqP} (ha : printP a = (x, 0)) (hb : printP b = (y, 0)) : (x = y) ↔ (a = b) := by
  constructor
  · intro e; rw [← print_back ha, ← print_back hb, e]
  · intro e; subst e; rw [ha] at hb; simpa using hb
set_option maxHeartbeats 12800000 in
set_option maxRecDepth 100000 in
theorem one_in (W : World) (r1 r2 : AskP) (hr1 : r1.Ok) (hr2 : r2.Ok) (v1 v2 : Value) (h1 : Rd W (fun k => k < W.heap.size) v1 r1.body.length (Disk.bytes8 r1.body)) (h2 : Rd W (fun k => k < W.heap.size) v2 r2.body.length (Disk.bytes8 r2.body)) : Calls Try.prog 11 #[askV r1 v1, askV r2 v2] W (Rets (Yes W)) := by
  obtain ⟨Aa, ca, rfl, _⟩ := h1.slice
  obtain ⟨Ab, cb, rfl, _⟩ := h2.slice
  have HC1 := Lib.hid (fun w (hk : Keeps (fun _ => False) W w) => cut22_c (w := w) r1 (.slice Aa r1.body.length ca) (h1.kept hk (fun _ _ h => h)))
  have HC2 := Lib.hid (fun w (hk : Keeps (fun _ => False) W w) => cut22_c (w := w) r2 (.slice Ab r2.body.length cb) (h2.kept hk (fun _ _ h => h)))
  obtain ⟨l1, l2, l3⟩ := r1.cut_len
  obtain ⟨m1, m2, m3⟩ := r2.cut_len
  have HO1 := Lib.hid hr1.cut
  have HO2 := Lib.hid hr2.cut
  have HP1 := Lib.hid (fun (w : World) (ok : Nat → Prop) u h => print23_c (w := w) (ok := ok) r1.cut HO1.out l1 l2 l3 u h)
  have HP2 := Lib.hid (fun (w : World) (ok : Nat → Prop) u h => print23_c (w := w) (ok := ok) r2.cut HO2.out m1 m2 m3 u h)
  obtain ⟨hx, hxl⟩ := printP_ok hr1.cut l1 l2 l3
  obtain ⟨hy, hyl⟩ := printP_ok hr2.cut m1 m2 m3
  have HX := Lib.hid hx
  have HY := Lib.hid hy
  have HOne := Lib.hid (fun x y h h' => print_one (a := r1.cut) (b := r2.cut) (x := x) (y := y) h h')
  unfold askV
  clear h1 h2 hr1 hr2 hx hy
  generalize printP r1.cut = p1 at *
  generalize printP r2.cut = p2 at *
  obtain ⟨x, e⟩ := p1
  obtain ⟨y, f⟩ := p2
  simp only at hxl hyl HX HY HOne
  go_enter Try.func11, Try.ntmps11
  go_wp2
  refine name_ fun w1 hw1 => ?_
  obtain ⟨hb0, hb1, hk1, hs1⟩ := alloc2 hw1
  clear hw1
  refine Canon.region [1, 2] [] [] (.seg [0] (.fork 1 (.loud 2 (.seg [3, 4, 5] .stop)) 2 (.loud 1 (.seg [3, 4, 5] .stop)))) (by kernel_rfl) (by kernel_rfl) (by repeat (first | (with_reducible exact Safe.body) | (with_reducible apply Safe.then) | (with_reducible apply Safe.inBlock) | (dsimp +zetaDelta only))) ?_
  simp only [Canon.pick, Canon.wpPlan, List.getElem?_toArray, List.getElem?_cons_zero, List.getElem?_cons_succ]
  have KD : Keeps (fun _ => False) w1 w1.drew := (Keeps.refl _ w1).drew
  have H0 : w1.drew.heap[W.heap.size]? = some (.cells (askC r1 (.slice Aa r1.body.length ca)).toArray 58 (0, 0)) := KD.heap hb0 (fun h => h)
  have H1 : w1.drew.heap[W.heap.size + 1]? = some (.cells (askC r2 (.slice Ab r2.body.length cb)).toArray 58 (0, 0)) := KD.heap hb1 (fun h => h)
  have H0 := Lib.hid H0
  have H1 := Lib.hid H1
  have HK := Lib.hid (hk1.trans KD (fun _ _ h => h))
  have hz : W.heap.size + 2 ≤ w1.drew.heap.size := by have : w1.drew.heap.size = w1.heap.size := rfl
                                                      omega
  clear KD hb0 hb1 hk1 hs1
  generalize w1.drew = wd at *
  go_wp2_with ((with_reducible refine at_ 9 rfl ?_); go_must (refine step_load rfl _ _ rfl W.heap.size 0 (askC r1 (.slice Aa r1.body.length ca)) _ _ (0, 0) _ rfl H0.out rfl Try.underlying58 rfl (info_askC _ _) ?_))
  refine ⟨?_, ?_⟩
  · go_wp2_with (go_at_call 32; go_loud (refine Rets.use (HC1.out wd HK.out) ?_); rintro _ w2 ⟨hk2, u2, rfl, hO2⟩)
    refine ⟨fun p hp => (by cases hp), ?_⟩
    go_wp2_with ((with_reducible refine at_ 11 rfl ?_); go_must (refine step_load rfl _ _ rfl (W.heap.size + 1) 0 (askC r2 (.slice Ab r2.body.length cb)) _ _ (0, 0) _ rfl (hk2.heap H1.out (fun h => h)) rfl Try.underlying58 rfl (info_askC _ _) ?_))
    refine ⟨fun p hp => (by cases hp), ?_⟩
    obtain ⟨A2, c2, rfl, _⟩ := hO2.slice
    go_wp2_with (first
      | ((with_reducible refine at_store 58 (.tmp 3) (.tmp 12) rfl ?_); go_must (refine step_store rfl _ _ _ rfl (W.heap.size + 1) 0 (askC r2.cut (.slice A3 r2.cut.body.length c3)) _ _ rfl rfl (hk4.heap (hk3.heap (hk2.heap H1.out (fun h => h)) (fun h => h)) (fun h => by omega)) (by simp [askC_len]) (info_askC _ _) (by simp [askC, Value.oneCell']) ?_); intro w5 hb5 hk5 hs5; rw [put_whole (by rfl)] at hb5)
      | ((with_reducible refine at_store 58 (.tmp 2) (.tmp 10) rfl ?_); go_must (refine step_store rfl _ _ _ rfl W.heap.size 0 (askC r1.cut (.slice A2 r1.cut.body.length c2)) _ _ rfl rfl (hk3.heap (hk2.heap H0.out (fun h => h)) (fun h => h)) (by simp [askC_len]) (info_askC _ _) (by simp [askC, Value.oneCell']) ?_); intro w4 hb4 hk4 hs4; rw [put_whole (by rfl)] at hb4)
      | (go_at_call 32; go_loud (refine Rets.use (HC2.out w2 (HK.out.trans hk2 (fun _ _ h => h))) ?_); rintro _ w3 ⟨hk3, u3, rfl, hO3⟩; obtain ⟨A3, c3, rfl, _⟩ := hO3.slice))
    refine ⟨by rfl, trivial, ?_⟩
    have HB0 := Lib.hid (hk5.heap hb4 (fun h => by omega))
    have HB1 := Lib.hid hb5
    have z23 := hk2.size
    have z33 := hk3.size
    have HR2 := Lib.hid (((((hO2.rd.kept hk3 (fun _ _ h => h)).kept hk4 (fun k h h' => by omega)).kept hk5 (fun k h h' => by omega)).lt))
    have HR3 := Lib.hid (((hO3.rd.kept hk4 (fun k h h' => by omega)).kept hk5 (fun k h h' => by omega)).lt)
    have HK5 := Lib.hid ((((HK.out.trans hk2 (fun _ _ h => h)).trans hk3 (fun _ _ h => h)).trans hk4 (fun k hk h => by omega)).trans hk5 (fun k hk h => by omega))
    have hz5 : W.heap.size + 2 ≤ w5.heap.size := by omega
    clear hk2 hk3 hk4 hk5 hs4 hs5 hb4 hb5 hO2 hO3 H0 H1 z23 z33 HC1 HC2
    by_cases he : e = 0
    · subst he
      by_cases hf : f = 0
      · subst hf
        have HD := Lib.hid (show decide (x = y) = decide (r1.cut = r2.cut) by rw [decide_eq_decide]; exact HOne.out x y rfl rfl)
        clear HOne
        go_wp2_with (first
          | ((with_reducible refine at_store 55 (.tmp 7) (.tmp 21) rfl ?_); go_must (refine step_store rfl _ _ _ rfl w9.heap.size 0 (reqC y (.slice A9 y.body.length c9)) _ _ rfl rfl hb10 (by simp [reqC]) (info_reqC _ _) (by simp [reqC, Value.oneCell']) ?_); intro w11 hb11 hk11 hs11; rw [put_whole (by rfl)] at hb11; have K9 := (hk9.trans hk10 (fun _ _ h => h)).trans hk11 (fun k hk h => by omega); have K8 := ((hk6.trans hk7 (fun _ _ h => h)).trans hk8 (fun k hk h => by omega)); have K5 := K8.trans K9 (fun _ _ h => h); have K11 := HK5.out.trans K5 (fun _ _ h => h); have hb8z := K9.heap hb8 (fun h => h); have hR6z := ((hO6.rd.lt.kept hk7 (fun _ _ h => h)).kept hk8 (fun k h h' => by have := h.2; omega)).kept K9 (fun _ _ h => h); have hR9z := (hO9.rd.lt.kept hk10 (fun _ _ h => h)).kept hk11 (fun k h h' => by have := h.2; omega); have hA0 := K5.heap HB0.out (fun h => h); have hA1 := K5.heap HB1.out (fun h => h); have hR2z := HR2.out.kept K5 (fun _ _ h => h); have hR3z := HR3.out.kept K5 (fun _ _ h => h))
          | ((with_reducible refine at_ 7 rfl ?_); go_must (refine step_alloc rfl _ rfl _ [.string ⟨#[]⟩, .string ⟨#[]⟩, .string ⟨#[]⟩, .slice none 0 0] row_req rfl ?_); intro w10 hb10 hk10 hs10)
          | (go_at_call 33; (have hz := hb8; clear hz); go_loud (refine Rets.use (HP2.out w8 _ _ (((HR3.out.kept hk6 (fun _ _ h => h)).kept hk7 (fun _ _ h => h)).kept hk8 (fun k h h' => by have := h.2; omega))) ?_); rintro _ w9 ⟨hk9, u9, rfl, hO9⟩; obtain ⟨A9, c9, rfl, _⟩ := hO9.slice; have z9 := hk9.size)
          | ((with_reducible refine at_ 19 rfl ?_); go_must (refine step_load rfl _ _ rfl (W.heap.size + 1) 0 (askC r2.cut (.slice A3 r2.cut.body.length c3)) _ _ (0, 0) _ rfl (hk8.heap (hk7.heap (hk6.heap HB1.out (fun h => h)) (fun h => h)) (fun h => by have := hk6.size; omega)) rfl Try.underlying58 rfl (info_askC _ _) ?_))
          | ((with_reducible refine at_store 55 (.tmp 5) (.tmp 16) rfl ?_); go_must (refine step_store rfl _ _ _ rfl w6.heap.size 0 (reqC x (.slice A6 x.body.length c6)) _ _ rfl rfl hb7 (by simp [reqC]) (info_reqC _ _) (by simp [reqC, Value.oneCell']) ?_); intro w8 hb8 hk8 hs8; rw [put_whole (by rfl)] at hb8)
          | ((with_reducible refine at_ 5 rfl ?_); go_must (refine step_alloc rfl _ rfl _ [.string ⟨#[]⟩, .string ⟨#[]⟩, .string ⟨#[]⟩, .slice none 0 0] row_req rfl ?_); intro w7 hb7 hk7 hs7)
          | (go_at_call 33; go_loud (refine Rets.use (HP1.out w5 _ _ HR2.out) ?_); rintro _ w6 ⟨hk6, u6, rfl, hO6⟩; obtain ⟨A6, c6, rfl, _⟩ := hO6.slice; have z6 := hk6.size)
          | ((with_reducible refine at_ 14 rfl ?_); go_must (refine step_load rfl _ _ rfl W.heap.size 0 (askC r1.cut (.slice A2 r1.cut.body.length c2)) _ _ (0, 0) _ rfl HB0.out rfl Try.underlying58 rfl (info_askC _ _) ?_)))
        refine Canon.region3 [] [] [] [0, 1] 2 (.seg [3, 4, 5, 6, 7, 8, 9, 10] .stop) 3 (.fork 2 (.seg [4, 5, 6, 7, 8, 9, 10] .stop) 4 (.loud 2 (.seg [5, 6, 7, 8, 9, 10] .stop))) 4 (.fork 2 (.seg [3, 5, 6, 7, 8, 9, 10] .stop) 3 (.loud 2 (.seg [5, 6, 7, 8, 9, 10] .stop))) (by kernel_rfl) (by kernel_rfl) (by repeat (first | (with_reducible exact Safe.body) | (with_reducible apply Safe.then) | (with_reducible apply Safe.inBlock) | (dsimp +zetaDelta only))) ?_
        unfold Canon.wpFork3
        simp only [Canon.pick, Canon.wpPlan, List.getElem?_toArray, List.getElem?_cons_zero, List.getElem?_cons_succ]
        have KD : Keeps (fun _ => False) w11 w11.drew := (Keeps.refl _ w11).drew
        have GX := Lib.hid (KD.heap hb8z (fun h => h))
        have GY := Lib.hid (KD.heap hb11 (fun h => h))
        have GA := Lib.hid (KD.heap hA0 (fun h => h))
        have GB := Lib.hid (KD.heap hA1 (fun h => h))
        have GR6 := Lib.hid (hR6z.kept KD (fun _ _ h => h))
        have GR9 := Lib.hid (hR9z.kept KD (fun _ _ h => h))
        have GR2 := Lib.hid (hR2z.kept KD (fun _ _ h => h))
        have GR3 := Lib.hid (hR3z.kept KD (fun _ _ h => h))
        have GK := Lib.hid (K11.trans KD (fun _ _ h => h))
        clear KD hb8z hb11 hA0 hA1 hR6z hR9z hR2z hR3z K11 K5 K8 K9 hk6 hk7 hk8 hk9 hk10 hk11 hb7 hb8 hb10 hO6 hO9 hs7 hs8 hs10 hs11
        generalize w11.drew = wz at *
        obtain ⟨dd, hd⟩ : ∃ dd, decide (x = y) = dd := ⟨_, rfl⟩
        have HS13 := Lib.hid (same13_c x y HX.out HY.out (.slice A6 x.body.length c6) (.slice A9 y.body.length c9) GR6.out GR9.out (by omega))
        have HS23 := Lib.hid (fun w' (hk : Keeps (fun _ => False) wz w') => same23_c r1.cut r2.cut HO1.out HO2.out (.slice A2 r1.cut.body.length c2) (.slice A3 r2.cut.body.length c3) (GR2.out.kept hk (fun _ _ h => h)) (GR3.out.kept hk (fun _ _ h => h)) (by omega))
        rw [hd] at HS13
        rw [← HD.out, hd] at HS23
        clear hd HD
        have hdd : (dd == dd) = true := by simp
        go_wp2_with (first
          | ((with_reducible refine at_ 31 rfl ?_); go_must (refine step_load rfl _ _ rfl w9.heap.size 0 (reqC y (.slice A9 y.body.length c9)) _ _ (0, 0) _ rfl GY.out rfl Try.underlying55 rfl (info_reqC _ _) ?_))
          | ((with_reducible refine at_ 30 rfl ?_); go_must (refine step_load rfl _ _ rfl w6.heap.size 0 (reqC x (.slice A6 x.body.length c6)) _ _ (0, 0) _ rfl GX.out rfl Try.underlying55 rfl (info_reqC _ _) ?_)))
        refine ⟨?_, ?_, ?_⟩
        · go_wp2_with (go_at_call 30; go_loud (refine Rets.use HS13.out ?_); rintro _ w12 ⟨rfl, hk12⟩)
          refine ⟨fun p hp => (by cases hp), ?_⟩
          go_wp2_with (first
            | ((with_reducible refine at_ 33 rfl ?_); go_must (refine step_load rfl _ _ rfl W.heap.size 0 (askC r1.cut (.slice A2 r1.cut.body.length c2)) _ _ (0, 0) _ rfl (hk12.heap GA.out (fun h => h)) rfl Try.underlying58 rfl (info_askC _ _) ?_))
            | ((with_reducible refine at_ 34 rfl ?_); go_must (refine step_load rfl _ _ rfl (W.heap.size + 1) 0 (askC r2.cut (.slice A3 r2.cut.body.length c3)) _ _ (0, 0) _ rfl (hk12.heap GB.out (fun h => h)) rfl Try.underlying58 rfl (info_askC _ _) ?_))
            | (go_at_call 29; go_loud (refine Rets.use (HS23.out _ hk12) ?_); rintro _ w13 ⟨rfl, hk13⟩)
            | (go_at_call 31; go_loud (refine Rets.use (lives23_c _) ?_); rintro v14 w14 ⟨rfl, hk14⟩))
          refine ⟨by rfl, trivial, ?_⟩
          go_wp2
          go_ret
          exact ⟨rfl, ((GK.out.trans hk12 (fun _ _ h => h)).trans hk13 (fun _ _ h => h)).trans hk14 (fun _ _ h => h)⟩
        · go_wp2_with ((with_reducible refine at_ 33 rfl ?_); go_must (refine step_load rfl _ _ rfl W.heap.size 0 (askC r1.cut (.slice A2 r1.cut.body.length c2)) _ _ (0, 0) _ rfl GA.out rfl Try.underlying58 rfl (info_askC _ _) ?_))
          refine ⟨fun p hp => (by cases hp), ?_⟩
          refine ⟨?_, ?_⟩
          · go_wp2_with (go_at_call 30; go_loud (refine Rets.use HS13.out ?_); rintro _ w12 ⟨rfl, hk12⟩)
            refine ⟨fun p hp => (by cases hp), ?_⟩
            go_wp2_with (first
              | ((with_reducible refine at_ 33 rfl ?_); go_must (refine step_load rfl _ _ rfl W.heap.size 0 (askC r1.cut (.slice A2 r1.cut.body.length c2)) _ _ (0, 0) _ rfl (hk12.heap GA.out (fun h => h)) rfl Try.underlying58 rfl (info_askC _ _) ?_))
              | ((with_reducible refine at_ 34 rfl ?_); go_must (refine step_load rfl _ _ rfl (W.heap.size + 1) 0 (askC r2.cut (.slice A3 r2.cut.body.length c3)) _ _ (0, 0) _ rfl (hk12.heap GB.out (fun h => h)) rfl Try.underlying58 rfl (info_askC _ _) ?_))
              | (go_at_call 29; go_loud (refine Rets.use (HS23.out _ hk12) ?_); rintro _ w13 ⟨rfl, hk13⟩)
              | (go_at_call 31; go_loud (refine Rets.use (lives23_c _) ?_); rintro v14 w14 ⟨rfl, hk14⟩))
            refine ⟨by rfl, trivial, ?_⟩
            go_wp2
            go_ret
            exact ⟨rfl, ((GK.out.trans hk12 (fun _ _ h => h)).trans hk13 (fun _ _ h => h)).trans hk14 (fun _ _ h => h)⟩
          · go_wp2_with ((with_reducible refine at_ 34 rfl ?_); go_must (refine step_load rfl _ _ rfl (W.heap.size + 1) 0 (askC r2.cut (.slice A3 r2.cut.body.length c3)) _ _ (0, 0) _ rfl GB.out rfl Try.underlying58 rfl (info_askC _ _) ?_))
            refine ⟨fun p hp => (by cases hp), ?_⟩
            go_wp2_with (go_at_call 30; go_loud (refine Rets.use HS13.out ?_); rintro _ w12 ⟨rfl, hk12⟩)
            refine ⟨fun p hp => (by cases hp), ?_⟩
            go_wp2_with (first
              | ((with_reducible refine at_ 33 rfl ?_); go_must (refine step_load rfl _ _ rfl W.heap.size 0 (askC r1.cut (.slice A2 r1.cut.body.length c2)) _ _ (0, 0) _ rfl (hk12.heap GA.out (fun h => h)) rfl Try.underlying58 rfl (info_askC _ _) ?_))
              | ((with_reducible refine at_ 34 rfl ?_); go_must (refine step_load rfl _ _ rfl (W.heap.size + 1) 0 (askC r2.cut (.slice A3 r2.cut.body.length c3)) _ _ (0, 0) _ rfl (hk12.heap GB.out (fun h => h)) rfl Try.underlying58 rfl (info_askC _ _) ?_))
              | (go_at_call 29; go_loud (refine Rets.use (HS23.out _ hk12) ?_); rintro _ w13 ⟨rfl, hk13⟩)
              | (go_at_call 31; go_loud (refine Rets.use (lives23_c _) ?_); rintro v14 w14 ⟨rfl, hk14⟩))
            refine ⟨by rfl, trivial, ?_⟩
            go_wp2
            go_ret
            exact ⟨rfl, ((GK.out.trans hk12 (fun _ _ h => h)).trans hk13 (fun _ _ h => h)).trans hk14 (fun _ _ h => h)⟩
        · go_wp2_with ((with_reducible refine at_ 34 rfl ?_); go_must (refine step_load rfl _ _ rfl (W.heap.size + 1) 0 (askC r2.cut (.slice A3 r2.cut.body.length c3)) _ _ (0, 0) _ rfl GB.out rfl Try.underlying58 rfl (info_askC _ _) ?_))
          refine ⟨fun p hp => (by cases hp), ?_⟩
          refine ⟨?_, ?_⟩
          · go_wp2_with (go_at_call 30; go_loud (refine Rets.use HS13.out ?_); rintro _ w12 ⟨rfl, hk12⟩)
            refine ⟨fun p hp => (by cases hp), ?_⟩
            go_wp2_with (first
              | ((with_reducible refine at_ 33 rfl ?_); go_must (refine step_load rfl _ _ rfl W.heap.size 0 (askC r1.cut (.slice A2 r1.cut.body.length c2)) _ _ (0, 0) _ rfl (hk12.heap GA.out (fun h => h)) rfl Try.underlying58 rfl (info_askC _ _) ?_))
              | ((with_reducible refine at_ 34 rfl ?_); go_must (refine step_load rfl _ _ rfl (W.heap.size + 1) 0 (askC r2.cut (.slice A3 r2.cut.body.length c3)) _ _ (0, 0) _ rfl (hk12.heap GB.out (fun h => h)) rfl Try.underlying58 rfl (info_askC _ _) ?_))
              | (go_at_call 29; go_loud (refine Rets.use (HS23.out _ hk12) ?_); rintro _ w13 ⟨rfl, hk13⟩)
              | (go_at_call 31; go_loud (refine Rets.use (lives23_c _) ?_); rintro v14 w14 ⟨rfl, hk14⟩))
            refine ⟨by rfl, trivial, ?_⟩
            go_wp2
            go_ret
            exact ⟨rfl, ((GK.out.trans hk12 (fun _ _ h => h)).trans hk13 (fun _ _ h => h)).trans hk14 (fun _ _ h => h)⟩
          · go_wp2_with ((with_reducible refine at_ 33 rfl ?_); go_must (refine step_load rfl _ _ rfl W.heap.size 0 (askC r1.cut (.slice A2 r1.cut.body.length c2)) _ _ (0, 0) _ rfl GA.out rfl Try.underlying58 rfl (info_askC _ _) ?_))
            refine ⟨fun p hp => (by cases hp), ?_⟩
            go_wp2_with (go_at_call 30; go_loud (refine Rets.use HS13.out ?_); rintro _ w12 ⟨rfl, hk12⟩)
            refine ⟨fun p hp => (by cases hp), ?_⟩
            go_wp2_with (first
              | ((with_reducible refine at_ 33 rfl ?_); go_must (refine step_load rfl _ _ rfl W.heap.size 0 (askC r1.cut (.slice A2 r1.cut.body.length c2)) _ _ (0, 0) _ rfl (hk12.heap GA.out (fun h => h)) rfl Try.underlying58 rfl (info_askC _ _) ?_))
              | ((with_reducible refine at_ 34 rfl ?_); go_must (refine step_load rfl _ _ rfl (W.heap.size + 1) 0 (askC r2.cut (.slice A3 r2.cut.body.length c3)) _ _ (0, 0) _ rfl (hk12.heap GB.out (fun h => h)) rfl Try.underlying58 rfl (info_askC _ _) ?_))
              | (go_at_call 29; go_loud (refine Rets.use (HS23.out _ hk12) ?_); rintro _ w13 ⟨rfl, hk13⟩)
              | (go_at_call 31; go_loud (refine Rets.use (lives23_c _) ?_); rintro v14 w14 ⟨rfl, hk14⟩))
            refine ⟨by rfl, trivial, ?_⟩
            go_wp2
            go_ret
            exact ⟨rfl, ((GK.out.trans hk12 (fun _ _ h => h)).trans hk13 (fun _ _ h => h)).trans hk14 (fun _ _ h => h)⟩
      · have hcb : (f != 0) = true := by simpa using hf
        clear hf HOne
        go_wp2_with (first
          | (go_at_call 31; go_loud (refine Rets.use (lives23_c _) ?_); rintro v14 w14 ⟨rfl, hk14⟩)
          | ((with_reducible refine at_store 55 (.tmp 7) (.tmp 21) rfl ?_); go_must (refine step_store rfl _ _ _ rfl w9.heap.size 0 (reqC y (.slice A9 y.body.length c9)) _ _ rfl rfl hb10 (by simp [reqC]) (info_reqC _ _) (by simp [reqC, Value.oneCell']) ?_); intro w11 hb11 hk11 hs11; rw [put_whole (by rfl)] at hb11; have K9 := (hk9.trans hk10 (fun _ _ h => h)).trans hk11 (fun k hk h => by omega); have K8 := ((hk6.trans hk7 (fun _ _ h => h)).trans hk8 (fun k hk h => by omega)); have K5 := K8.trans K9 (fun _ _ h => h); have K11 := HK5.out.trans K5 (fun _ _ h => h); have hb8z := K9.heap hb8 (fun h => h); have hR6z := ((hO6.rd.lt.kept hk7 (fun _ _ h => h)).kept hk8 (fun k h h' => by have := h.2; omega)).kept K9 (fun _ _ h => h); have hR9z := (hO9.rd.lt.kept hk10 (fun _ _ h => h)).kept hk11 (fun k h h' => by have := h.2; omega); have hA0 := K5.heap HB0.out (fun h => h); have hA1 := K5.heap HB1.out (fun h => h); have hR2z := HR2.out.kept K5 (fun _ _ h => h); have hR3z := HR3.out.kept K5 (fun _ _ h => h))
          | ((with_reducible refine at_ 7 rfl ?_); go_must (refine step_alloc rfl _ rfl _ [.string ⟨#[]⟩, .string ⟨#[]⟩, .string ⟨#[]⟩, .slice none 0 0] row_req rfl ?_); intro w10 hb10 hk10 hs10)
          | (go_at_call 33; (have hz := hb8; clear hz); go_loud (refine Rets.use (HP2.out w8 _ _ (((HR3.out.kept hk6 (fun _ _ h => h)).kept hk7 (fun _ _ h => h)).kept hk8 (fun k h h' => by have := h.2; omega))) ?_); rintro _ w9 ⟨hk9, u9, rfl, hO9⟩; obtain ⟨A9, c9, rfl, _⟩ := hO9.slice; have z9 := hk9.size)
          | ((with_reducible refine at_ 19 rfl ?_); go_must (refine step_load rfl _ _ rfl (W.heap.size + 1) 0 (askC r2.cut (.slice A3 r2.cut.body.length c3)) _ _ (0, 0) _ rfl (hk8.heap (hk7.heap (hk6.heap HB1.out (fun h => h)) (fun h => h)) (fun h => by have := hk6.size; omega)) rfl Try.underlying58 rfl (info_askC _ _) ?_))
          | ((with_reducible refine at_store 55 (.tmp 5) (.tmp 16) rfl ?_); go_must (refine step_store rfl _ _ _ rfl w6.heap.size 0 (reqC x (.slice A6 x.body.length c6)) _ _ rfl rfl hb7 (by simp [reqC]) (info_reqC _ _) (by simp [reqC, Value.oneCell']) ?_); intro w8 hb8 hk8 hs8; rw [put_whole (by rfl)] at hb8)
          | ((with_reducible refine at_ 5 rfl ?_); go_must (refine step_alloc rfl _ rfl _ [.string ⟨#[]⟩, .string ⟨#[]⟩, .string ⟨#[]⟩, .slice none 0 0] row_req rfl ?_); intro w7 hb7 hk7 hs7)
          | (go_at_call 33; go_loud (refine Rets.use (HP1.out w5 _ _ HR2.out) ?_); rintro _ w6 ⟨hk6, u6, rfl, hO6⟩; obtain ⟨A6, c6, rfl, _⟩ := hO6.slice; have z6 := hk6.size)
          | ((with_reducible refine at_ 14 rfl ?_); go_must (refine step_load rfl _ _ rfl W.heap.size 0 (askC r1.cut (.slice A2 r1.cut.body.length c2)) _ _ (0, 0) _ rfl HB0.out rfl Try.underlying58 rfl (info_askC _ _) ?_)))
        go_ret
        exact ⟨rfl, K11.trans hk14 (fun _ _ h => h)⟩
    · have hcb : (e != 0) = true := by simpa using he
      clear he HOne
      go_wp2_with (first
        | (go_at_call 31; go_loud (refine Rets.use (lives23_c _) ?_); rintro v14 w14 ⟨rfl, hk14⟩)
        | ((with_reducible refine at_store 55 (.tmp 7) (.tmp 21) rfl ?_); go_must (refine step_store rfl _ _ _ rfl w9.heap.size 0 (reqC y (.slice A9 y.body.length c9)) _ _ rfl rfl hb10 (by simp [reqC]) (info_reqC _ _) (by simp [reqC, Value.oneCell']) ?_); intro w11 hb11 hk11 hs11; rw [put_whole (by rfl)] at hb11; have K9 := (hk9.trans hk10 (fun _ _ h => h)).trans hk11 (fun k hk h => by omega); have K8 := ((hk6.trans hk7 (fun _ _ h => h)).trans hk8 (fun k hk h => by omega)); have K5 := K8.trans K9 (fun _ _ h => h); have K11 := HK5.out.trans K5 (fun _ _ h => h); have hb8z := K9.heap hb8 (fun h => h); have hR6z := ((hO6.rd.lt.kept hk7 (fun _ _ h => h)).kept hk8 (fun k h h' => by have := h.2; omega)).kept K9 (fun _ _ h => h); have hR9z := (hO9.rd.lt.kept hk10 (fun _ _ h => h)).kept hk11 (fun k h h' => by have := h.2; omega); have hA0 := K5.heap HB0.out (fun h => h); have hA1 := K5.heap HB1.out (fun h => h); have hR2z := HR2.out.kept K5 (fun _ _ h => h); have hR3z := HR3.out.kept K5 (fun _ _ h => h))
        | ((with_reducible refine at_ 7 rfl ?_); go_must (refine step_alloc rfl _ rfl _ [.string ⟨#[]⟩, .string ⟨#[]⟩, .string ⟨#[]⟩, .slice none 0 0] row_req rfl ?_); intro w10 hb10 hk10 hs10)
        | (go_at_call 33; (have hz := hb8; clear hz); go_loud (refine Rets.use (HP2.out w8 _ _ (((HR3.out.kept hk6 (fun _ _ h => h)).kept hk7 (fun _ _ h => h)).kept hk8 (fun k h h' => by have := h.2; omega))) ?_); rintro _ w9 ⟨hk9, u9, rfl, hO9⟩; obtain ⟨A9, c9, rfl, _⟩ := hO9.slice; have z9 := hk9.size)
        | ((with_reducible refine at_ 19 rfl ?_); go_must (refine step_load rfl _ _ rfl (W.heap.size + 1) 0 (askC r2.cut (.slice A3 r2.cut.body.length c3)) _ _ (0, 0) _ rfl (hk8.heap (hk7.heap (hk6.heap HB1.out (fun h => h)) (fun h => h)) (fun h => by have := hk6.size; omega)) rfl Try.underlying58 rfl (info_askC _ _) ?_))
        | ((with_reducible refine at_store 55 (.tmp 5) (.tmp 16) rfl ?_); go_must (refine step_store rfl _ _ _ rfl w6.heap.size 0 (reqC x (.slice A6 x.body.length c6)) _ _ rfl rfl hb7 (by simp [reqC]) (info_reqC _ _) (by simp [reqC, Value.oneCell']) ?_); intro w8 hb8 hk8 hs8; rw [put_whole (by rfl)] at hb8)
        | ((with_reducible refine at_ 5 rfl ?_); go_must (refine step_alloc rfl _ rfl _ [.string ⟨#[]⟩, .string ⟨#[]⟩, .string ⟨#[]⟩, .slice none 0 0] row_req rfl ?_); intro w7 hb7 hk7 hs7)
        | (go_at_call 33; go_loud (refine Rets.use (HP1.out w5 _ _ HR2.out) ?_); rintro _ w6 ⟨hk6, u6, rfl, hO6⟩; obtain ⟨A6, c6, rfl, _⟩ := hO6.slice; have z6 := hk6.size)
        | ((with_reducible refine at_ 14 rfl ?_); go_must (refine step_load rfl _ _ rfl W.heap.size 0 (askC r1.cut (.slice A2 r1.cut.body.length c2)) _ _ (0, 0) _ rfl HB0.out rfl Try.underlying58 rfl (info_askC _ _) ?_)))
      go_ret
      exact ⟨rfl, K11.trans hk14 (fun _ _ h => h)⟩
  · go_wp2_with ((with_reducible refine at_ 11 rfl ?_); go_must (refine step_load rfl _ _ rfl (W.heap.size + 1) 0 (askC r2 (.slice Ab r2.body.length cb)) _ _ (0, 0) _ rfl H1.out rfl Try.underlying58 rfl (info_askC _ _) ?_))
    refine ⟨fun p hp => (by cases hp), ?_⟩
    go_wp2_with (go_at_call 32; go_loud (refine Rets.use (HC1.out wd HK.out) ?_); rintro _ w2 ⟨hk2, u2, rfl, hO2⟩)
    refine ⟨fun p hp => (by cases hp), ?_⟩
    obtain ⟨A2, c2, rfl, _⟩ := hO2.slice
    go_wp2_with (first
      | ((with_reducible refine at_store 58 (.tmp 3) (.tmp 12) rfl ?_); go_must (refine step_store rfl _ _ _ rfl (W.heap.size + 1) 0 (askC r2.cut (.slice A3 r2.cut.body.length c3)) _ _ rfl rfl (hk4.heap (hk3.heap (hk2.heap H1.out (fun h => h)) (fun h => h)) (fun h => by omega)) (by simp [askC_len]) (info_askC _ _) (by simp [askC, Value.oneCell']) ?_); intro w5 hb5 hk5 hs5; rw [put_whole (by rfl)] at hb5)
      | ((with_reducible refine at_store 58 (.tmp 2) (.tmp 10) rfl ?_); go_must (refine step_store rfl _ _ _ rfl W.heap.size 0 (askC r1.cut (.slice A2 r1.cut.body.length c2)) _ _ rfl rfl (hk3.heap (hk2.heap H0.out (fun h => h)) (fun h => h)) (by simp [askC_len]) (info_askC _ _) (by simp [askC, Value.oneCell']) ?_); intro w4 hb4 hk4 hs4; rw [put_whole (by rfl)] at hb4)
      | (go_at_call 32; go_loud (refine Rets.use (HC2.out w2 (HK.out.trans hk2 (fun _ _ h => h))) ?_); rintro _ w3 ⟨hk3, u3, rfl, hO3⟩; obtain ⟨A3, c3, rfl, _⟩ := hO3.slice))
    refine ⟨by rfl, trivial, ?_⟩
    have HB0 := Lib.hid (hk5.heap hb4 (fun h => by omega))
    have HB1 := Lib.hid hb5
    have z23 := hk2.size
    have z33 := hk3.size
    have HR2 := Lib.hid (((((hO2.rd.kept hk3 (fun _ _ h => h)).kept hk4 (fun k h h' => by omega)).kept hk5 (fun k h h' => by omega)).lt))
    have HR3 := Lib.hid (((hO3.rd.kept hk4 (fun k h h' => by omega)).kept hk5 (fun k h h' => by omega)).lt)
    have HK5 := Lib.hid ((((HK.out.trans hk2 (fun _ _ h => h)).trans hk3 (fun _ _ h => h)).trans hk4 (fun k hk h => by omega)).trans hk5 (fun k hk h => by omega))
    have hz5 : W.heap.size + 2 ≤ w5.heap.size := by omega
    clear hk2 hk3 hk4 hk5 hs4 hs5 hb4 hb5 hO2 hO3 H0 H1 z23 z33 HC1 HC2
    by_cases he : e = 0
    · subst he
      by_cases hf : f = 0
      · subst hf
        have HD := Lib.hid (show decide (x = y) = decide (r1.cut = r2.cut) by rw [decide_eq_decide]; exact HOne.out x y rfl rfl)
        clear HOne
        go_wp2_with (first
          | ((with_reducible refine at_store 55 (.tmp 7) (.tmp 21) rfl ?_); go_must (refine step_store rfl _ _ _ rfl w9.heap.size 0 (reqC y (.slice A9 y.body.length c9)) _ _ rfl rfl hb10 (by simp [reqC]) (info_reqC _ _) (by simp [reqC, Value.oneCell']) ?_); intro w11 hb11 hk11 hs11; rw [put_whole (by rfl)] at hb11; have K9 := (hk9.trans hk10 (fun _ _ h => h)).trans hk11 (fun k hk h => by omega); have K8 := ((hk6.trans hk7 (fun _ _ h => h)).trans hk8 (fun k hk h => by omega)); have K5 := K8.trans K9 (fun _ _ h => h); have K11 := HK5.out.trans K5 (fun _ _ h => h); have hb8z := K9.heap hb8 (fun h => h); have hR6z := ((hO6.rd.lt.kept hk7 (fun _ _ h => h)).kept hk8 (fun k h h' => by have := h.2; omega)).kept K9 (fun _ _ h => h); have hR9z := (hO9.rd.lt.kept hk10 (fun _ _ h => h)).kept hk11 (fun k h h' => by have := h.2; omega); have hA0 := K5.heap HB0.out (fun h => h); have hA1 := K5.heap HB1.out (fun h => h); have hR2z := HR2.out.kept K5 (fun _ _ h => h); have hR3z := HR3.out.kept K5 (fun _ _ h => h))
          | ((with_reducible refine at_ 7 rfl ?_); go_must (refine step_alloc rfl _ rfl _ [.string ⟨#[]⟩, .string ⟨#[]⟩, .string ⟨#[]⟩, .slice none 0 0] row_req rfl ?_); intro w10 hb10 hk10 hs10)
          | (go_at_call 33; (have hz := hb8; clear hz); go_loud (refine Rets.use (HP2.out w8 _ _ (((HR3.out.kept hk6 (fun _ _ h => h)).kept hk7 (fun _ _ h => h)).kept hk8 (fun k h h' => by have := h.2; omega))) ?_); rintro _ w9 ⟨hk9, u9, rfl, hO9⟩; obtain ⟨A9, c9, rfl, _⟩ := hO9.slice; have z9 := hk9.size)
          | ((with_reducible refine at_ 19 rfl ?_); go_must (refine step_load rfl _ _ rfl (W.heap.size + 1) 0 (askC r2.cut (.slice A3 r2.cut.body.length c3)) _ _ (0, 0) _ rfl (hk8.heap (hk7.heap (hk6.heap HB1.out (fun h => h)) (fun h => h)) (fun h => by have := hk6.size; omega)) rfl Try.underlying58 rfl (info_askC _ _) ?_))
          | ((with_reducible refine at_store 55 (.tmp 5) (.tmp 16) rfl ?_); go_must (refine step_store rfl _ _ _ rfl w6.heap.size 0 (reqC x (.slice A6 x.body.length c6)) _ _ rfl rfl hb7 (by simp [reqC]) (info_reqC _ _) (by simp [reqC, Value.oneCell']) ?_); intro w8 hb8 hk8 hs8; rw [put_whole (by rfl)] at hb8)
          | ((with_reducible refine at_ 5 rfl ?_); go_must (refine step_alloc rfl _ rfl _ [.string ⟨#[]⟩, .string ⟨#[]⟩, .string ⟨#[]⟩, .slice none 0 0] row_req rfl ?_); intro w7 hb7 hk7 hs7)
          | (go_at_call 33; go_loud (refine Rets.use (HP1.out w5 _ _ HR2.out) ?_); rintro _ w6 ⟨hk6, u6, rfl, hO6⟩; obtain ⟨A6, c6, rfl, _⟩ := hO6.slice; have z6 := hk6.size)
          | ((with_reducible refine at_ 14 rfl ?_); go_must (refine step_load rfl _ _ rfl W.heap.size 0 (askC r1.cut (.slice A2 r1.cut.body.length c2)) _ _ (0, 0) _ rfl HB0.out rfl Try.underlying58 rfl (info_askC _ _) ?_)))
        refine Canon.region3 [] [] [] [0, 1] 2 (.seg [3, 4, 5, 6, 7, 8, 9, 10] .stop) 3 (.fork 2 (.seg [4, 5, 6, 7, 8, 9, 10] .stop) 4 (.loud 2 (.seg [5, 6, 7, 8, 9, 10] .stop))) 4 (.fork 2 (.seg [3, 5, 6, 7, 8, 9, 10] .stop) 3 (.loud 2 (.seg [5, 6, 7, 8, 9, 10] .stop))) (by kernel_rfl) (by kernel_rfl) (by repeat (first | (with_reducible exact Safe.body) | (with_reducible apply Safe.then) | (with_reducible apply Safe.inBlock) | (dsimp +zetaDelta only))) ?_
        unfold Canon.wpFork3
        simp only [Canon.pick, Canon.wpPlan, List.getElem?_toArray, List.getElem?_cons_zero, List.getElem?_cons_succ]
        have KD : Keeps (fun _ => False) w11 w11.drew := (Keeps.refl _ w11).drew
        have GX := Lib.hid (KD.heap hb8z (fun h => h))
        have GY := Lib.hid (KD.heap hb11 (fun h => h))
        have GA := Lib.hid (KD.heap hA0 (fun h => h))
        have GB := Lib.hid (KD.heap hA1 (fun h => h))
        have GR6 := Lib.hid (hR6z.kept KD (fun _ _ h => h))
        have GR9 := Lib.hid (hR9z.kept KD (fun _ _ h => h))
        have GR2 := Lib.hid (hR2z.kept KD (fun _ _ h => h))
        have GR3 := Lib.hid (hR3z.kept KD (fun _ _ h => h))
        have GK := Lib.hid (K11.trans KD (fun _ _ h => h))
        clear KD hb8z hb11 hA0 hA1 hR6z hR9z hR2z hR3z K11 K5 K8 K9 hk6 hk7 hk8 hk9 hk10 hk11 hb7 hb8 hb10 hO6 hO9 hs7 hs8 hs10 hs11
        generalize w11.drew = wz at *
        obtain ⟨dd, hd⟩ : ∃ dd, decide (x = y) = dd := ⟨_, rfl⟩
        have HS13 := Lib.hid (same13_c x y HX.out HY.out (.slice A6 x.body.length c6) (.slice A9 y.body.length c9) GR6.out GR9.out (by omega))
        have HS23 := Lib.hid (fun w' (hk : Keeps (fun _ => False) wz w') => same23_c r1.cut r2.cut HO1.out HO2.out (.slice A2 r1.cut.body.length c2) (.slice A3 r2.cut.body.length c3) (GR2.out.kept hk (fun _ _ h => h)) (GR3.out.kept hk (fun _ _ h => h)) (by omega))
        rw [hd] at HS13
        rw [← HD.out, hd] at HS23
        clear hd HD
        have hdd : (dd == dd) = true := by simp
        go_wp2_with (first
          | ((with_reducible refine at_ 31 rfl ?_); go_must (refine step_load rfl _ _ rfl w9.heap.size 0 (reqC y (.slice A9 y.body.length c9)) _ _ (0, 0) _ rfl GY.out rfl Try.underlying55 rfl (info_reqC _ _) ?_))
          | ((with_reducible refine at_ 30 rfl ?_); go_must (refine step_load rfl _ _ rfl w6.heap.size 0 (reqC x (.slice A6 x.body.length c6)) _ _ (0, 0) _ rfl GX.out rfl Try.underlying55 rfl (info_reqC _ _) ?_)))
        refine ⟨?_, ?_, ?_⟩
        · go_wp2_with (go_at_call 30; go_loud (refine Rets.use HS13.out ?_); rintro _ w12 ⟨rfl, hk12⟩)
          refine ⟨fun p hp => (by cases hp), ?_⟩
          go_wp2_with (first
            | ((with_reducible refine at_ 33 rfl ?_); go_must (refine step_load rfl _ _ rfl W.heap.size 0 (askC r1.cut (.slice A2 r1.cut.body.length c2)) _ _ (0, 0) _ rfl (hk12.heap GA.out (fun h => h)) rfl Try.underlying58 rfl (info_askC _ _) ?_))
            | ((with_reducible refine at_ 34 rfl ?_); go_must (refine step_load rfl _ _ rfl (W.heap.size + 1) 0 (askC r2.cut (.slice A3 r2.cut.body.length c3)) _ _ (0, 0) _ rfl (hk12.heap GB.out (fun h => h)) rfl Try.underlying58 rfl (info_askC _ _) ?_))
            | (go_at_call 29; go_loud (refine Rets.use (HS23.out _ hk12) ?_); rintro _ w13 ⟨rfl, hk13⟩)
            | (go_at_call 31; go_loud (refine Rets.use (lives23_c _) ?_); rintro v14 w14 ⟨rfl, hk14⟩))
          refine ⟨by rfl, trivial, ?_⟩
          go_wp2
          go_ret
          exact ⟨rfl, ((GK.out.trans hk12 (fun _ _ h => h)).trans hk13 (fun _ _ h => h)).trans hk14 (fun _ _ h => h)⟩
        · go_wp2_with ((with_reducible refine at_ 33 rfl ?_); go_must (refine step_load rfl _ _ rfl W.heap.size 0 (askC r1.cut (.slice A2 r1.cut.body.length c2)) _ _ (0, 0) _ rfl GA.out rfl Try.underlying58 rfl (info_askC _ _) ?_))
          refine ⟨fun p hp => (by cases hp), ?_⟩
          refine ⟨?_, ?_⟩
          · go_wp2_with (go_at_call 30; go_loud (refine Rets.use HS13.out ?_); rintro _ w12 ⟨rfl, hk12⟩)
            refine ⟨fun p hp => (by cases hp), ?_⟩
            go_wp2_with (first
              | ((with_reducible refine at_ 33 rfl ?_); go_must (refine step_load rfl _ _ rfl W.heap.size 0 (askC r1.cut (.slice A2 r1.cut.body.length c2)) _ _ (0, 0) _ rfl (hk12.heap GA.out (fun h => h)) rfl Try.underlying58 rfl (info_askC _ _) ?_))
              | ((with_reducible refine at_ 34 rfl ?_); go_must (refine step_load rfl _ _ rfl (W.heap.size + 1) 0 (askC r2.cut (.slice A3 r2.cut.body.length c3)) _ _ (0, 0) _ rfl (hk12.heap GB.out (fun h => h)) rfl Try.underlying58 rfl (info_askC _ _) ?_))
              | (go_at_call 29; go_loud (refine Rets.use (HS23.out _ hk12) ?_); rintro _ w13 ⟨rfl, hk13⟩)
              | (go_at_call 31; go_loud (refine Rets.use (lives23_c _) ?_); rintro v14 w14 ⟨rfl, hk14⟩))
            refine ⟨by rfl, trivial, ?_⟩
            go_wp2
            go_ret
            exact ⟨rfl, ((GK.out.trans hk12 (fun _ _ h => h)).trans hk13 (fun _ _ h => h)).trans hk14 (fun _ _ h => h)⟩
          · go_wp2_with ((with_reducible refine at_ 34 rfl ?_); go_must (refine step_load rfl _ _ rfl (W.heap.size + 1) 0 (askC r2.cut (.slice A3 r2.cut.body.length c3)) _ _ (0, 0) _ rfl GB.out rfl Try.underlying58 rfl (info_askC _ _) ?_))
            refine ⟨fun p hp => (by cases hp), ?_⟩
            go_wp2_with (go_at_call 30; go_loud (refine Rets.use HS13.out ?_); rintro _ w12 ⟨rfl, hk12⟩)
            refine ⟨fun p hp => (by cases hp), ?_⟩
            go_wp2_with (first
              | ((with_reducible refine at_ 33 rfl ?_); go_must (refine step_load rfl _ _ rfl W.heap.size 0 (askC r1.cut (.slice A2 r1.cut.body.length c2)) _ _ (0, 0) _ rfl (hk12.heap GA.out (fun h => h)) rfl Try.underlying58 rfl (info_askC _ _) ?_))
              | ((with_reducible refine at_ 34 rfl ?_); go_must (refine step_load rfl _ _ rfl (W.heap.size + 1) 0 (askC r2.cut (.slice A3 r2.cut.body.length c3)) _ _ (0, 0) _ rfl (hk12.heap GB.out (fun h => h)) rfl Try.underlying58 rfl (info_askC _ _) ?_))
              | (go_at_call 29; go_loud (refine Rets.use (HS23.out _ hk12) ?_); rintro _ w13 ⟨rfl, hk13⟩)
              | (go_at_call 31; go_loud (refine Rets.use (lives23_c _) ?_); rintro v14 w14 ⟨rfl, hk14⟩))
            refine ⟨by rfl, trivial, ?_⟩
            go_wp2
            go_ret
            exact ⟨rfl, ((GK.out.trans hk12 (fun _ _ h => h)).trans hk13 (fun _ _ h => h)).trans hk14 (fun _ _ h => h)⟩
        · go_wp2_with ((with_reducible refine at_ 34 rfl ?_); go_must (refine step_load rfl _ _ rfl (W.heap.size + 1) 0 (askC r2.cut (.slice A3 r2.cut.body.length c3)) _ _ (0, 0) _ rfl GB.out rfl Try.underlying58 rfl (info_askC _ _) ?_))
          refine ⟨fun p hp => (by cases hp), ?_⟩
          refine ⟨?_, ?_⟩
          · go_wp2_with (go_at_call 30; go_loud (refine Rets.use HS13.out ?_); rintro _ w12 ⟨rfl, hk12⟩)
            refine ⟨fun p hp => (by cases hp), ?_⟩
            go_wp2_with (first
              | ((with_reducible refine at_ 33 rfl ?_); go_must (refine step_load rfl _ _ rfl W.heap.size 0 (askC r1.cut (.slice A2 r1.cut.body.length c2)) _ _ (0, 0) _ rfl (hk12.heap GA.out (fun h => h)) rfl Try.underlying58 rfl (info_askC _ _) ?_))
              | ((with_reducible refine at_ 34 rfl ?_); go_must (refine step_load rfl _ _ rfl (W.heap.size + 1) 0 (askC r2.cut (.slice A3 r2.cut.body.length c3)) _ _ (0, 0) _ rfl (hk12.heap GB.out (fun h => h)) rfl Try.underlying58 rfl (info_askC _ _) ?_))
              | (go_at_call 29; go_loud (refine Rets.use (HS23.out _ hk12) ?_); rintro _ w13 ⟨rfl, hk13⟩)
              | (go_at_call 31; go_loud (refine Rets.use (lives23_c _) ?_); rintro v14 w14 ⟨rfl, hk14⟩))
            refine ⟨by rfl, trivial, ?_⟩
            go_wp2
            go_ret
            exact ⟨rfl, ((GK.out.trans hk12 (fun _ _ h => h)).trans hk13 (fun _ _ h => h)).trans hk14 (fun _ _ h => h)⟩
          · go_wp2_with ((with_reducible refine at_ 33 rfl ?_); go_must (refine step_load rfl _ _ rfl W.heap.size 0 (askC r1.cut (.slice A2 r1.cut.body.length c2)) _ _ (0, 0) _ rfl GA.out rfl Try.underlying58 rfl (info_askC _ _) ?_))
            refine ⟨fun p hp => (by cases hp), ?_⟩
            go_wp2_with (go_at_call 30; go_loud (refine Rets.use HS13.out ?_); rintro _ w12 ⟨rfl, hk12⟩)
            refine ⟨fun p hp => (by cases hp), ?_⟩
            go_wp2_with (first
              | ((with_reducible refine at_ 33 rfl ?_); go_must (refine step_load rfl _ _ rfl W.heap.size 0 (askC r1.cut (.slice A2 r1.cut.body.length c2)) _ _ (0, 0) _ rfl (hk12.heap GA.out (fun h => h)) rfl Try.underlying58 rfl (info_askC _ _) ?_))
              | ((with_reducible refine at_ 34 rfl ?_); go_must (refine step_load rfl _ _ rfl (W.heap.size + 1) 0 (askC r2.cut (.slice A3 r2.cut.body.length c3)) _ _ (0, 0) _ rfl (hk12.heap GB.out (fun h => h)) rfl Try.underlying58 rfl (info_askC _ _) ?_))
              | (go_at_call 29; go_loud (refine Rets.use (HS23.out _ hk12) ?_); rintro _ w13 ⟨rfl, hk13⟩)
              | (go_at_call 31; go_loud (refine Rets.use (lives23_c _) ?_); rintro v14 w14 ⟨rfl, hk14⟩))
            refine ⟨by rfl, trivial, ?_⟩
            go_wp2
            go_ret
            exact ⟨rfl, ((GK.out.trans hk12 (fun _ _ h => h)).trans hk13 (fun _ _ h => h)).trans hk14 (fun _ _ h => h)⟩
      · have hcb : (f != 0) = true := by simpa using hf
        clear hf HOne
        go_wp2_with (first
          | (go_at_call 31; go_loud (refine Rets.use (lives23_c _) ?_); rintro v14 w14 ⟨rfl, hk14⟩)
          | ((with_reducible refine at_store 55 (.tmp 7) (.tmp 21) rfl ?_); go_must (refine step_store rfl _ _ _ rfl w9.heap.size 0 (reqC y (.slice A9 y.body.length c9)) _ _ rfl rfl hb10 (by simp [reqC]) (info_reqC _ _) (by simp [reqC, Value.oneCell']) ?_); intro w11 hb11 hk11 hs11; rw [put_whole (by rfl)] at hb11; have K9 := (hk9.trans hk10 (fun _ _ h => h)).trans hk11 (fun k hk h => by omega); have K8 := ((hk6.trans hk7 (fun _ _ h => h)).trans hk8 (fun k hk h => by omega)); have K5 := K8.trans K9 (fun _ _ h => h); have K11 := HK5.out.trans K5 (fun _ _ h => h); have hb8z := K9.heap hb8 (fun h => h); have hR6z := ((hO6.rd.lt.kept hk7 (fun _ _ h => h)).kept hk8 (fun k h h' => by have := h.2; omega)).kept K9 (fun _ _ h => h); have hR9z := (hO9.rd.lt.kept hk10 (fun _ _ h => h)).kept hk11 (fun k h h' => by have := h.2; omega); have hA0 := K5.heap HB0.out (fun h => h); have hA1 := K5.heap HB1.out (fun h => h); have hR2z := HR2.out.kept K5 (fun _ _ h => h); have hR3z := HR3.out.kept K5 (fun _ _ h => h))
          | ((with_reducible refine at_ 7 rfl ?_); go_must (refine step_alloc rfl _ rfl _ [.string ⟨#[]⟩, .string ⟨#[]⟩, .string ⟨#[]⟩, .slice none 0 0] row_req rfl ?_); intro w10 hb10 hk10 hs10)
          | (go_at_call 33; (have hz := hb8; clear hz); go_loud (refine Rets.use (HP2.out w8 _ _ (((HR3.out.kept hk6 (fun _ _ h => h)).kept hk7 (fun _ _ h => h)).kept hk8 (fun k h h' => by have := h.2; omega))) ?_); rintro _ w9 ⟨hk9, u9, rfl, hO9⟩; obtain ⟨A9, c9, rfl, _⟩ := hO9.slice; have z9 := hk9.size)
          | ((with_reducible refine at_ 19 rfl ?_); go_must (refine step_load rfl _ _ rfl (W.heap.size + 1) 0 (askC r2.cut (.slice A3 r2.cut.body.length c3)) _ _ (0, 0) _ rfl (hk8.heap (hk7.heap (hk6.heap HB1.out (fun h => h)) (fun h => h)) (fun h => by have := hk6.size; omega)) rfl Try.underlying58 rfl (info_askC _ _) ?_))
          | ((with_reducible refine at_store 55 (.tmp 5) (.tmp 16) rfl ?_); go_must (refine step_store rfl _ _ _ rfl w6.heap.size 0 (reqC x (.slice A6 x.body.length c6)) _ _ rfl rfl hb7 (by simp [reqC]) (info_reqC _ _) (by simp [reqC, Value.oneCell']) ?_); intro w8 hb8 hk8 hs8; rw [put_whole (by rfl)] at hb8)
          | ((with_reducible refine at_ 5 rfl ?_); go_must (refine step_alloc rfl _ rfl _ [.string ⟨#[]⟩, .string ⟨#[]⟩, .string ⟨#[]⟩, .slice none 0 0] row_req rfl ?_); intro w7 hb7 hk7 hs7)
          | (go_at_call 33; go_loud (refine Rets.use (HP1.out w5 _ _ HR2.out) ?_); rintro _ w6 ⟨hk6, u6, rfl, hO6⟩; obtain ⟨A6, c6, rfl, _⟩ := hO6.slice; have z6 := hk6.size)
          | ((with_reducible refine at_ 14 rfl ?_); go_must (refine step_load rfl _ _ rfl W.heap.size 0 (askC r1.cut (.slice A2 r1.cut.body.length c2)) _ _ (0, 0) _ rfl HB0.out rfl Try.underlying58 rfl (info_askC _ _) ?_)))
        go_ret
        exact ⟨rfl, K11.trans hk14 (fun _ _ h => h)⟩
    · have hcb : (e != 0) = true := by simpa using he
      clear he HOne
      go_wp2_with (first
        | (go_at_call 31; go_loud (refine Rets.use (lives23_c _) ?_); rintro v14 w14 ⟨rfl, hk14⟩)
        | ((with_reducible refine at_store 55 (.tmp 7) (.tmp 21) rfl ?_); go_must (refine step_store rfl _ _ _ rfl w9.heap.size 0 (reqC y (.slice A9 y.body.length c9)) _ _ rfl rfl hb10 (by simp [reqC]) (info_reqC _ _) (by simp [reqC, Value.oneCell']) ?_); intro w11 hb11 hk11 hs11; rw [put_whole (by rfl)] at hb11; have K9 := (hk9.trans hk10 (fun _ _ h => h)).trans hk11 (fun k hk h => by omega); have K8 := ((hk6.trans hk7 (fun _ _ h => h)).trans hk8 (fun k hk h => by omega)); have K5 := K8.trans K9 (fun _ _ h => h); have K11 := HK5.out.trans K5 (fun _ _ h => h); have hb8z := K9.heap hb8 (fun h => h); have hR6z := ((hO6.rd.lt.kept hk7 (fun _ _ h => h)).kept hk8 (fun k h h' => by have := h.2; omega)).kept K9 (fun _ _ h => h); have hR9z := (hO9.rd.lt.kept hk10 (fun _ _ h => h)).kept hk11 (fun k h h' => by have := h.2; omega); have hA0 := K5.heap HB0.out (fun h => h); have hA1 := K5.heap HB1.out (fun h => h); have hR2z := HR2.out.kept K5 (fun _ _ h => h); have hR3z := HR3.out.kept K5 (fun _ _ h => h))
        | ((with_reducible refine at_ 7 rfl ?_); go_must (refine step_alloc rfl _ rfl _ [.string ⟨#[]⟩, .string ⟨#[]⟩, .string ⟨#[]⟩, .slice none 0 0] row_req rfl ?_); intro w10 hb10 hk10 hs10)
        | (go_at_call 33; (have hz := hb8; clear hz); go_loud (refine Rets.use (HP2.out w8 _ _ (((HR3.out.kept hk6 (fun _ _ h => h)).kept hk7 (fun _ _ h => h)).kept hk8 (fun k h h' => by have := h.2; omega))) ?_); rintro _ w9 ⟨hk9, u9, rfl, hO9⟩; obtain ⟨A9, c9, rfl, _⟩ := hO9.slice; have z9 := hk9.size)
        | ((with_reducible refine at_ 19 rfl ?_); go_must (refine step_load rfl _ _ rfl (W.heap.size + 1) 0 (askC r2.cut (.slice A3 r2.cut.body.length c3)) _ _ (0, 0) _ rfl (hk8.heap (hk7.heap (hk6.heap HB1.out (fun h => h)) (fun h => h)) (fun h => by have := hk6.size; omega)) rfl Try.underlying58 rfl (info_askC _ _) ?_))
        | ((with_reducible refine at_store 55 (.tmp 5) (.tmp 16) rfl ?_); go_must (refine step_store rfl _ _ _ rfl w6.heap.size 0 (reqC x (.slice A6 x.body.length c6)) _ _ rfl rfl hb7 (by simp [reqC]) (info_reqC _ _) (by simp [reqC, Value.oneCell']) ?_); intro w8 hb8 hk8 hs8; rw [put_whole (by rfl)] at hb8)
        | ((with_reducible refine at_ 5 rfl ?_); go_must (refine step_alloc rfl _ rfl _ [.string ⟨#[]⟩, .string ⟨#[]⟩, .string ⟨#[]⟩, .slice none 0 0] row_req rfl ?_); intro w7 hb7 hk7 hs7)
        | (go_at_call 33; go_loud (refine Rets.use (HP1.out w5 _ _ HR2.out) ?_); rintro _ w6 ⟨hk6, u6, rfl, hO6⟩; obtain ⟨A6, c6, rfl, _⟩ := hO6.slice; have z6 := hk6.size)
        | ((with_reducible refine at_ 14 rfl ?_); go_must (refine step_load rfl _ _ rfl W.heap.size 0 (askC r1.cut (.slice A2 r1.cut.body.length c2)) _ _ (0, 0) _ rfl HB0.out rfl Try.underlying58 rfl (info_askC _ _) ?_)))
      go_ret
      exact ⟨rfl, K11.trans hk14 (fun _ _ h => h)⟩
theorem routeOne_walk (W : World) (cs0 : Array Value) (x0 : Int × ByteArray × ByteArray × List Int × Int × Int × Unit) (H0 : Has W (.st (.fld (.int .i64) (.fld .str (.fld .str (.fld (.slice (.int .u8)) (.fld (.int .i64) (.fld (.int .i64) .fin))))))) cs0.toList x0)
    (cs1 : Array Value) (x1 : Int × ByteArray × ByteArray × List Int × Int × Int × Unit) (H1 : Has W (.st (.fld (.int .i64) (.fld .str (.fld .str (.fld (.slice (.int .u8)) (.fld (.int .i64) (.fld (.int .i64) .fin))))))) cs1.toList x1) :
    Calls Try.prog 11 #[.agg cs0, .agg cs1] W (Rets (Yes W)) := by
  obtain ⟨r, v, e, hr, h⟩ := KAsk_of H0
  obtain ⟨r', v', e', hr', h'⟩ := KAsk_of H1
  have e2 : cs0 = (askC r v).toArray := by rw [← e]
  have e3 : cs1 = (askC r' v').toArray := by rw [← e']
  subst e2 e3
  exact one_in W r r' hr hr' v v' h h'
end Go.Proofs.Ytomnkdjlljobeaa
