/-
  RouteBack: the walk.
-/
import Derived.Test.YtibegbmehpggbaaWireRP
import Derived.Test.YtibegbmehpggbaaPrintX
namespace Go.Proofs.Ytibegbmehpggbaa
open Go.RowKit Go.Canon Go.Mem Go.Args
set_option linter.unusedVariables false
set_option linter.unusedSimpArgs false
theorem route_print {a : AskP} (ha : a.Ok) (l1 : a.name.length ≤ 30) (l2 : a.spec.length ≤ 30) (l3 : a.body.length ≤ 4200) : printP a = (zeroR, 2) ∨ ∃ m t b, printP a = (⟨m, t, [], b⟩, 0) ∧ parseP ⟨m, t, [], b⟩ = (a, 200) ∧ (⟨m, t, [], b⟩ : ReqP).Ok ∧ b.length ≤ 4200 ∧ Wire.verb m = true ∧ Wire.target t = true := by
  unfold printP
  split
  · exact .inl rfl
  · rename_i g hk
    split
    · rename_i hc
      obtain ⟨p1, p2, p3⟩ := print_pack ha l1 l2 l3 hk
      refine .inr ⟨bytesOf g.method, tgtG g.first g.numbers a g.pieces, _, rfl, Prod.ext hc.2 hc.1, p1, p3, (forms_low g (formK_mem hk).1).2.2, ?_⟩
      have h2 := hc.1
      cases hT : parseT (reqG g a).target with
      | none => rw [parse_none hT] at h2; cases h2
      | some x => exact parse_target p1.target hT
    · exact .inl rfl
theorem zeroR_okR : zeroR.Ok := ⟨IsB.nil, IsB.nil, IsB.nil, IsB.nil⟩
set_option maxHeartbeats 1600000 in
set_option maxRecDepth 100000 in
/-- A body that is too long. -/
theorem printW_big {w : World} {ok : Nat → Prop} (x : ReqP) (h1 : x.method.length ≤ 50) (h2 : x.target.length ≤ 200) (h3 : x.token.length ≤ 1200) (hl : x.body.length ≤ 1000000) (hbig : 2048 < x.body.length) (v : Value) (hr : Rd w ok v x.body.length (Disk.bytes8 x.body)) : Calls Try.prog 25 #[reqV x v] w (Rets (PrintIs w ([], 4))) := by
  obtain ⟨A, c, rfl, hc, _⟩ := hr.slice
  have z1 := str_size x.method
  have z2 := str_size x.target
  have z3 := str_size x.token
  unfold reqV
  generalize str x.method = sm at *
  generalize str x.target = st at *
  generalize str x.token = sk at *
  obtain ⟨w1, hw1⟩ : ∃ w1, w1 = w.alloc (.cells #[.string sm, .string st, .string sk, .slice A x.body.length c] 26) := ⟨_, rfl⟩
  obtain ⟨hb1, hk1, hs1⟩ := alloc1 hw1
  have c0 : w1.cell? ⟨w.heap.size, 0, none⟩ = some (.string sm) := cell_of_row w1 _ _ _ _ _ hb1
  have c1 : w1.cell? ⟨w.heap.size, 1, none⟩ = some (.string st) := cell_of_row w1 _ _ _ _ _ hb1
  have c2 : w1.cell? ⟨w.heap.size, 2, none⟩ = some (.string sk) := cell_of_row w1 _ _ _ _ _ hb1
  have c3 : w1.cell? ⟨w.heap.size, 3, none⟩ = some (.slice A x.body.length c) := cell_of_row w1 _ _ _ _ _ hb1
  have HW := Lib.hid hw1
  rw [hw1] at c0 c1 c2 c3
  clear hw1 hb1 hr
  go_enter Try.func25, Try.ntmps25
  go_wp2
  go_ret2
  rw [← HW.out]
  exact ⟨hk1, .slice none 0 0, rfl, Rd.nil _ _⟩
set_option maxHeartbeats 6400000 in
set_option maxRecDepth 100000 in
theorem rback_in (W : World) (r : AskP) (hr : r.Ok) (v : Value) (h1 : Rd W (fun k => k < W.heap.size) v r.body.length (Disk.bytes8 r.body)) (T : List Int) (hT : IsB T) : Calls Try.prog 10 #[askV r v, .string (str T)] W (Rets (Yes W)) := by
  obtain ⟨A, c, rfl, _⟩ := h1.slice
  obtain ⟨w1, hw1⟩ : ∃ w1, w1 = W.alloc (.cells (askC r (.slice A r.body.length c)).toArray 66) := ⟨_, rfl⟩
  obtain ⟨hb1, hk1, hs1⟩ := alloc1 hw1
  have HW := Lib.hid hw1
  have HB1 := Lib.hid hb1
  have HK1 := Lib.hid hk1
  have HC := Lib.hid (cut22_c (w := w1) r (.slice A r.body.length c) (h1.kept hk1 (fun _ _ h => h)))
  have HCt := Lib.hid (fun w => cut4_c T 60 w)
  obtain ⟨l1, l2, l3⟩ := r.cut_len
  have HOk := Lib.hid hr.cut
  have HP := Lib.hid (fun (w : World) (ok : Nat → Prop) u h => print23_c (w := w) (ok := ok) r.cut HOk.out l1 l2 l3 u h)
  have hrp := route_print hr.cut l1 l2 l3
  obtain ⟨K, hK⟩ : ∃ K, T.take 60 = K := ⟨_, rfl⟩
  have hKl : K.length ≤ 60 := by rw [← hK, List.length_take]; omega
  have HKb := Lib.hid (show IsB K by rw [← hK]; exact hT.take 60)
  rw [hK] at HCt
  generalize str T = sT at *
  generalize r.cut = R at *
  clear hw1 hb1 h1 hk1 hK hT hr
  unfold askV
  rcases hrp with hp | ⟨m, t, b, hp, hpa, hxo, hbl, hvb, htg⟩
  · rw [hp] at HP
    clear hp
    go_enter Try.func10, Try.ntmps10
    go_wp2_with (first
      | (first | ((with_reducible refine at_ 15 rfl ?_); rw [← HW.out]; go_must (refine step_load rfl _ _ rfl W.heap.size 0 (askC r (.slice A r.body.length c)) _ _ (0, 0) _ rfl HB1.out rfl Try.underlying66 rfl (info_askC _ _) ?_)) | (go_at_call 28; refine Rets.use HC.out ?_; rintro _ w2 ⟨hk2, u2, rfl, hO2⟩; obtain ⟨A2, c2, rfl, _⟩ := hO2.slice; have HO2 := Lib.hid hO2; have HK2 := Lib.hid hk2; clear hO2) | (go_at_call 29; refine Rets.use (HCt.out _) ?_; rintro _ _ ⟨rfl, rfl⟩) | ((with_reducible refine at_store 66 (.tmp 2) (.tmp 16) rfl ?_); go_must (refine step_store rfl _ _ _ rfl W.heap.size 0 (askC R (.slice A2 R.body.length c2)) _ _ rfl rfl (HK2.out.heap HB1.out (fun h => h)) (by simp [askC_len]) (info_askC _ _) (by simp [askC, Value.oneCell']) ?_); intro w3 hb3 hk3 hs3; rw [put_whole (by rfl)] at hb3; have HB3 := Lib.hid hb3; have HK3 := Lib.hid hk3; clear hb3) | ((with_reducible refine at_ 20 rfl ?_); go_must (refine step_load rfl _ _ rfl W.heap.size 0 (askC R (.slice A2 R.body.length c2)) _ _ (0, 0) _ rfl HB3.out rfl Try.underlying66 rfl (info_askC _ _) ?_)) | (go_at_call 30; refine Rets.use (HP.out w3 _ (.slice A2 R.body.length c2) (HO2.out.kept HK3.out (fun k h h' => by omega)).rd) ?_; rintro _ w4 ⟨hk4, u4, rfl, hO4⟩; obtain ⟨A4, c4, rfl, _⟩ := hO4.slice; have HO4 := Lib.hid hO4; have HK4 := Lib.hid hk4; have HKW := Lib.hid ((((HK1.out.trans HK2.out (fun _ _ h => h)).mono (S' := fun k => W.heap.size ≤ k) (fun _ _ h => h.elim)).trans HK3.out (fun k _ h => by omega)).trans hk4 (fun _ _ h => h.elim) |>.mono (S' := fun _ => False) (fun k hk h => by omega)); clear hO4) | ((with_reducible refine at_ 5 rfl ?_); go_must (refine step_alloc rfl _ rfl _ zq row_req rfl ?_); intro w5 hb5 hk5 hs5))
      | ((with_reducible refine at_store 26 (.tmp 5) (.tmp 22) rfl ?_); go_must (refine step_store rfl _ _ _ rfl w4.heap.size 0 (reqC zeroR (.slice A4 zeroR.body.length c4)) _ _ rfl rfl hb5 (by simp [zq, reqC]) (info_reqC _ _) (by simp [reqC, Value.oneCell']) ?_); intro w6 hb6 hk6 hs6; rw [put_whole (by rfl)] at hb6; have HB6 := Lib.hid hb6; have HK46 := Lib.hid (fresh_set (Keeps.refl _ w4) hk5 hk6); have HO6 := Lib.hid (HO4.out.kept HK46.out (fun _ _ h => h)); clear hb6)
      | ((with_reducible refine at_ 29 rfl ?_); go_must (refine step_load rfl _ _ rfl w4.heap.size 0 (reqC zeroR (.slice A4 zeroR.body.length c4)) _ _ (0, 0) _ rfl HB6.out rfl Try.underlying26 rfl (info_reqC _ _) ?_))
      | ((with_reducible refine at_ 30 rfl ?_); go_must (refine step_build rfl 26 _ rfl [] rfl _ build_req0 ?_))
      | (go_at_call 15; refine Rets.use (same13_of zeroR zeroR_okR (.slice A4 zeroR.body.length c4) (.slice none 0 0) (by rfl) (by rfl) HO6.out.rd (Rd.nil _ (fun _ => True)) (by decide)) ?_; rintro _ w7 ⟨rfl, hk7⟩)
      | (go_at_call 31; refine Rets.use (lives23_c _) ?_; rintro v14 w14 ⟨rfl, hk14⟩))
    go_ret
    have z4 := HKW.out.size
    exact ⟨rfl, ((HKW.out.trans HK46.out (fun _ _ h => h)).trans hk7 (fun _ _ h => h)).trans hk14 (fun _ _ h => h)⟩
  · have HPa := Lib.hid (fun (w : World) (ok : Nat → Prop) u h => (by have := parse23_c (w := w) (ok := ok) ⟨m, t, [], b⟩ hxo (by have := (Wire.tar_no htg).2.2; show t.length ≤ _; omega) (by show b.length ≤ _; omega) u h; rwa [hpa] at this : Calls Try.prog 32 #[reqV ⟨m, t, [], b⟩ u] w (Rets (ParsePost w (R, 200)))))
    have HXo := Lib.hid hxo
    have HVb := Lib.hid (And.intro hvb htg)
    have hml := (Wire.verb_no hvb).2.2
    have htl := (Wire.tar_no htg).2.2
    have HIx := Lib.hid (fun (k : Nat) (h : k < K.length) (w : World) => index_str HKb.out h w)
    have hKs := str_size K
    obtain ⟨sK, hsK⟩ : ∃ s, s = str K := ⟨_, rfl⟩
    rw [← hsK] at HIx hKs HCt
    have HSK := Lib.hid hsK
    clear hsK
    have HL3 := Lib.hid l3
    rw [hp] at HP
    clear hp hpa hxo hvb htg
    go_enter Try.func10, Try.ntmps10
    go_wp2_with (first
      | (first | ((with_reducible refine at_ 15 rfl ?_); rw [← HW.out]; go_must (refine step_load rfl _ _ rfl W.heap.size 0 (askC r (.slice A r.body.length c)) _ _ (0, 0) _ rfl HB1.out rfl Try.underlying66 rfl (info_askC _ _) ?_)) | (go_at_call 28; refine Rets.use HC.out ?_; rintro _ w2 ⟨hk2, u2, rfl, hO2⟩; obtain ⟨A2, c2, rfl, _⟩ := hO2.slice; have HO2 := Lib.hid hO2; have HK2 := Lib.hid hk2; clear hO2) | (go_at_call 29; refine Rets.use (HCt.out _) ?_; rintro _ _ ⟨rfl, rfl⟩) | ((with_reducible refine at_store 66 (.tmp 2) (.tmp 16) rfl ?_); go_must (refine step_store rfl _ _ _ rfl W.heap.size 0 (askC R (.slice A2 R.body.length c2)) _ _ rfl rfl (HK2.out.heap HB1.out (fun h => h)) (by simp [askC_len]) (info_askC _ _) (by simp [askC, Value.oneCell']) ?_); intro w3 hb3 hk3 hs3; rw [put_whole (by rfl)] at hb3; have HB3 := Lib.hid hb3; have HK3 := Lib.hid hk3; clear hb3) | ((with_reducible refine at_ 20 rfl ?_); go_must (refine step_load rfl _ _ rfl W.heap.size 0 (askC R (.slice A2 R.body.length c2)) _ _ (0, 0) _ rfl HB3.out rfl Try.underlying66 rfl (info_askC _ _) ?_)) | (go_at_call 30; refine Rets.use (HP.out w3 _ (.slice A2 R.body.length c2) (HO2.out.kept HK3.out (fun k h h' => by omega)).rd) ?_; rintro _ w4 ⟨hk4, u4, rfl, hO4⟩; obtain ⟨A4, c4, rfl, _⟩ := hO4.slice; have HO4 := Lib.hid hO4; have HK4 := Lib.hid hk4; have HKW := Lib.hid ((((HK1.out.trans HK2.out (fun _ _ h => h)).mono (S' := fun k => W.heap.size ≤ k) (fun _ _ h => h.elim)).trans HK3.out (fun k _ h => by omega)).trans hk4 (fun _ _ h => h.elim) |>.mono (S' := fun _ => False) (fun k hk h => by omega)); clear hO4) | ((with_reducible refine at_ 5 rfl ?_); go_must (refine step_alloc rfl _ rfl _ zq row_req rfl ?_); intro w5 hb5 hk5 hs5))
      | ((with_reducible refine at_store 26 (.tmp 5) (.tmp 22) rfl ?_); go_must (refine step_store rfl _ _ _ rfl w4.heap.size 0 (reqC ⟨m, t, [], b⟩ (.slice A4 b.length c4)) _ _ rfl rfl hb5 (by simp [zq, reqC]) (info_reqC _ _) (by simp [reqC, Value.oneCell']) ?_); intro w6 hb6 hk6 hs6; rw [put_whole (by rfl)] at hb6; have HB6 := Lib.hid hb6; have HK46 := Lib.hid (fresh_set (Keeps.refl _ w4) hk5 hk6); have HRx6 := Lib.hid (HO4.out.rd.lt.kept HK46.out (fun _ _ h => h)); have HA6 := Lib.hid (HK46.out.heap (HK4.out.heap HB3.out (fun h => h)) (fun h => h)); have HRa6 := Lib.hid (((HO2.out.kept HK3.out (fun k h h' => by omega)).rd.kept HK4.out (fun _ _ h => h)).kept HK46.out (fun _ _ h => h)); have HKW6 := Lib.hid (HKW.out.trans HK46.out (fun _ _ h => h)); clear hb6)
      | ((with_reducible refine at_ 37 rfl ?_); go_must (refine step_load rfl _ _ rfl w4.heap.size 0 (reqC ⟨m, t, [], b⟩ (.slice A4 b.length c4)) _ _ (0, 0) _ rfl HB6.out rfl Try.underlying26 rfl (info_reqC _ _) ?_))
      | (go_at_call 32; refine Rets.use (HPa.out w6 _ _ HRx6.out) ?_; rintro _ w7 ⟨hk7, u7, rfl, hO7⟩; obtain ⟨A7, c7, rfl, _⟩ := hO7.slice; have HO7 := Lib.hid hO7; have HK7 := Lib.hid hk7; clear hO7 hk7)
      | ((with_reducible refine at_ 7 rfl ?_); go_must (refine step_alloc rfl _ rfl _ (askC zeroA (.slice none 0 0)) row_ask rfl ?_); intro w8 hb8 hk8 hs8)
      | ((with_reducible refine at_store 66 (.tmp 7) (.tmp 39) rfl ?_); go_must (refine step_store rfl _ _ _ rfl w7.heap.size 0 (askC R (.slice A7 R.body.length c7)) _ _ rfl rfl hb8 (by simp [askC_len]) (info_askC _ _) (by simp [askC, Value.oneCell']) ?_); intro w9 hb9 hk9 hs9; rw [put_whole (by rfl)] at hb9; have HB9 := Lib.hid hb9; have HK79 := Lib.hid (fresh_set (Keeps.refl _ w7) hk8 hk9); have HK69 := Lib.hid (HK7.out.trans HK79.out (fun _ _ h => h)); have HA9 := Lib.hid (HK69.out.heap HA6.out (fun h => h)); have HX9 := Lib.hid (HK69.out.heap HB6.out (fun h => h)); have HRx9 := Lib.hid (HRx6.out.kept HK69.out (fun _ _ h => h)); have HRa9 := Lib.hid (HRa6.out.kept HK69.out (fun _ _ h => h)); have HR79 := Lib.hid (HO7.out.rd.kept HK79.out (fun _ _ h => h)); have HKW9 := Lib.hid (HKW6.out.trans HK69.out (fun _ _ h => h)); clear hb9)
      | ((with_reducible refine at_ 44 rfl ?_); go_must (refine step_load rfl _ _ rfl W.heap.size 0 (askC R (.slice A2 R.body.length c2)) _ _ (0, 0) _ rfl HA9.out rfl Try.underlying66 rfl (info_askC _ _) ?_))
      | ((with_reducible refine at_ 45 rfl ?_); go_must (refine step_load rfl _ _ rfl w7.heap.size 0 (askC R (.slice A7 R.body.length c7)) _ _ (0, 0) _ rfl HB9.out rfl Try.underlying66 rfl (info_askC _ _) ?_))
      | (go_at_call 33; refine Rets.use (same23_self R HOk.out (.slice A2 R.body.length c2) (.slice A7 R.body.length c7) HRa9.out HR79.out (by have := HL3.out; omega)) ?_; rintro _ w10 ⟨rfl, hk10⟩; have HX10 := Lib.hid (hk10.heap HX9.out (fun h => h)); have HRx10 := Lib.hid (HRx9.out.kept hk10 (fun _ _ h => h)); have HKW10 := Lib.hid (HKW9.out.trans hk10 (fun _ _ h => h)); have ct10 : w10.cell? ⟨w4.heap.size, 2, none⟩ = some (.string ⟨#[]⟩) := (cell_of_row w10 _ 2 _ _ _ HX10.out).trans rfl; clear hk10))
    have hBX : W.heap.size < w4.heap.size := by have := HB3.out; have := lt_of this; have := HK4.out.size; omega
    have hBX2 := lt_of HX10.out
    generalize w4.heap.size = BX at *
    clear HP HPa HC HCt HB1 HB3 HO2 HO4 HO7 HK1 HK2 HK3 HK4 HK7 HKW HKW6 HKW9 HK46 HK79 HK69 HB6 HRx6 HA6 HRa6 HA9 HX9 HRx9 HRa9 HR79 HB9 HW
    clear ct10
    go_loopw [9] (fun i wr => ∃ k : Nat, k ≤ K.length ∧ i = .int .i64 k ∧ wr = w10 ∧ Hid ((K.take k).all Wire.prt = true)) (fun i _ => K.length - (intOf i).toNat)
    case atStart => exact ⟨0, Nat.zero_le _, rfl, rfl, Lib.hid rfl⟩
    case round =>
      obtain ⟨k, hk, rfl, hw, HT⟩ := hrel
      subst wr
      by_cases hlt : k < K.length
      · have hx := HIx.out k hlt w10
        have HC2 := Lib.hid (show (K.take (k + 1)).all Wire.prt = Wire.prt K[k] by rw [List.take_add_one, List.getElem?_eq_getElem hlt, List.all_append, HT.out]; simp)
        generalize K[k] = ch at *
        by_cases d1 : ch < 32
        · go_wp2_with (go_at_call 31; refine Rets.use (lives23_c _) ?_; rintro v14 w14 ⟨rfl, hk14⟩)
          go_ret
          exact ⟨rfl, HKW10.out.trans hk14 (fun _ _ h => h)⟩
        · by_cases d2 : 126 < ch
          · go_wp2_with (go_at_call 31; refine Rets.use (lives23_c _) ?_; rintro v14 w14 ⟨rfl, hk14⟩)
            go_ret
            exact ⟨rfl, HKW10.out.trans hk14 (fun _ _ h => h)⟩
          · have HT2 := Lib.hid (show (K.take (k + 1)).all Wire.prt = true by rw [HC2.out]; unfold Wire.prt; exact decide_eq_true (by omega))
            go_wp2
            go_roundw
            case rel => exact ⟨k + 1, by omega, by go_num, by trivial, HT2⟩
            case measure => simp [intOf]; omega
      · obtain rfl : k = K.length := by omega
        have hall : K.all Wire.prt = true := by have := HT.out; rwa [List.take_length] at this
        have HX' := Lib.hid (show (⟨m, t, K, b⟩ : ReqP).Ok from ⟨HXo.out.method, HXo.out.target, HKb.out, HXo.out.body⟩)
        by_cases hbig : 2048 < b.length
        · have HPB := Lib.hid (fun (w : World) (ok : Nat → Prop) v hr => printW_big (w := w) (ok := ok) ⟨m, t, K, b⟩ (by show m.length ≤ 50; omega) (by show t.length ≤ 200; omega) (by show K.length ≤ 1200; omega) (by show b.length ≤ 1000000; omega) hbig v hr)
          clear hall HT
          go_wp2_with (first
            | (first | ((with_reducible refine at_store 9 (.tmp 73) (.tmp 72) rfl ?_); go_must (refine step_store1 rfl _ _ _ rfl BX 2 (.string sK) _ _ rfl rfl rfl HX10.out (by simp [reqC]) info_str ?_); intro w11 hb11 hk11 hs11; have HB11 := Lib.hid (show w11.heap[BX]? = some (.cells (reqC ⟨m, t, K, b⟩ (.slice A4 b.length c4)).toArray 26 (0, 0)) by (rw [HSK.out] at hb11; exact hb11)); have HRx11 := Lib.hid (HRx10.out.kept hk11 (fun k h h' => by have := h.2; omega)); have HKW11 := Lib.hid (((HKW10.out.mono (S' := fun k => W.heap.size ≤ k) (fun _ _ h => h.elim)).trans hk11 (fun k _ h => by omega)).mono (S' := fun _ => False) (fun k hk h => by omega)); clear hb11) | ((with_reducible refine at_ 75 rfl ?_); go_must (refine step_load rfl _ _ rfl BX 0 (reqC ⟨m, t, K, b⟩ (.slice A4 b.length c4)) _ _ (0, 0) _ rfl HB11.out rfl Try.underlying26 rfl (info_reqC _ _) ?_)))
            | (go_at_call 25; refine Rets.use (HPB.out w11 _ (.slice A4 b.length c4) HRx11.out) ?_; rintro _ w12 ⟨hk12, u12, rfl, hr12⟩; have cb12 : w12.cell? ⟨BX, 3, none⟩ = some (.slice A4 b.length c4) := (cell_of_row w12 _ 3 _ _ _ (hk12.heap HB11.out (fun h => h))).trans rfl)
            | (go_at_call 31; refine Rets.use (lives23_c _) ?_; rintro v14 w14 ⟨rfl, hk14⟩))
          go_ret
          exact ⟨rfl, (HKW11.out.trans hk12 (fun _ _ h => h)).trans hk14 (fun _ _ h => h)⟩
        · have hwh := Wire.whole_text (x := ⟨m, t, K, b⟩) HVb.out.1 HVb.out.2 hall hKl (by show b.length ≤ 2048; omega)
          have hpf : Wire.printF ⟨m, t, K, b⟩ = (Wire.text ⟨m, t, K, b⟩, 0) := by unfold Wire.printF; rw [if_neg hbig, if_pos hwh]
          have HPB := Lib.hid (fun (w : World) (ok : Nat → Prop) v hr => (by have := printW_c (w := w) (ok := ok) ⟨m, t, K, b⟩ HX'.out ⟨by show m.length ≤ 50; omega, by show t.length ≤ 200; omega, by show K.length ≤ 1200; omega, by show b.length ≤ 2100; omega⟩ v hr; rwa [hpf] at this : Calls Try.prog 25 #[reqV ⟨m, t, K, b⟩ v] w (Rets (PrintIs w (Wire.text ⟨m, t, K, b⟩, 0)))))
          have hzl : (Wire.text ⟨m, t, K, b⟩).length ≤ 4200 := by
            have := front_len (x := ⟨m, t, K, b⟩) ⟨by show m.length ≤ 50; omega, by show t.length ≤ 200; omega, by show K.length ≤ 1200; omega, by show b.length ≤ 2100; omega⟩
            unfold Wire.text
            rw [List.length_append]
            show _ + b.length ≤ _
            omega
          have HWW := Lib.hid (fun (w : World) (ok : Nat → Prop) v hr => (by have := wholeW_c (w := w) (ok := ok) v (Wire.text ⟨m, t, K, b⟩) hr (by omega) (text_b HX'.out); rwa [hwh] at this : Calls Try.prog 13 #[v] w (Rets (WholeIs w (⟨m, t, K, b⟩, ((Wire.text ⟨m, t, K, b⟩).length : Int), 0)))))
          clear hall HT hwh hpf
          generalize Wire.text ⟨m, t, K, b⟩ = Z at *
          have hzz : ((Z.length : Int) == (Z.length : Int)) = true := by simp
          go_wp2_with (first
            | (first | ((with_reducible refine at_store 9 (.tmp 73) (.tmp 72) rfl ?_); go_must (refine step_store1 rfl _ _ _ rfl BX 2 (.string sK) _ _ rfl rfl rfl HX10.out (by simp [reqC]) info_str ?_); intro w11 hb11 hk11 hs11; have HB11 := Lib.hid (show w11.heap[BX]? = some (.cells (reqC ⟨m, t, K, b⟩ (.slice A4 b.length c4)).toArray 26 (0, 0)) by (rw [HSK.out] at hb11; exact hb11)); have HRx11 := Lib.hid (HRx10.out.kept hk11 (fun k h h' => by have := h.2; omega)); have HKW11 := Lib.hid (((HKW10.out.mono (S' := fun k => W.heap.size ≤ k) (fun _ _ h => h.elim)).trans hk11 (fun k _ h => by omega)).mono (S' := fun _ => False) (fun k hk h => by omega)); clear hb11) | ((with_reducible refine at_ 75 rfl ?_); go_must (refine step_load rfl _ _ rfl BX 0 (reqC ⟨m, t, K, b⟩ (.slice A4 b.length c4)) _ _ (0, 0) _ rfl HB11.out rfl Try.underlying26 rfl (info_reqC _ _) ?_)))
            | (go_at_call 25; refine Rets.use (HPB.out w11 _ (.slice A4 b.length c4) HRx11.out) ?_; rintro _ w12 ⟨hk12, u12, rfl, hr12⟩; obtain ⟨A12, c12, rfl, _⟩ := hr12.slice; have HR12 := Lib.hid hr12; have HB12 := Lib.hid (hk12.heap HB11.out (fun h => h)); have HRx12 := Lib.hid (HRx11.out.kept hk12 (fun _ _ h => h)); have HK12 := Lib.hid hk12; have cb12 : w12.cell? ⟨BX, 3, none⟩ = some (.slice A4 b.length c4) := (cell_of_row w12 _ 3 _ _ _ HB12.out).trans rfl; clear hr12 hk12)
            | (go_at_call 13; refine Rets.use (HWW.out w12 _ (.slice A12 Z.length c12) HR12.out) ?_; rintro _ w13 ⟨hk13, u13, rfl, hO13⟩; obtain ⟨A13, c13, rfl, _⟩ := hO13.slice; have HO13 := Lib.hid hO13; have HK13 := Lib.hid hk13; clear hO13 hk13)
            | ((with_reducible refine at_ 12 rfl ?_); go_must (refine step_alloc rfl _ rfl _ zq row_req rfl ?_); intro w14 hb14 hk14 hs14)
            | ((with_reducible refine at_store 26 (.tmp 12) (.tmp 91) rfl ?_); go_must (refine step_store rfl _ _ _ rfl w13.heap.size 0 (reqC ⟨m, t, K, b⟩ (.slice A13 b.length c13)) _ _ rfl rfl hb14 (by simp [zq, reqC]) (info_reqC _ _) (by simp [reqC, Value.oneCell']) ?_); intro w15 hb15 hk15 hs15; rw [put_whole (by rfl)] at hb15; have HB15 := Lib.hid hb15; have HK1315 := Lib.hid (fresh_set (Keeps.refl _ w13) hk14 hk15); have HK1215 := Lib.hid (HK13.out.trans HK1315.out (fun _ _ h => h)); have HX15 := Lib.hid (HK1215.out.heap HB12.out (fun h => h)); have HRx15 := Lib.hid (HRx12.out.kept HK1215.out (fun _ _ h => h)); have HRy15 := Lib.hid (HO13.out.rd.kept HK1315.out (fun _ _ h => h)); clear hb15)
            | ((with_reducible refine at_ 107 rfl ?_); go_must (refine step_load rfl _ _ rfl BX 0 (reqC ⟨m, t, K, b⟩ (.slice A4 b.length c4)) _ _ (0, 0) _ rfl HX15.out rfl Try.underlying26 rfl (info_reqC _ _) ?_))
            | ((with_reducible refine at_ 108 rfl ?_); go_must (refine step_load rfl _ _ rfl w13.heap.size 0 (reqC ⟨m, t, K, b⟩ (.slice A13 b.length c13)) _ _ (0, 0) _ rfl HB15.out rfl Try.underlying26 rfl (info_reqC _ _) ?_))
            | (go_at_call 15; refine Rets.use (same13_of ⟨m, t, K, b⟩ HX'.out (.slice A4 b.length c4) (.slice A13 b.length c13) (by rfl) (by rfl) HRx15.out HRy15.out (by show b.length ≤ _; omega)) ?_; rintro _ w16 ⟨rfl, hk16⟩)
            | (go_at_call 31; refine Rets.use (lives23_c _) ?_; rintro v17 w17 ⟨rfl, hk17⟩))
          go_ret
          exact ⟨rfl, ((((HKW11.out.trans HK12.out (fun _ _ h => h)).trans HK1215.out (fun _ _ h => h)).trans hk16 (fun _ _ h => h)).trans hk17 (fun _ _ h => h))⟩
theorem routeBack_walk (W : World) (cs0 : Array Value) (x0 : Int × ByteArray × ByteArray × List Int × Int × Int × Unit) (H0 : Has W (.st (.fld (.int .i64) (.fld .str (.fld .str (.fld (.slice (.int .u8)) (.fld (.int .i64) (.fld (.int .i64) .fin))))))) cs0.toList x0) (x1 : ByteArray) (y1 : x1.size ≤ maxLen) :
    Calls Try.prog 10 #[.agg cs0, .string x1] W (Rets (Yes W)) := by
  obtain ⟨r, v, e, hr, h⟩ := KAsk_of H0
  have e2 : cs0 = (askC r v).toArray := by rw [← e]
  subst e2
  have := rback_in W r hr v h (bytesOf x1) (bytesOf_byte _)
  rwa [← str_of] at this
end Go.Proofs.Ytibegbmehpggbaa
