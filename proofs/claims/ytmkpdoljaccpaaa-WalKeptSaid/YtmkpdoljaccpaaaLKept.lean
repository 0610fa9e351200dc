/-
  WalKept: the walk.
-/
import Derived.Test.YtmkpdoljaccpaaaLKeptO
namespace Go.Proofs.Ytmkpdoljaccpaaa
open Go.RowKit Go.Canon Go.Mem Go.Args
open Go.Disk (St)
set_option linter.unusedVariables false
set_option linter.unusedSimpArgs false
theorem zero_do10 : (Try.prog.info? 72).map (fun i => i.zero) = some (some (.agg [Value.int .i64 0, .int .i64 0, .int .i64 0, .slice none 0 0, .slice none 0 0].toArray)) := by kernel_rfl
theorem info_bytes1 : (Try.prog.info? 38).map (·.size) = some 1 := by kernel_rfl
theorem info_pdisk : (Try.prog.info? 24).map (·.size) = some 1 := by kernel_rfl
theorem WK.cells {W w : World} {g y x : Nat} {s : St} {L : LogS} {lf : LifeS} {F : Nat → Prop} (h : WK W w g y (some (x, L)) s lf F) : ∃ sv mv, w.heap[y]? = some (.cells [Value.pointer (some ⟨g, 0, none⟩), .pointer (some ⟨x, 0, none⟩), sv, mv, .bool lf.doubt].toArray 82 (0, 0)) ∧ W.heap.size ≤ y := by
  obtain ⟨h0, P, Q, Z, lv, hd, hl, hm, hP, hQ, hZ, _⟩ := h
  obtain ⟨elv, hM⟩ := hm x L rfl
  subst elv
  obtain ⟨R, T, v, mv, vs, hb, hZy, _⟩ := hl
  exact ⟨v, mv, hb, (hZ y hZy).1⟩
theorem WK.cell0 {W w : World} {g y : Nat} {lo : Option (Nat × LogS)} {s : St} {lf : LifeS} {F : Nat → Prop} (h : WK W w g y lo s lf F) : w.cell? ⟨y, 0, none⟩ = some (.pointer (some ⟨g, 0, none⟩)) ∧ W.heap.size ≤ y := by
  obtain ⟨h0, P, Q, Z, lv, hd, hl, hm, hP, hQ, hZ, _⟩ := h
  obtain ⟨R, T, v, mv, vs, hb, hZy, _⟩ := hl
  exact ⟨(cell_of_row w y 0 _ _ _ hb).trans rfl, (hZ y hZy).1⟩
theorem WK.start {W w1 w2 w3 : World} {g y n : Nat} (hk1 : Keeps (fun _ => False) W w1) (hy : W.heap.size ≤ y) (hy1 : y < w1.heap.size) (hk2 : Keeps (fun _ => False) w1 w2) (hd : DIs w2 (fun k => w1.heap.size ≤ k ∧ k < w2.heap.size) g (fresh n)) (hb : w3.heap[y]? = some (.cells [Value.pointer (some ⟨g, 0, none⟩), .pointer none, .slice none 0 0, .slice none 0 0, .bool false].toArray 82 (0, 0))) (hk3 : Keeps (fun k => k = y) w2 w3) : WK W w3 g y none (fresh n) ⟨[], [], false⟩ (fun _ => False) := by
  have z1 := hk1.size
  have z2 := hk2.size
  have z3 := hk3.size
  refine ⟨(hk1.trans hk2 (fun _ _ h => h)).trans hk3 (fun k hk e => by omega), _, fun _ => False, fun k => k = y, _, hd.kept hk3 (fun k h e => by omega), ⟨fun _ => False, fun _ => False, _, _, [], hb, rfl, fun _ h => h.elim, fun _ h => h.elim, fun h => h, fun h => h, fun _ h => h.elim, OwnRow.nil _ _ _ _, ⟨rfl, fun i l h => by simp at h⟩, Rd.nil _ _⟩, fun x L e => (by cases e), fun k h => ⟨by omega, by omega, fun h => h, by omega⟩, fun k h => h.elim, fun k h => ⟨by omega, by omega⟩, fun _ h => h.elim⟩
set_option maxHeartbeats 6400000 in
set_option maxRecDepth 100000 in
theorem walKept_in (W : World) (sn : Int) (v : Value) (l : List Do10) (hD : Dos10 W v l) : Calls Try.prog 10 #[.int .i64 sn, v] W (Rets (Yes W)) := by
  obtain ⟨N, hN⟩ : ∃ N : Nat, least sn 1 300 = N := ⟨(least sn 1 300).toNat, by unfold least; split <;> (try split) <;> omega⟩
  have hN1 : 1 ≤ N ∧ N ≤ 300 := by unfold least at hN; split at hN <;> (try split at hN) <;> omega
  have HLe := Lib.hid (fun W => (show Calls Try.prog 22 #[.int .i64 sn, .int .i64 1, .int .i64 300] W (Rets (Only (.int .i64 N) W)) by rw [← hN]; exact least_c sn 1 300 W))
  have HD := Lib.hid hD
  have HR0 := Lib.hid (Ready.start (n := N) (by omega))
  have HNew := Lib.hid (fun W => dNew_c N (by omega) (by omega) W)
  have hNm := hN1.2
  clear hD hN hN1
  go_enter Try.func10, Try.ntmps10
  go_wp2_with (first
    | ((with_reducible refine at_ 12 rfl ?_); go_must (refine step_box rfl 82 _ rfl _ rfl [.pointer none, .pointer none, .slice none 0 0, .slice none 0 0, .bool false] rfl ?_); intro w1 hb1 hk1 hs1)
    | ((with_reducible refine at_store 24 (.tmp 21) (.tmp 18) rfl ?_); go_must (refine step_store1 rfl _ _ _ rfl W.heap.size 0 (.pointer (some ⟨g, 0, none⟩)) _ _ rfl rfl rfl hb2 (by simp) info_pdisk ?_); intro w3 hb3 hk3 hs3; have HW3 := Lib.hid (WK.start hk1 (Nat.le_refl _) (by omega) hk2 hd2 hb3 hk3))
    | (go_at_call 43; (have hz := HW3); clear hz; go_loud (refine Rets.use (opens_c HW3.out HR0.out ⟨.inl rfl, fun t ht => by cases ht⟩ (fun t ht => by cases ht) (by decide)) ?_); rintro _ w4 ⟨rfl, x, L, s4, hW4, hK4⟩)
    | (go_at_call 35; go_loud (refine Rets.use (few10_c (HD.out.kept hW4.1)) ?_); rintro v5 w5 ⟨hk5, m0, A0, c0, ev, rfl, hm0, hm40⟩)
    | (go_at_call 30; go_loud (refine Rets.use (HNew.out _) ?_); rintro v1 w2 ⟨hk2, g, rfl, hd2⟩; have hb2 := hk2.heap hb1 (fun h => h))
    | (go_at_call 22; go_loud (refine Rets.use (HLe.out _) ?_); rintro _ _ ⟨rfl, rfl⟩))
  have hl : Dos10 W (.slice A0 m0 c0) (l.take m0) := by have h := HD.out; rw [ev] at h; exact h.front m0 hm0
  have hml : (l.take m0).length = m0 := by rw [List.length_take]; omega
  obtain ⟨B, c, e3, hc1, hc2, _, hin⟩ := id hl
  obtain ⟨rfl, _, rfl⟩ := Value.slice.inj e3
  have HIn := Lib.hid hin
  have hcc : m0 ≤ c0 := by omega
  have hml2 := hml.symm
  generalize l.take m0 = m at *
  subst hml2
  have HW := Lib.hid (hW4.kept hk5)
  have HK0 := Lib.hid hK4
  clear hl hin hW4 hk5 HD HR0 HNew hK4 HW3 hb3 hk3 hs3 hb2 hk2 hd2 hb1 hk1 hs1 e3 hc1 hc2 hml ev hm0 HLe
  have hSg : s4 = s4 := rfl
  go_loopw [6] (fun iv wr => ∃ (k x : Nat) (s : St) (L : LogS) (lf : LifeS), k ≤ m.length ∧ iv = .int .i64 k ∧ WK W wr g W.heap.size (some (x, L)) s lf (fun _ => False) ∧ Kept s L lf) (fun iv _ => m.length - (intOf iv).toNat)
  case atStart => exact ⟨0, _, _, _, _, Nat.zero_le _, rfl, HW.out, HK0.out⟩
  case round =>
    obtain ⟨k, x, s, L, lf, hk, rfl, hW, hK⟩ := hrel
    have HWr := Lib.hid hW
    have HKr := Lib.hid hK
    clear HW HK0 hW hK hSg
    by_cases hlt : k < m.length
    · obtain ⟨b, o, e, hb, vB, vK, c0', c1, c2, c3, c4, rB, _, hIB, rK, _, wN⟩ := HIn.out k _ (List.getElem?_eq_getElem hlt)
      cases e
      generalize m[k] = d at *
      have hK := HWr.out.1
      have hsz := hK.size
      have HCC := Lib.hid (show ∀ j u, [Value.int .i64 d.kind, .int .i64 d.n, .int .i64 d.long, vB, vK][j]? = some u → wr.cell? ⟨b, o + k * 5 + j, none⟩ = some u by
        intro j u hj
        match j, hj with
        | 0, hj => cases hj; exact hK.cell c0' (fun h => h)
        | 1, hj => cases hj; exact hK.cell c1 (fun h => h)
        | 2, hj => cases hj; exact hK.cell c2 (fun h => h)
        | 3, hj => cases hj; exact hK.cell c3 (fun h => h)
        | 4, hj => cases hj; exact hK.cell c4 (fun h => h))
      have HTx := Lib.hid (fun w' (hk' : Keeps (fun _ => False) W w') => text_c (w := w') d vB vK (rB.kept hk' (fun _ _ h => h)))
      have HKp := Lib.hid (fun w' (hk' : Keeps (fun _ => False) W w') => keep10_c (w := w') d vB vK (rK.kept hk' (fun _ _ h => h)))
      have HTB := Lib.hid (textF_byte hIB)
      have htl := textF_len d
      have HOne := Lib.hid (show ∀ a b c : Int, ([Value.int .i64 a, .int .i64 b, .int .i64 c, vB, vK].toArray.all (·.oneCell')) = true from fun a b c => by simp [Rd.one rB, Rd.one rK, show ∀ x, (Value.int .i64 x).oneCell' = true from fun _ => rfl])
      generalize textF d = t at *
      have hkl : (d.keep.take 400).length ≤ 400 := by rw [List.length_take]; omega
      generalize d.keep.take 400 = kp at *
      obtain ⟨nn, hnn⟩ : ∃ nn : Int, least d.n 0 1000 = nn := ⟨_, rfl⟩
      have hn1 : 0 ≤ nn ∧ nn ≤ 1000 := by unfold least at hnn; split at hnn <;> (try split at hnn) <;> omega
      have HLn := Lib.hid (fun w' => (show Calls Try.prog 22 #[.int .i64 d.n, .int .i64 0, .int .i64 1000] w' (Rets (Only (.int .i64 nn) w')) by rw [← hnn]; exact least_c d.n 0 1000 w'))
      generalize d.kind = kind at *
      generalize d.n = dn at *
      generalize d.long = dl at *
      clear c0' c1 c2 c3 c4 rB rK hIB hK hnn wN
      by_cases k0 : kind = 0
      · subst k0
        go_wp2_with (first
          | ((with_reducible refine at_ 36 rfl ?_); go_must (refine step_load_cells rfl 72 _ rfl b (o + k * 5) [.int .i64 0, .int .i64 dn, .int .i64 dl, vB, vK] _ rfl HCC.out Try.underlying72 rfl info_do10 ?_))
          | ((with_reducible refine at_ 7 rfl ?_); go_must (refine step_alloc rfl 72 rfl _ _ zero_do10 rfl ?_); intro wa hba hka hsa)
          | ((with_reducible refine at_store 72 (.tmp 7) (.tmp 36) rfl ?_); go_must (refine step_store rfl _ _ _ rfl wr.heap.size 0 [.int .i64 0, .int .i64 dn, .int .i64 dl, vB, vK] _ _ rfl rfl hba (by simp) info_do10 (HOne.out _ _ _) ?_); intro wb hbb hkb hsb; rw [put_whole (by rfl)] at hbb; have ckk : wb.cell? ⟨wr.heap.size, 0, none⟩ = some (.int .i64 0) := (cell_of_row wb _ 0 _ _ _ hbb).trans rfl))
        have KB : Keeps (fun _ => False) wr wb := hka.trans hkb (fun k hk e => by omega)
        obtain ⟨sv, mv, hyb, hyW⟩ := HWr.out.cells
        refine Canon.region [5] [(⟨W.heap.size, 1, none⟩, .pointer (some ⟨x, 0, none⟩))] [(3, 0)] (.hold [0, 1, 2, 4, 3] (.loud 5 (.seg [6, 7] .stop))) (by kernel_rfl) (by kernel_rfl) (by repeat (first | (with_reducible exact Safe.body) | (with_reducible apply Safe.then) | (with_reducible apply Safe.inBlock) | (dsimp +zetaDelta only))) ?_
        simp only [Canon.pick, Canon.wpPlan, List.getElem?_toArray, List.getElem?_cons_zero, List.getElem?_cons_succ]
        have KD : Keeps (fun _ => False) wr wb.drew := KB.drew
        have c1 : wb.drew.cell? ⟨W.heap.size, 1, none⟩ = some (.pointer (some ⟨x, 0, none⟩)) := (cell_of_row wb.drew _ 1 _ _ _ (KD.heap hyb (fun h => h))).trans rfl
        have HBz := Lib.hid (show wb.drew.heap[wr.heap.size]? = _ from hbb)
        have HWz := Lib.hid (HWr.out.free KD (F' := fun k => k = wr.heap.size) (fun k e => by subst e; exact ⟨Nat.le_refl _, by show wr.heap.size < wb.heap.size; omega⟩))
        have hzz : wr.heap.size < wb.drew.heap.size := by show wr.heap.size < wb.heap.size; omega
        clear KB KD hka hkb hbb hba hyb ckk hsa hsb
        generalize wb.drew = wz at *
        have HKa := Lib.hid (HKr.out.append HTB.out (by omega))
        refine ⟨fun p hp => by rw [List.mem_singleton] at hp; subst hp; exact c1, ?_⟩
        go_wp2_with (first
          | ((with_reducible refine at_ 45 rfl ?_); go_must (refine step_load rfl 72 _ rfl wr.heap.size 0 [.int .i64 0, .int .i64 dn, .int .i64 dl, vB, vK] _ _ _ _ rfl HBz.out rfl Try.underlying72 rfl info_do10 ?_))
          | (go_at_call 38; go_loud (refine Rets.use (HTx.out _ HWz.out.1) ?_); rintro v3 w3 ⟨hO3, hk3⟩; have c13 := hk3.cell c1 (fun h => h)))
        refine ⟨fun p hp => by rw [List.mem_singleton] at hp; subst hp; exact c13, ?_⟩
        go_wp2_with (go_at_call 37; go_loud (refine Rets.use (wk_append HWz.out HKr.out hk3 _ t (hO3.rd.mono (fun j h => h)) (fun _ h => h) (by omega)) ?_); rintro _ w5 ⟨rfl, hW5, hk5⟩)
        refine ⟨by rfl, ⟨fun _ => rfl, trivial⟩, ?_⟩
        have HB5 := Lib.hid (hk5.heap (hk3.heap HBz.out (fun h => h)) (fun h => h rfl))
        clear c1 c13 hk5 hk3 hO3 HBz HWz
        generalize appendP s L t = q at *
        obtain ⟨qe, qs, qL⟩ := q
        simp only at hW5 HKa
        rcases HKa.out with ⟨q1, q2⟩ | ⟨q1, q2⟩ | ⟨q1, q3, q2⟩ | ⟨q1, q3, q2⟩
        · rw [q1]
          obtain ⟨h0, P, Q, Z, lv, hd, hl, hm, hP, hQ, hZ, _⟩ := hW5
          obtain ⟨elv, hM⟩ := hm x _ rfl
          subst elv
          obtain ⟨R, T, v5, mv5, vs, hb5, hZy, hRZ, hTZ, nR, nT, hRT, hO, hTx, hMv⟩ := hl
          obtain ⟨Av, cv, rfl, _⟩ := hO.slice
          obtain ⟨Am, cm, rfl, _⟩ := hMv.slice
          have H0 := Lib.hid h0
          have HDs := Lib.hid hd
          have HLg := Lib.hid hM
          have HP := Lib.hid hP
          have HQ := Lib.hid hQ
          have HZ := Lib.hid hZ
          have HO := Lib.hid hO
          have HTe := Lib.hid hTx
          have HMv := Lib.hid hMv
          have HY5 := Lib.hid hb5
          clear h0 hd hM hP hQ hZ hO hTx hMv hb5 hm
          have HQ2 := Lib.hid q2
          have hsl := HKr.out.most
          clear q2
          go_wp2
          refine Canon.region [6, 7] [(⟨W.heap.size, 2, none⟩, .slice Av lf.sure.length cv)] [(4, 0)] (.hold [0, 1, 2, 3, 5, 4] (.loud 6 (.loud 7 (.seg [8, 9, 10, 11] .stop)))) (by kernel_rfl) (by kernel_rfl) (by repeat (first | (with_reducible exact Safe.body) | (with_reducible apply Safe.then) | (with_reducible apply Safe.inBlock) | (dsimp +zetaDelta only))) ?_
          simp only [Canon.pick, Canon.wpPlan, List.getElem?_toArray, List.getElem?_cons_zero, List.getElem?_cons_succ]
          have KD : Keeps (fun _ => False) w5 w5.drew := (Keeps.refl _ w5).drew
          have HBd := Lib.hid (KD.heap HB5.out (fun h => h))
          have HYd := Lib.hid (KD.heap HY5.out (fun h => h))
          have HOd := Lib.hid (HO.out.kept KD (fun _ _ h => h))
          have HTd := Lib.hid (HTe.out.kept KD (fun _ _ h => h))
          have HMd := Lib.hid (HMv.out.kept KD (fun _ _ h => h))
          have H0d := Lib.hid (H0.out.trans KD (fun _ _ h => h))
          have HDd := Lib.hid (HDs.out.kept KD (fun _ _ h => h))
          have HLd := Lib.hid (HLg.out.kept KD (fun _ _ h => h))
          have hsd : w5.drew.heap.size = w5.heap.size := rfl
          rw [← hsd] at HP HQ HZ
          have c2 : w5.drew.cell? ⟨W.heap.size, 2, none⟩ = some (.slice Av lf.sure.length cv) := (cell_of_row w5.drew _ 2 _ _ _ HYd.out).trans rfl
          clear KD HB5 HY5 HO HTe HMv H0 HDs HLg hsd
          generalize w5.drew = wd at *
          refine ⟨fun p hp => by rw [List.mem_singleton] at hp; subst hp; exact c2, ?_⟩
          go_wp2_with (first
            | ((with_reducible refine at_ 55 rfl ?_); go_must (refine step_load rfl 72 _ rfl wr.heap.size 0 [.int .i64 0, .int .i64 dn, .int .i64 dl, vB, vK] _ _ _ _ rfl HBd.out rfl Try.underlying72 rfl info_do10 ?_))
            | (go_at_call 38; go_loud (refine Rets.use (HTx.out _ H0d.out) ?_); rintro v6 w6 ⟨hO6, hk6⟩; obtain ⟨A6, c6, rfl, _⟩ := hO6.slice; have c26 := hk6.cell c2 (fun h => h)))
          refine ⟨fun p hp => by rw [List.mem_singleton] at hp; subst hp; exact c26, ?_⟩
          go_wp2_with ((with_reducible refine at_ 57 rfl ?_); go_must (refine step_lit rfl 29 _ 1 rfl [.slice A6 t.length c6] rfl rfl (by decide) 38 _ 1 Try.underlying29 row2_bytes (by decide) (by decide) (by intro v hv; rw [List.mem_singleton] at hv; subst hv; rfl) ?_); intro w7 hb7 hk7 hs7; have c27 := hk7.cell c26 (fun h => h))
          refine ⟨fun p hp => by rw [List.mem_singleton] at hp; subst hp; exact c27, ?_⟩
          have HO6 := Lib.hid (HOd.out.kept hk6 (fun _ _ h => h))
          have HY6 := Lib.hid (hk6.heap HYd.out (fun h => h))
          go_wp2_with (first
            | ((with_reducible refine at_store 29 (.tmp 60) (.tmp 58) rfl ?_); go_must (refine step_store1 rfl _ _ _ rfl W.heap.size 2 (.slice A8 (lf.sure.length + 1) c8) _ _ rfl rfl rfl hb8 (by simp) info_bytess ?_); intro w9 hb9 hk9 hs9)
            | ((with_reducible refine at_ 58 rfl ?_); go_must (refine step_append_rd (ok2 := fun j => w6.heap.size ≤ j) rfl _ _ _ rfl 38 _ 1 24 Try.underlying29 row_bytes rfl (by decide) (.slice Av lf.sure.length cv) lf.sure.length vs rfl (HO6.out.kept hk7 (fun _ _ h => h)) _ 1 [.slice A6 t.length c6] rfl (lit_rd rfl hb7 (Nat.le_refl _)) rfl (by intro y hy; rw [List.mem_singleton] at hy; subst hy; rfl) (by simp only [maxLen]; omega) (by omega) ?_); intro v8 w8 hO8 hk8; obtain ⟨A8, c8, rfl, _⟩ := hO8.slice; have hb8 := hk8.heap (hk7.heap HY6.out (fun h => h)) (fun h => nR (HO6.out.2 _ h))))
          refine ⟨by rfl, ⟨fun _ => rfl, trivial⟩, ?_⟩
          have z6 := hk6.size
          obtain ⟨hk9z, hl9⟩ := LifeMem.push (lf := lf) (t := t) (B := wd.heap.size) HY6.out hZy hRZ hTZ nR nT hRT HO6.out (HTd.out.kept hk6 (fun _ _ h => h)) (HMd.out.kept hk6 (fun _ _ h => h)) (fun k h => (HZ.out k h).2) hk6.size (hO6.rd.lt.mono (fun k h => .inr h)) hk7 hO8 hk8 hb9 hk9
          have z9 := hk9z.size
          have HWn := Lib.hid (WK.told H0d.out HDd.out HLd.out HP.out HQ.out HZ.out ((hk6.mono (S' := Z) (fun _ _ h => h.elim)).trans hk9z (fun _ _ h => h)) hl9 (fun k h => by
            rcases h with h | h
            · exact ⟨.inl h, by have := (HZ.out k h).2; omega⟩
            · exact ⟨.inr h.1, h.2⟩))
          clear hk9z hl9 hb9 hk9 hO8 hk8 hb7 hk7 c27 c26 c2 HBd HYd HOd HTd HMd H0d HDd HLd HO6 HY6 hO6 hk6 hb8
          go_wp2
          go_roundw
          case rel => exact ⟨k + 1, x, _, _, _, hlt, by go_num, HWn.out, HQ2.out⟩
          case measure => simp [intOf]; omega
        · rcases q1 with q1 | q1
          · rw [q1]
            go_wp2
            go_roundw
            case rel => exact ⟨k + 1, x, _, _, lf, hlt, by go_num, hW5.thin, q2⟩
            case measure => simp [intOf]; omega
          · rw [q1]
            go_wp2
            go_roundw
            case rel => exact ⟨k + 1, x, _, _, lf, hlt, by go_num, hW5.thin, q2⟩
            case measure => simp [intOf]; omega
        · rw [q1]
          obtain ⟨h0, P, Q, Z, lv, hd, hl, hm, hP, hQ, hZ, _⟩ := hW5
          obtain ⟨elv, hM⟩ := hm x _ rfl
          subst elv
          obtain ⟨R, T, v5, mv5, vs, hb5, hZy, hRZ, hTZ, nR, nT, hRT, hO, hTx, hMv⟩ := hl
          obtain ⟨Av, cv, rfl, _⟩ := hO.slice
          obtain ⟨Am, cm, rfl, _⟩ := hMv.slice
          have H0 := Lib.hid h0
          have HDs := Lib.hid hd
          have HLg := Lib.hid hM
          have HP := Lib.hid hP
          have HQ := Lib.hid hQ
          have HZ := Lib.hid hZ
          have HO := Lib.hid hO
          have HTe := Lib.hid hTx
          have HMv := Lib.hid hMv
          have HY5 := Lib.hid hb5
          clear h0 hd hM hP hQ hZ hO hTx hMv hb5 hm
          have HQ2 := Lib.hid q2
          rw [q3] at HY5
          have c4 : w5.cell? ⟨W.heap.size, 4, none⟩ = some (.bool false) := (cell_of_row w5 _ 4 _ _ _ HY5.out).trans rfl
          clear q2
          go_wp2_with (first
            | ((with_reducible refine at_ 72 rfl ?_); go_must (refine step_load rfl 72 _ rfl wr.heap.size 0 [.int .i64 0, .int .i64 dn, .int .i64 dl, vB, vK] _ _ _ _ rfl HB5.out rfl Try.underlying72 rfl info_do10 ?_))
            | (go_at_call 38; go_loud (refine Rets.use (HTx.out _ H0.out) ?_); rintro v6 w6 ⟨hO6, hk6⟩; obtain ⟨A6, c6, rfl, _⟩ := hO6.slice; have hb6 := hk6.heap HY5.out (fun h => h))
            | ((with_reducible refine at_store 38 (.tmp 75) (.tmp 73) rfl ?_); go_must (refine step_store1 rfl _ _ _ rfl W.heap.size 3 (.slice A6 t.length c6) _ _ rfl rfl rfl hb6 (by simp) info_bytes1 ?_); intro w7 hb7 hk7 hs7)
            | ((with_reducible refine at_store 4 (.tmp 77) (.const (.bool true)) rfl ?_); go_must (refine step_store1 rfl _ _ _ rfl W.heap.size 4 (.bool true) _ _ rfl rfl rfl hb7 (by simp) info_bool ?_); intro w8 hb8 hk8 hs8))
          have z6 := hk6.size
          have kst : Keeps (fun k => k = W.heap.size) w6 w8 := hk7.trans hk8 (fun _ _ h => h)
          have z8 := kst.size
          have HWn := Lib.hid (WK.told (lf := ⟨lf.sure, t, true⟩) (Z' := fun k => Z k ∨ (w5.heap.size ≤ k ∧ k < w8.heap.size)) H0.out HDs.out HLg.out HP.out HQ.out HZ.out ((hk6.mono (S' := Z) (fun _ _ h => h.elim)).trans kst (fun k _ e => by subst e; exact hZy)) ⟨R, fun k => T k ∨ (w5.heap.size ≤ k ∧ k < w6.heap.size), _, _, vs, hb8, .inl hZy, fun k h => .inl (hRZ k h), fun k h => by rcases h with h | h; exact .inl (hTZ k h); exact .inr ⟨h.1, by omega⟩, nR, fun h => by rcases h with h | h; exact nT h; have := (HZ.out _ hZy).2; omega, fun k h h' => by rcases h' with h' | h'; exact hRT k h h'; have := (HZ.out k (hRZ k h)).2; omega,
            (HO.out.kept hk6 (fun _ _ h => h)).kept kst (fun k h e => by subst e; exact nR h), ((HTe.out.kept hk6 (fun _ _ h => h)).kept kst (fun k h e => by subst e; exact nT h)).mono (fun k h => .inl h), (hO6.rd.lt.mono (ok' := fun k => T k ∨ (w5.heap.size ≤ k ∧ k < w6.heap.size)) (fun k h => .inr h)).kept kst (fun k h e => by subst e; rcases h with h | h; exact nT h; have := (HZ.out _ hZy).2; omega)⟩ (fun k h => by
            rcases h with h | h
            · exact ⟨.inl h, by have := (HZ.out k h).2; omega⟩
            · exact ⟨.inr h.1, h.2⟩))
          clear hb8 kst hk7 hk8 hb7 hb6 hO6 hk6 HO HTe HMv HY5 HDs HLg
          go_roundw
          case rel => exact ⟨k + 1, x, _, _, _, hlt, by go_num, HWn.out, HQ2.out⟩
          case measure => simp [intOf]; omega
        · obtain ⟨sv5, mv5, hy5, _⟩ := hW5.cells
          rw [q3] at hy5
          have c4 : w5.cell? ⟨W.heap.size, 4, none⟩ = some (.bool true) := (cell_of_row w5 _ 4 _ _ _ hy5).trans rfl
          rw [q1]
          go_wp2
          go_roundw
          case rel => exact ⟨k + 1, x, _, _, lf, hlt, by go_num, hW5.thin, q2⟩
          case measure => simp [intOf]; omega
      · by_cases k1 : kind = 1
        · subst k1
          go_wp2_with (first
            | ((with_reducible refine at_ 36 rfl ?_); go_must (refine step_load_cells rfl 72 _ rfl b (o + k * 5) [.int .i64 1, .int .i64 dn, .int .i64 dl, vB, vK] _ rfl HCC.out Try.underlying72 rfl info_do10 ?_))
            | ((with_reducible refine at_ 7 rfl ?_); go_must (refine step_alloc rfl 72 rfl _ _ zero_do10 rfl ?_); intro wa hba hka hsa)
            | ((with_reducible refine at_store 72 (.tmp 7) (.tmp 36) rfl ?_); go_must (refine step_store rfl _ _ _ rfl wr.heap.size 0 [.int .i64 1, .int .i64 dn, .int .i64 dl, vB, vK] _ _ rfl rfl hba (by simp) info_do10 (HOne.out _ _ _) ?_); intro wb hbb hkb hsb; rw [put_whole (by rfl)] at hbb; have ckk : wb.cell? ⟨wr.heap.size, 0, none⟩ = some (.int .i64 1) := (cell_of_row wb _ 0 _ _ _ hbb).trans rfl))
          have KB : Keeps (fun _ => False) wr wb := hka.trans hkb (fun k hk e => by omega)
          have c0y := HWr.out.cell0
          refine Canon.region [6] [(⟨W.heap.size, 0, none⟩, .pointer (some ⟨g, 0, none⟩))] [(3, 0)] (.hold [0, 1, 2, 4, 5, 3] (.loud 6 (.seg [7] .stop))) (by kernel_rfl) (by kernel_rfl) (by repeat (first | (with_reducible exact Safe.body) | (with_reducible apply Safe.then) | (with_reducible apply Safe.inBlock) | (dsimp +zetaDelta only))) ?_
          simp only [Canon.pick, Canon.wpPlan, List.getElem?_toArray, List.getElem?_cons_zero, List.getElem?_cons_succ]
          have KD : Keeps (fun _ => False) wr wb.drew := KB.drew
          have c1 : wb.drew.cell? ⟨W.heap.size, 0, none⟩ = some (.pointer (some ⟨g, 0, none⟩)) := KD.cell c0y.1 (fun h => h)
          have cn : wb.drew.cell? ⟨wr.heap.size, 1, none⟩ = some (.int .i64 dn) := (cell_of_row wb.drew _ 1 _ _ _ hbb).trans rfl
          have HWz := Lib.hid (HWr.out.kept KD)
          clear KB KD hka hkb hbb hba ckk hsa hsb c0y
          generalize wb.drew = wz at *
          refine ⟨fun p hp => by rw [List.mem_singleton] at hp; subst hp; exact c1, ?_⟩
          go_wp2_with (go_at_call 22; go_loud (refine Rets.use (HLn.out _) ?_); rintro _ _ ⟨rfl, rfl⟩)
          refine ⟨fun p hp => by rw [List.mem_singleton] at hp; subst hp; exact c1, ?_⟩
          go_wp2_with (go_at_call 27; go_loud (refine Rets.use (wk_arm HWz.out nn (by omega)) ?_); rintro _ w5 ⟨rfl, hW5, _⟩)
          refine ⟨by rfl, ⟨fun _ => rfl, trivial⟩, ?_⟩
          go_wp2
          go_roundw
          case rel => exact ⟨k + 1, x, _, _, _, hlt, by go_num, hW5, HKr.out.arm hn1.1⟩
          case measure => simp [intOf]; omega
        · by_cases k2 : kind = 2
          · subst k2
            go_wp2_with (first
              | ((with_reducible refine at_ 36 rfl ?_); go_must (refine step_load_cells rfl 72 _ rfl b (o + k * 5) [.int .i64 2, .int .i64 dn, .int .i64 dl, vB, vK] _ rfl HCC.out Try.underlying72 rfl info_do10 ?_))
              | ((with_reducible refine at_ 7 rfl ?_); go_must (refine step_alloc rfl 72 rfl _ _ zero_do10 rfl ?_); intro wa hba hka hsa)
              | ((with_reducible refine at_store 72 (.tmp 7) (.tmp 36) rfl ?_); go_must (refine step_store rfl _ _ _ rfl wr.heap.size 0 [.int .i64 2, .int .i64 dn, .int .i64 dl, vB, vK] _ _ rfl rfl hba (by simp) info_do10 (HOne.out _ _ _) ?_); intro wb hbb hkb hsb; rw [put_whole (by rfl)] at hbb; have ckk : wb.cell? ⟨wr.heap.size, 0, none⟩ = some (.int .i64 2) := (cell_of_row wb _ 0 _ _ _ hbb).trans rfl))
            have KB : Keeps (fun _ => False) wr wb := hka.trans hkb (fun k hk e => by omega)
            have c0y := HWr.out.cell0
            refine Canon.region [5] [(⟨W.heap.size, 0, none⟩, .pointer (some ⟨g, 0, none⟩))] [(3, 0)] (.hold [0, 1, 2, 4, 3] (.loud 5 (.seg [6] .stop))) (by kernel_rfl) (by kernel_rfl) (by repeat (first | (with_reducible exact Safe.body) | (with_reducible apply Safe.then) | (with_reducible apply Safe.inBlock) | (dsimp +zetaDelta only))) ?_
            simp only [Canon.pick, Canon.wpPlan, List.getElem?_toArray, List.getElem?_cons_zero, List.getElem?_cons_succ]
            have KD : Keeps (fun _ => False) wr wb.drew := KB.drew
            have c1 : wb.drew.cell? ⟨W.heap.size, 0, none⟩ = some (.pointer (some ⟨g, 0, none⟩)) := KD.cell c0y.1 (fun h => h)
            have HBz := Lib.hid (show wb.drew.heap[wr.heap.size]? = _ from hbb)
            have HWz := Lib.hid (HWr.out.free KD (F' := fun k => k = wr.heap.size) (fun k e => by subst e; exact ⟨Nat.le_refl _, by show wr.heap.size < wb.heap.size; omega⟩))
            clear KB KD hka hkb hbb hba ckk hsa hsb c0y
            generalize wb.drew = wz at *
            obtain ⟨ts, hRd, hFi⟩ := HKr.out.crash kp
            have HRd := Lib.hid hRd
            have HFi := Lib.hid hFi
            obtain ⟨hOp, hfew2, hfl2, hop2, hRd2⟩ := hRd.again hFi.byte hn1.1 kp
            have HFl2 := Lib.hid hfl2
            have HOp2 := Lib.hid hop2
            have HRd2 := Lib.hid hRd2
            have HOpn := Lib.hid hOp
            have hfew := HKr.out.few
            have HRaw := Lib.hid (fun w' (hk' : Keeps (fun _ => False) W w') => HKp.out w' hk')
            clear hRd hFi hfl2 hop2 hRd2 hOp
            generalize hs1 : s.crash kp = s1 at *
            have HS1 := Lib.hid hs1
            clear hs1
            refine ⟨fun p hp => by rw [List.mem_singleton] at hp; subst hp; exact c1, ?_⟩
            go_wp2_with (first
              | ((with_reducible refine at_ 94 rfl ?_); go_must (refine step_load rfl 72 _ rfl wr.heap.size 0 [.int .i64 2, .int .i64 dn, .int .i64 dl, vB, vK] _ _ _ _ rfl HBz.out rfl Try.underlying72 rfl info_do10 ?_))
              | (go_at_call 44; go_loud (refine Rets.use (HKp.out _ HWz.out.1) ?_); rintro v3 w3 ⟨hk3, hr3⟩; have c13 := hk3.cell c1 (fun h => h)))
            refine ⟨fun p hp => by rw [List.mem_singleton] at hp; subst hp; exact c13, ?_⟩
            go_wp2_with (go_at_call 17; go_loud (refine Rets.use (wk_crash (HWz.out.kept hk3) (by omega) v3 kp hr3 (fun _ h => h) (by omega)) ?_); rintro _ w4 ⟨rfl, hW4, hk4⟩; rw [HS1.out] at hW4)
            refine ⟨by rfl, ⟨fun _ => rfl, trivial⟩, ?_⟩
            have HB4 := Lib.hid ((hk4.heap (hk3.heap HBz.out (fun h => h)) (fun h => h rfl)))
            have HW4 := Lib.hid hW4
            clear hW4 hk4 hk3 hr3 c1 c13 HBz HWz
            go_wp2
            have c0y := HW4.out.cell0
            refine Canon.region [6] [(⟨W.heap.size, 0, none⟩, .pointer (some ⟨g, 0, none⟩))] [(3, 0)] (.hold [0, 1, 2, 4, 5, 3] (.loud 6 (.seg [7] .stop))) (by kernel_rfl) (by kernel_rfl) (by repeat (first | (with_reducible exact Safe.body) | (with_reducible apply Safe.then) | (with_reducible apply Safe.inBlock) | (dsimp +zetaDelta only))) ?_
            simp only [Canon.pick, Canon.wpPlan, List.getElem?_toArray, List.getElem?_cons_zero, List.getElem?_cons_succ]
            have KD : Keeps (fun _ => False) w4 w4.drew := (Keeps.refl _ w4).drew
            have c1 : w4.drew.cell? ⟨W.heap.size, 0, none⟩ = some (.pointer (some ⟨g, 0, none⟩)) := KD.cell c0y.1 (fun h => h)
            have HBz := Lib.hid (KD.heap HB4.out (fun h => h))
            have cn : w4.drew.cell? ⟨wr.heap.size, 1, none⟩ = some (.int .i64 dn) := (cell_of_row w4.drew _ 1 _ _ _ HBz.out).trans rfl
            have HWz := Lib.hid (HW4.out.kept KD)
            clear KD HB4 HW4 c0y
            generalize w4.drew = wz at *
            refine ⟨fun p hp => by rw [List.mem_singleton] at hp; subst hp; exact c1, ?_⟩
            go_wp2_with (go_at_call 22; go_loud (refine Rets.use (HLn.out _) ?_); rintro _ _ ⟨rfl, rfl⟩)
            refine ⟨fun p hp => by rw [List.mem_singleton] at hp; subst hp; exact c1, ?_⟩
            generalize hs2 : (s1.arm nn).2 = s2 at *
            have HS2 := Lib.hid hs2
            clear hs2
            go_wp2_with (go_at_call 27; go_loud (refine Rets.use (wk_arm HWz.out nn (by omega)) ?_); rintro _ w5 ⟨rfl, hW5, hk5⟩; rw [HS2.out] at hW5)
            refine ⟨by rfl, ⟨fun _ => rfl, trivial⟩, ?_⟩
            have HB5 := Lib.hid ((hk5.heap HBz.out (fun h => h rfl)))
            have HW5 := Lib.hid hW5
            have c5 := HW5.out.cell0.1
            clear hW5 hk5 c1 cn HBz HWz
            rcases HOpn.out with ⟨o1, Lq, o2⟩ | ⟨o1, o2⟩
            · have HO1 := Lib.hid o1
              have HO2 := Lib.hid o2
              clear o1 o2
              go_wp2_with (go_at_call 34; go_loud (refine Rets.use (wk_open HW5.out (by rw [HOp2.out]; decide) HFl2.out) ?_); rintro v6 w6 ⟨hv6, hW6, hk6⟩; rw [HO1.out, HO2.out] at hv6; obtain ⟨L7, x7, _, rfl⟩ := hv6.resolve_left (fun h => by cases h.1))
              have HB6 := Lib.hid (hk6.heap HB5.out (fun h => h rfl))
              have HW6 := Lib.hid hW6
              have c0y := HW6.out.cell0
              clear hW6 hk6 HB5 HW5 c5 hv6
              refine Canon.region [5] [(⟨W.heap.size, 0, none⟩, .pointer (some ⟨g, 0, none⟩))] [(3, 0)] (.hold [0, 1, 2, 4, 3] (.loud 5 (.seg [6] .stop))) (by kernel_rfl) (by kernel_rfl) (by repeat (first | (with_reducible exact Safe.body) | (with_reducible apply Safe.then) | (with_reducible apply Safe.inBlock) | (dsimp +zetaDelta only))) ?_
              simp only [Canon.pick, Canon.wpPlan, List.getElem?_toArray, List.getElem?_cons_zero, List.getElem?_cons_succ]
              have KD : Keeps (fun _ => False) w6 w6.drew := (Keeps.refl _ w6).drew
              have c1 : w6.drew.cell? ⟨W.heap.size, 0, none⟩ = some (.pointer (some ⟨g, 0, none⟩)) := KD.cell c0y.1 (fun h => h)
              have HBz := Lib.hid (KD.heap HB6.out (fun h => h))
              have HWz := Lib.hid (HW6.out.kept KD)
              clear KD HB6 HW6 c0y
              generalize w6.drew = wz at *
              refine ⟨fun p hp => by rw [List.mem_singleton] at hp; subst hp; exact c1, ?_⟩
              go_wp2_with (first
                | ((with_reducible refine at_ 127 rfl ?_); go_must (refine step_load rfl 72 _ rfl wr.heap.size 0 [.int .i64 2, .int .i64 dn, .int .i64 dl, vB, vK] _ _ _ _ rfl HBz.out rfl Try.underlying72 rfl info_do10 ?_))
                | (go_at_call 44; go_loud (refine Rets.use (HKp.out _ HWz.out.1) ?_); rintro v7 w7 ⟨hk7, hr7⟩; have c17 := hk7.cell c1 (fun h => h)))
              refine ⟨fun p hp => by rw [List.mem_singleton] at hp; subst hp; exact c17, ?_⟩
              go_wp2_with (go_at_call 17; go_loud (refine Rets.use (wk_crash (HWz.out.kept hk7) (by omega) v7 kp hr7 (fun _ h => h) (by omega)) ?_); rintro _ w8 ⟨rfl, hW8, hk8⟩)
              refine ⟨by rfl, ⟨fun _ => rfl, trivial⟩, ?_⟩
              have HW8 := Lib.hid hW8
              clear hW8 hk8 hk7 hr7 c1 c17 HBz HWz
              go_wp2_with (go_at_call 43; go_loud (refine Rets.use (opens_c HW8.out HRd2.out HFi.out HKr.out.maybe HKr.out.small.1) ?_); rintro _ w9 ⟨rfl, x9, L9, s9, hW9, hK9⟩)
              go_roundw
              case rel => exact ⟨k + 1, x9, _, _, _, hlt, by go_num, hW9, hK9⟩
              case measure => simp [intOf]; omega
            · have HO1 := Lib.hid o1
              have HO2 := Lib.hid o2
              clear o1 o2
              go_wp2_with (go_at_call 34; go_loud (refine Rets.use (wk_open HW5.out (by rw [HOp2.out]; decide) HFl2.out) ?_); rintro v6 w6 ⟨hv6, hW6, hk6⟩; rw [HO1.out, HO2.out] at hv6; obtain ⟨_, rfl⟩ := hv6.resolve_right (fun ⟨_, _, h, _⟩ => by cases h))
              have HB6 := Lib.hid (hk6.heap HB5.out (fun h => h rfl))
              have HW6 := Lib.hid hW6
              have c0y := HW6.out.cell0
              clear hW6 hk6 HB5 HW5 c5 hv6
              refine Canon.region [5] [(⟨W.heap.size, 0, none⟩, .pointer (some ⟨g, 0, none⟩))] [(3, 0)] (.hold [0, 1, 2, 4, 3] (.loud 5 (.seg [6] .stop))) (by kernel_rfl) (by kernel_rfl) (by repeat (first | (with_reducible exact Safe.body) | (with_reducible apply Safe.then) | (with_reducible apply Safe.inBlock) | (dsimp +zetaDelta only))) ?_
              simp only [Canon.pick, Canon.wpPlan, List.getElem?_toArray, List.getElem?_cons_zero, List.getElem?_cons_succ]
              have KD : Keeps (fun _ => False) w6 w6.drew := (Keeps.refl _ w6).drew
              have c1 : w6.drew.cell? ⟨W.heap.size, 0, none⟩ = some (.pointer (some ⟨g, 0, none⟩)) := KD.cell c0y.1 (fun h => h)
              have HBz := Lib.hid (KD.heap HB6.out (fun h => h))
              have HWz := Lib.hid (HW6.out.kept KD)
              clear KD HB6 HW6 c0y
              generalize w6.drew = wz at *
              refine ⟨fun p hp => by rw [List.mem_singleton] at hp; subst hp; exact c1, ?_⟩
              go_wp2_with (first
                | ((with_reducible refine at_ 127 rfl ?_); go_must (refine step_load rfl 72 _ rfl wr.heap.size 0 [.int .i64 2, .int .i64 dn, .int .i64 dl, vB, vK] _ _ _ _ rfl HBz.out rfl Try.underlying72 rfl info_do10 ?_))
                | (go_at_call 44; go_loud (refine Rets.use (HKp.out _ HWz.out.1) ?_); rintro v7 w7 ⟨hk7, hr7⟩; have c17 := hk7.cell c1 (fun h => h)))
              refine ⟨fun p hp => by rw [List.mem_singleton] at hp; subst hp; exact c17, ?_⟩
              go_wp2_with (go_at_call 17; go_loud (refine Rets.use (wk_crash (HWz.out.kept hk7) (by omega) v7 kp hr7 (fun _ h => h) (by omega)) ?_); rintro _ w8 ⟨rfl, hW8, hk8⟩)
              refine ⟨by rfl, ⟨fun _ => rfl, trivial⟩, ?_⟩
              have HW8 := Lib.hid hW8
              clear hW8 hk8 hk7 hr7 c1 c17 HBz HWz
              go_wp2_with (go_at_call 43; go_loud (refine Rets.use (opens_c HW8.out HRd2.out HFi.out HKr.out.maybe HKr.out.small.1) ?_); rintro _ w9 ⟨rfl, x9, L9, s9, hW9, hK9⟩)
              go_roundw
              case rel => exact ⟨k + 1, x9, _, _, _, hlt, by go_num, hW9, hK9⟩
              case measure => simp [intOf]; omega
          · go_wp2_with (first
              | ((with_reducible refine at_ 36 rfl ?_); go_must (refine step_load_cells rfl 72 _ rfl b (o + k * 5) [.int .i64 kind, .int .i64 dn, .int .i64 dl, vB, vK] _ rfl HCC.out Try.underlying72 rfl info_do10 ?_))
              | ((with_reducible refine at_ 7 rfl ?_); go_must (refine step_alloc rfl 72 rfl _ _ zero_do10 rfl ?_); intro wa hba hka hsa)
              | ((with_reducible refine at_store 72 (.tmp 7) (.tmp 36) rfl ?_); go_must (refine step_store rfl _ _ _ rfl wr.heap.size 0 [.int .i64 kind, .int .i64 dn, .int .i64 dl, vB, vK] _ _ rfl rfl hba (by simp) info_do10 (HOne.out _ _ _) ?_); intro wb hbb hkb hsb; rw [put_whole (by rfl)] at hbb; have ckk : wb.cell? ⟨wr.heap.size, 0, none⟩ = some (.int .i64 kind) := (cell_of_row wb _ 0 _ _ _ hbb).trans rfl))
            go_roundw
            case rel => exact ⟨k + 1, x, _, _, _, hlt, by go_num, HWr.out.kept (hka.trans hkb (fun k hk e => by omega)), HKr.out⟩
            case measure => simp [intOf]; omega
    · obtain rfl : k = m.length := by omega
      have c0y := HWr.out.cell0
      obtain ⟨ts, hRd, hFi⟩ := HKr.out.crash []
      have HRd := Lib.hid hRd
      have HFi := Lib.hid hFi
      have hfew := HKr.out.few
      clear hRd hFi
      have cy := c0y.1
      go_wp2_with (first
        | (go_at_call 17; go_loud (refine Rets.use (wk_crash HWr.out (by omega) _ [] (Rd.nil _ (fun _ => False)) (fun _ h => h.elim) (by decide)) ?_); rintro _ w5 ⟨rfl, hW5, _⟩)
        | (go_at_call 43; (have hz := hW5); clear hz; go_loud (refine Rets.use (opens_c hW5 HRd.out HFi.out HKr.out.maybe HKr.out.small.1) ?_); rintro _ w6 ⟨rfl, x6, L6, s6, hW6, hK6⟩)
        | (go_at_call 39; go_loud (refine Rets.use (lives10_c _) ?_); rintro v12 w12 ⟨rfl, hk12⟩))
      go_ret
      exact ⟨rfl, hW6.1.trans hk12 (fun _ _ h => h)⟩
theorem walKept_walk (W : World) (x0 : Int) (w0 : (Lit.int .i64 x0).wf = true) (a1 : Option Addr) (n1 c1 : Nat) (x1 : (Kd.slice KDo10).Dat) (H1 : Has W (.slice KDo10) [.slice a1 n1 c1] x1) :
    Calls Try.prog 10 #[.int .i64 x0, .slice a1 n1 c1] W (Rets (Yes W)) := walKept_in W x0 _ _ (Dos10.of H1)
end Go.Proofs.Ytmkpdoljaccpaaa
