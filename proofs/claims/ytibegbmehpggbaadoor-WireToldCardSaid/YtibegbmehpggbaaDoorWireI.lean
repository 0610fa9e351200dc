/-
  The walks of package wire: a byte of the head behind CR.
-/
import Derived.Test.YtibegbmehpggbaaDoorWireH
namespace Go.Proofs.YtibegbmehpggbaaDoor
open Go.RowKit Go.Canon Go.Mem
set_option linter.unusedVariables false
set_option linter.unusedSimpArgs false
theorem WPart.unline {w w' : World} {S : Nat → Prop} {g : Nat} {s s' : Wire.S} {vl vb vc : Value} {R1 R2 R3 : Nat → Prop} (h : WPart w S g vl vb vc R1 R2 R3 s) (hk : Keeps (fun k => k = g) w w') (hb : w'.heap[g]? = some (.cells (wcells (.slice none 0 0) vb vc s').toArray 64 (0, 0))) (e1 : s'.line = []) (e2 : s'.x.body = s.x.body) (e3 : s'.ch = s.ch) : WPart w' S g (.slice none 0 0) vb vc (fun _ => False) R2 R3 s' :=
  ⟨hb, h.own, by rw [e1]; exact OwnRow.nil _ _ _ _, by rw [e2]; exact h.ob.kept hk (fun k hr => (h.d2 k hr).2), by rw [e3]; exact h.oc.kept hk (fun k hr => (h.d3 k hr).2), fun _ h => h.elim, h.d2, h.d3, fun _ h => h.elim, fun _ h => h.elim, h.d23⟩
section
variable {w : World} {S : Nat → Prop} {g : Nat} {s : Wire.S}
theorem rd_front8 {w : World} {ok : Nat → Prop} {A : Option Addr} {n c : Nat} {a : List Int} {x : Int} (h : Rd w ok (.slice A n c) n (Disk.bytes8 (a ++ [x]))) (hn : n = a.length + 1) : Rd w ok (.slice A a.length c) a.length (Disk.bytes8 a) := by
  subst hn
  have := Rd.front h a.length 1 (by omega) (by rw [Disk.bytes8_len]; simp)
  rw [Nat.mul_one, Disk.bytes8_append] at this
  rwa [List.take_left' (Disk.bytes8_len a)] at this
set_option maxRecDepth 100000 in
set_option maxHeartbeats 6400000 in
theorem headsW_last (h : WIs w S g s) (hok : WOk s) (hs : ¬ 1024 ≤ s.head) {a : List Int} (hn : s.line = a ++ [13]) (x : Int) (h0 : 0 ≤ x ∧ x ≤ 255) : Calls Tryd.prog 31 #[.pointer (some ⟨g, 0, none⟩), .int .u8 x] w (Rets (WStep w S g (.int .i64 (Wire.heads s x).1) (Wire.heads s x).2)) := by
  obtain ⟨vl, vb, vc, R1, R2, R3, hp⟩ := h.parts2
  have hBa : IsB a := fun y hy => hok.byte y (by rw [hn]; simp [hy])
  have hll := hok.lines
  have HBa := Lib.hid hBa
  have hlen : s.line.length = a.length + 1 := by rw [hn]; simp
  obtain ⟨q, c, cur, hvl, _, _, hlc, _⟩ := hp.ol.form (by omega)
  have hm2 := hok.line
  have hq0 : w.cell? ⟨q, a.length, none⟩ = some (.int .u8 13) := hp.ol.cells hvl a.length _ (by rw [hn]; simp [Disk.bytes8])
  have hqR : R1 q := hp.ol.2 q (by rw [hvl]; rfl)
  have hqg : q ≠ g := (hp.d1 q hqR).2
  rw [hlen] at hvl hm2 hlc
  subst hvl
  have hmc : a.length ≤ c := by omega
  have HOL := Lib.hid (show OwnRow w R1 5 1 (.slice (some ⟨q, 0, none⟩) (a.length + 1) c) (a.length + 1) (Disk.bytes8 (a ++ [13])) by have := hp.ol; rwa [hlen, hn] at this)
  have HP := Lib.hid hp
  have HB := Lib.hid hp.blk
  have HRD := Lib.hid (rd_front8 HOL.out.rd rfl)
  have c3 : w.cell? ⟨g, 3, none⟩ = some (.int .i64 (s.head : Nat)) := (hp.cell 3).trans rfl
  clear hlen
  have HMA := Lib.hid (rfl : a.length = a.length)
  generalize hma : a.length = m at *
  have hbh : Wire.behind s.line = true := by rw [hn, behind_last]; rfl
  have HS1 := Lib.hid (show Wire.heads s 10 = Wire.lineEnd { s with head := s.head + 1, line := [], lines := s.lines + 1 } a by rw [Wire.heads_end hs (by rw [hbh, bad_nl]; simp), hn, List.dropLast_concat])
  have hsz := str_size a
  clear hp h hn hBa
  obtain ⟨x0, x1⟩ := h0
  by_cases b1 : x = 10
  · subst b1
    clear hbh
    obtain ⟨s1, hs1⟩ : ∃ s1 : Wire.S, s1 = { s with head := s.head + 1, line := [], lines := s.lines + 1 } := ⟨_, rfl⟩
    rw [← hs1] at HS1
    have HS := Lib.hid hs1
    by_cases l1 : s.lines = 0
    · have e1 : (((s.lines : Nat) : Int) + 1 == 1) = true := by rw [l1]; rfl
      have HQ := Lib.hid (HS1.out.trans (show Wire.lineEnd s1 a = Wire.first s1 a by unfold Wire.lineEnd; rw [if_pos (by rw [hs1]; show s.lines + 1 = 1; omega)]))
      clear hs1 l1 HS1
      go_enter Tryd.func31, Tryd.ntmps31
      go_wp2_with ((with_reducible refine at_store 3 (.tmp 18) (.tmp 16) rfl ?_); go_must (refine step_store1 rfl _ _ _ rfl g 3 (.int .i64 ((s.head : Nat) + 1 : Int)) _ _ rfl rfl rfl HB.out (by simp [wcells]) info_int ?_); intro w1 hb1 hk1 hs1; have HB1 := Lib.hid hb1; clear hb1)
      refine Canon.row [0, 1, 2, 3, 4, 5, 6, 7, 8, 9, 11, 12, 13, 10, 14, 15, 16, 17, 18, 19, 20, 21] (by kernel_rfl) (by kernel_rfl) (by repeat (first | (with_reducible exact Safe.body) | (with_reducible apply Safe.then) | (with_reducible apply Safe.inBlock) | (dsimp +zetaDelta only))) ?_
      simp only [Canon.pick, Canon.wpPlan, List.getElem?_toArray, List.getElem?_cons_zero, List.getElem?_cons_succ]
      have KD : Keeps (fun _ => False) w1 w1.drew := (Keeps.refl _ w1).drew
      have hkg : Keeps (fun k => k = g) w w1.drew := hk1.drew
      have HB1 := Lib.hid (KD.heap HB1.out (fun h => h))
      have c5 : w1.drew.cell? ⟨g, 5, none⟩ = some (.slice (some ⟨q, 0, none⟩) (m + 1) c) := (cell_of_row w1.drew g 5 _ _ _ HB1.out).trans rfl
      have hq0 := hkg.cell hq0 hqg
      go_wp2
      refine ⟨by rfl, trivial, ?_⟩
      go_wp2
      refine Canon.region [11] [] [] (.seg [0, 1, 2, 4, 5, 6, 3, 7, 8, 9, 10] (.loud 11 (.seg [12] .stop))) (by kernel_rfl) (by kernel_rfl) (by repeat (first | (with_reducible exact Safe.body) | (with_reducible apply Safe.then) | (with_reducible apply Safe.inBlock) | (dsimp +zetaDelta only))) ?_
      simp only [Canon.pick, Canon.wpPlan, List.getElem?_toArray, List.getElem?_cons_zero, List.getElem?_cons_succ]
      have KD2 : Keeps (fun _ => False) w1.drew w1.drew.drew := (Keeps.refl _ w1.drew).drew
      have c5 := KD2.cell c5 (fun h => h)
      have HB2 := Lib.hid (KD2.heap HB1.out (fun h => h))
      go_wp2_with ((with_reducible refine at_ 83 rfl ?_); go_must (refine step_bytes_str rfl _ _ _ rfl 5 Tryd.underlying22 Tryd.underlying5 Tryd.underlying9 (.slice (some ⟨q, 0, none⟩) m c) a rfl (by rw [hma]; exact (HRD.out.kept hkg (fun k h => (HP.out.d1 k h).2)).kept KD2 (fun _ _ h => h)) HBa.out ?_))
      refine ⟨fun p hp => (by cases hp), ?_⟩
      go_wp2
      refine ⟨by rfl, trivial, ?_⟩
      go_wp2_with (first
        | ((with_reducible refine at_store 22 (.tmp 86) (.const (.slice none 0 0)) rfl ?_); go_must (refine step_store1 rfl _ _ _ rfl g 5 (.slice none 0 0) _ _ rfl rfl rfl HB2.out (by simp [wcells]) info_bytes12 ?_); intro w3 hb3 hk3 hs3; have c4 : w3.cell? ⟨g, 4, none⟩ = some (.int .i64 (s.lines : Nat)) := (cell_of_row w3 g 4 _ _ _ hb3).trans rfl)
        | ((with_reducible refine at_store 3 (.tmp 93) (.tmp 91) rfl ?_); go_must (refine step_store1 rfl _ _ _ rfl g 4 (.int .i64 ((s.lines : Nat) + 1 : Int)) _ _ rfl rfl rfl hb3 (by simp [wcells]) info_int ?_); intro w4 hb4 hk4 hs4; have c4 : w4.cell? ⟨g, 4, none⟩ = some (.int .i64 ((s.lines : Nat) + 1 : Int)) := (cell_of_row w4 g 4 _ _ _ hb4).trans rfl; have hkg4 : Keeps (fun k => k = g) w w4 := ((hkg.trans KD2 (fun _ _ h => h.elim)).trans hk3 (fun _ _ h => h)).trans hk4 (fun _ _ h => h); have HW := Lib.hid ((HP.out.unline (s' := s1) hkg4 (by rw [HS.out]; exact hb4) (by rw [HS.out]) (by rw [HS.out]) (by rw [HS.out])).wis))
        | (go_at_call 33; refine Rets.use (firstW_c HW.out a HBa.out (by omega)) ?_; rintro v5 w5 ⟨rfl, h5, hk5⟩)
        | (go_at_call 35; refine Rets.use (furtherW_c HW.out a HBa.out (by omega)) ?_; rintro v5 w5 ⟨rfl, h5, hk5⟩)
        | (go_at_call 34; refine Rets.use (endsW_c HW.out) ?_; rintro v5 w5 ⟨rfl, h5, hk5⟩))
      go_ret
      rw [HQ.out]
      exact WStep.after ⟨rfl, h5, hk5⟩ (hkg4.mono (fun k _ e => by subst e; exact HP.out.own.1)) (fun k h => h.1)
    · have e1 : (((s.lines : Nat) : Int) + 1 == 1) = false := by rw [beq_eq_false_iff_ne]; omega
      have l1b : ¬ s1.lines = 1 := by rw [hs1]; show ¬ s.lines + 1 = 1; omega
      by_cases ha : a = []
      · have hE : ((str a).toList == []) = true := by rw [ha, ByteArray.toList_eq]; rfl
        have HQ := Lib.hid (HS1.out.trans (show Wire.lineEnd s1 a = (0, Wire.ends s1) by unfold Wire.lineEnd; rw [if_neg l1b, if_pos ha]))
        clear hs1 l1 HS1 l1b ha
        go_enter Tryd.func31, Tryd.ntmps31
        go_wp2_with ((with_reducible refine at_store 3 (.tmp 18) (.tmp 16) rfl ?_); go_must (refine step_store1 rfl _ _ _ rfl g 3 (.int .i64 ((s.head : Nat) + 1 : Int)) _ _ rfl rfl rfl HB.out (by simp [wcells]) info_int ?_); intro w1 hb1 hk1 hs1; have HB1 := Lib.hid hb1; clear hb1)
        refine Canon.row [0, 1, 2, 3, 4, 5, 6, 7, 8, 9, 11, 12, 13, 10, 14, 15, 16, 17, 18, 19, 20, 21] (by kernel_rfl) (by kernel_rfl) (by repeat (first | (with_reducible exact Safe.body) | (with_reducible apply Safe.then) | (with_reducible apply Safe.inBlock) | (dsimp +zetaDelta only))) ?_
        simp only [Canon.pick, Canon.wpPlan, List.getElem?_toArray, List.getElem?_cons_zero, List.getElem?_cons_succ]
        have KD : Keeps (fun _ => False) w1 w1.drew := (Keeps.refl _ w1).drew
        have hkg : Keeps (fun k => k = g) w w1.drew := hk1.drew
        have HB1 := Lib.hid (KD.heap HB1.out (fun h => h))
        have c5 : w1.drew.cell? ⟨g, 5, none⟩ = some (.slice (some ⟨q, 0, none⟩) (m + 1) c) := (cell_of_row w1.drew g 5 _ _ _ HB1.out).trans rfl
        have hq0 := hkg.cell hq0 hqg
        go_wp2
        refine ⟨by rfl, trivial, ?_⟩
        go_wp2
        refine Canon.region [11] [] [] (.seg [0, 1, 2, 4, 5, 6, 3, 7, 8, 9, 10] (.loud 11 (.seg [12] .stop))) (by kernel_rfl) (by kernel_rfl) (by repeat (first | (with_reducible exact Safe.body) | (with_reducible apply Safe.then) | (with_reducible apply Safe.inBlock) | (dsimp +zetaDelta only))) ?_
        simp only [Canon.pick, Canon.wpPlan, List.getElem?_toArray, List.getElem?_cons_zero, List.getElem?_cons_succ]
        have KD2 : Keeps (fun _ => False) w1.drew w1.drew.drew := (Keeps.refl _ w1.drew).drew
        have c5 := KD2.cell c5 (fun h => h)
        have HB2 := Lib.hid (KD2.heap HB1.out (fun h => h))
        go_wp2_with ((with_reducible refine at_ 83 rfl ?_); go_must (refine step_bytes_str rfl _ _ _ rfl 5 Tryd.underlying22 Tryd.underlying5 Tryd.underlying9 (.slice (some ⟨q, 0, none⟩) m c) a rfl (by rw [hma]; exact (HRD.out.kept hkg (fun k h => (HP.out.d1 k h).2)).kept KD2 (fun _ _ h => h)) HBa.out ?_))
        refine ⟨fun p hp => (by cases hp), ?_⟩
        go_wp2
        refine ⟨by rfl, trivial, ?_⟩
        go_wp2_with (first
          | ((with_reducible refine at_store 22 (.tmp 86) (.const (.slice none 0 0)) rfl ?_); go_must (refine step_store1 rfl _ _ _ rfl g 5 (.slice none 0 0) _ _ rfl rfl rfl HB2.out (by simp [wcells]) info_bytes12 ?_); intro w3 hb3 hk3 hs3; have c4 : w3.cell? ⟨g, 4, none⟩ = some (.int .i64 (s.lines : Nat)) := (cell_of_row w3 g 4 _ _ _ hb3).trans rfl)
          | ((with_reducible refine at_store 3 (.tmp 93) (.tmp 91) rfl ?_); go_must (refine step_store1 rfl _ _ _ rfl g 4 (.int .i64 ((s.lines : Nat) + 1 : Int)) _ _ rfl rfl rfl hb3 (by simp [wcells]) info_int ?_); intro w4 hb4 hk4 hs4; have c4 : w4.cell? ⟨g, 4, none⟩ = some (.int .i64 ((s.lines : Nat) + 1 : Int)) := (cell_of_row w4 g 4 _ _ _ hb4).trans rfl; have hkg4 : Keeps (fun k => k = g) w w4 := ((hkg.trans KD2 (fun _ _ h => h.elim)).trans hk3 (fun _ _ h => h)).trans hk4 (fun _ _ h => h); have HW := Lib.hid ((HP.out.unline (s' := s1) hkg4 (by rw [HS.out]; exact hb4) (by rw [HS.out]) (by rw [HS.out]) (by rw [HS.out])).wis))
          | (go_at_call 33; refine Rets.use (firstW_c HW.out a HBa.out (by omega)) ?_; rintro v5 w5 ⟨rfl, h5, hk5⟩)
          | (go_at_call 35; refine Rets.use (furtherW_c HW.out a HBa.out (by omega)) ?_; rintro v5 w5 ⟨rfl, h5, hk5⟩)
          | (go_at_call 34; refine Rets.use (endsW_c HW.out) ?_; rintro v5 w5 ⟨rfl, h5, hk5⟩))
        go_ret
        rw [HQ.out]
        exact WStep.after ⟨rfl, h5, hk5⟩ (hkg4.mono (fun k _ e => by subst e; exact HP.out.own.1)) (fun k h => h.1)
      · have hE := str_nil ha
        by_cases l2 : 17 < s.lines + 1
        · have HQ := Lib.hid (HS1.out.trans (show Wire.lineEnd s1 a = (5, s1) by unfold Wire.lineEnd; rw [if_neg l1b, if_neg ha, if_pos (by rw [hs1]; exact l2)]))
          clear hs1 l1 HS1 l1b ha
          go_enter Tryd.func31, Tryd.ntmps31
          go_wp2_with ((with_reducible refine at_store 3 (.tmp 18) (.tmp 16) rfl ?_); go_must (refine step_store1 rfl _ _ _ rfl g 3 (.int .i64 ((s.head : Nat) + 1 : Int)) _ _ rfl rfl rfl HB.out (by simp [wcells]) info_int ?_); intro w1 hb1 hk1 hs1; have HB1 := Lib.hid hb1; clear hb1)
          refine Canon.row [0, 1, 2, 3, 4, 5, 6, 7, 8, 9, 11, 12, 13, 10, 14, 15, 16, 17, 18, 19, 20, 21] (by kernel_rfl) (by kernel_rfl) (by repeat (first | (with_reducible exact Safe.body) | (with_reducible apply Safe.then) | (with_reducible apply Safe.inBlock) | (dsimp +zetaDelta only))) ?_
          simp only [Canon.pick, Canon.wpPlan, List.getElem?_toArray, List.getElem?_cons_zero, List.getElem?_cons_succ]
          have KD : Keeps (fun _ => False) w1 w1.drew := (Keeps.refl _ w1).drew
          have hkg : Keeps (fun k => k = g) w w1.drew := hk1.drew
          have HB1 := Lib.hid (KD.heap HB1.out (fun h => h))
          have c5 : w1.drew.cell? ⟨g, 5, none⟩ = some (.slice (some ⟨q, 0, none⟩) (m + 1) c) := (cell_of_row w1.drew g 5 _ _ _ HB1.out).trans rfl
          have hq0 := hkg.cell hq0 hqg
          go_wp2
          refine ⟨by rfl, trivial, ?_⟩
          go_wp2
          refine Canon.region [11] [] [] (.seg [0, 1, 2, 4, 5, 6, 3, 7, 8, 9, 10] (.loud 11 (.seg [12] .stop))) (by kernel_rfl) (by kernel_rfl) (by repeat (first | (with_reducible exact Safe.body) | (with_reducible apply Safe.then) | (with_reducible apply Safe.inBlock) | (dsimp +zetaDelta only))) ?_
          simp only [Canon.pick, Canon.wpPlan, List.getElem?_toArray, List.getElem?_cons_zero, List.getElem?_cons_succ]
          have KD2 : Keeps (fun _ => False) w1.drew w1.drew.drew := (Keeps.refl _ w1.drew).drew
          have c5 := KD2.cell c5 (fun h => h)
          have HB2 := Lib.hid (KD2.heap HB1.out (fun h => h))
          go_wp2_with ((with_reducible refine at_ 83 rfl ?_); go_must (refine step_bytes_str rfl _ _ _ rfl 5 Tryd.underlying22 Tryd.underlying5 Tryd.underlying9 (.slice (some ⟨q, 0, none⟩) m c) a rfl (by rw [hma]; exact (HRD.out.kept hkg (fun k h => (HP.out.d1 k h).2)).kept KD2 (fun _ _ h => h)) HBa.out ?_))
          refine ⟨fun p hp => (by cases hp), ?_⟩
          go_wp2
          refine ⟨by rfl, trivial, ?_⟩
          go_wp2_with (first
            | ((with_reducible refine at_store 22 (.tmp 86) (.const (.slice none 0 0)) rfl ?_); go_must (refine step_store1 rfl _ _ _ rfl g 5 (.slice none 0 0) _ _ rfl rfl rfl HB2.out (by simp [wcells]) info_bytes12 ?_); intro w3 hb3 hk3 hs3; have c4 : w3.cell? ⟨g, 4, none⟩ = some (.int .i64 (s.lines : Nat)) := (cell_of_row w3 g 4 _ _ _ hb3).trans rfl)
            | ((with_reducible refine at_store 3 (.tmp 93) (.tmp 91) rfl ?_); go_must (refine step_store1 rfl _ _ _ rfl g 4 (.int .i64 ((s.lines : Nat) + 1 : Int)) _ _ rfl rfl rfl hb3 (by simp [wcells]) info_int ?_); intro w4 hb4 hk4 hs4; have c4 : w4.cell? ⟨g, 4, none⟩ = some (.int .i64 ((s.lines : Nat) + 1 : Int)) := (cell_of_row w4 g 4 _ _ _ hb4).trans rfl; have hkg4 : Keeps (fun k => k = g) w w4 := ((hkg.trans KD2 (fun _ _ h => h.elim)).trans hk3 (fun _ _ h => h)).trans hk4 (fun _ _ h => h); have HW := Lib.hid ((HP.out.unline (s' := s1) hkg4 (by rw [HS.out]; exact hb4) (by rw [HS.out]) (by rw [HS.out]) (by rw [HS.out])).wis))
            | (go_at_call 33; refine Rets.use (firstW_c HW.out a HBa.out (by omega)) ?_; rintro v5 w5 ⟨rfl, h5, hk5⟩)
            | (go_at_call 35; refine Rets.use (furtherW_c HW.out a HBa.out (by omega)) ?_; rintro v5 w5 ⟨rfl, h5, hk5⟩)
            | (go_at_call 34; refine Rets.use (endsW_c HW.out) ?_; rintro v5 w5 ⟨rfl, h5, hk5⟩))
          go_ret
          rw [HQ.out]
          exact WStep.after ⟨rfl, HW.out.mono (fun k h => .inl h), Keeps.refl _ _⟩ ((hkg4).mono (fun k _ e => by subst e; exact HP.out.own.1)) (fun k h => h.1)
        · have HQ := Lib.hid (HS1.out.trans (show Wire.lineEnd s1 a = Wire.further s1 a by unfold Wire.lineEnd; rw [if_neg l1b, if_neg ha, if_neg (by rw [hs1]; exact l2)]))
          clear hs1 l1 HS1 l1b ha
          go_enter Tryd.func31, Tryd.ntmps31
          go_wp2_with ((with_reducible refine at_store 3 (.tmp 18) (.tmp 16) rfl ?_); go_must (refine step_store1 rfl _ _ _ rfl g 3 (.int .i64 ((s.head : Nat) + 1 : Int)) _ _ rfl rfl rfl HB.out (by simp [wcells]) info_int ?_); intro w1 hb1 hk1 hs1; have HB1 := Lib.hid hb1; clear hb1)
          refine Canon.row [0, 1, 2, 3, 4, 5, 6, 7, 8, 9, 11, 12, 13, 10, 14, 15, 16, 17, 18, 19, 20, 21] (by kernel_rfl) (by kernel_rfl) (by repeat (first | (with_reducible exact Safe.body) | (with_reducible apply Safe.then) | (with_reducible apply Safe.inBlock) | (dsimp +zetaDelta only))) ?_
          simp only [Canon.pick, Canon.wpPlan, List.getElem?_toArray, List.getElem?_cons_zero, List.getElem?_cons_succ]
          have KD : Keeps (fun _ => False) w1 w1.drew := (Keeps.refl _ w1).drew
          have hkg : Keeps (fun k => k = g) w w1.drew := hk1.drew
          have HB1 := Lib.hid (KD.heap HB1.out (fun h => h))
          have c5 : w1.drew.cell? ⟨g, 5, none⟩ = some (.slice (some ⟨q, 0, none⟩) (m + 1) c) := (cell_of_row w1.drew g 5 _ _ _ HB1.out).trans rfl
          have hq0 := hkg.cell hq0 hqg
          go_wp2
          refine ⟨by rfl, trivial, ?_⟩
          go_wp2
          refine Canon.region [11] [] [] (.seg [0, 1, 2, 4, 5, 6, 3, 7, 8, 9, 10] (.loud 11 (.seg [12] .stop))) (by kernel_rfl) (by kernel_rfl) (by repeat (first | (with_reducible exact Safe.body) | (with_reducible apply Safe.then) | (with_reducible apply Safe.inBlock) | (dsimp +zetaDelta only))) ?_
          simp only [Canon.pick, Canon.wpPlan, List.getElem?_toArray, List.getElem?_cons_zero, List.getElem?_cons_succ]
          have KD2 : Keeps (fun _ => False) w1.drew w1.drew.drew := (Keeps.refl _ w1.drew).drew
          have c5 := KD2.cell c5 (fun h => h)
          have HB2 := Lib.hid (KD2.heap HB1.out (fun h => h))
          go_wp2_with ((with_reducible refine at_ 83 rfl ?_); go_must (refine step_bytes_str rfl _ _ _ rfl 5 Tryd.underlying22 Tryd.underlying5 Tryd.underlying9 (.slice (some ⟨q, 0, none⟩) m c) a rfl (by rw [hma]; exact (HRD.out.kept hkg (fun k h => (HP.out.d1 k h).2)).kept KD2 (fun _ _ h => h)) HBa.out ?_))
          refine ⟨fun p hp => (by cases hp), ?_⟩
          go_wp2
          refine ⟨by rfl, trivial, ?_⟩
          go_wp2_with (first
            | ((with_reducible refine at_store 22 (.tmp 86) (.const (.slice none 0 0)) rfl ?_); go_must (refine step_store1 rfl _ _ _ rfl g 5 (.slice none 0 0) _ _ rfl rfl rfl HB2.out (by simp [wcells]) info_bytes12 ?_); intro w3 hb3 hk3 hs3; have c4 : w3.cell? ⟨g, 4, none⟩ = some (.int .i64 (s.lines : Nat)) := (cell_of_row w3 g 4 _ _ _ hb3).trans rfl)
            | ((with_reducible refine at_store 3 (.tmp 93) (.tmp 91) rfl ?_); go_must (refine step_store1 rfl _ _ _ rfl g 4 (.int .i64 ((s.lines : Nat) + 1 : Int)) _ _ rfl rfl rfl hb3 (by simp [wcells]) info_int ?_); intro w4 hb4 hk4 hs4; have c4 : w4.cell? ⟨g, 4, none⟩ = some (.int .i64 ((s.lines : Nat) + 1 : Int)) := (cell_of_row w4 g 4 _ _ _ hb4).trans rfl; have hkg4 : Keeps (fun k => k = g) w w4 := ((hkg.trans KD2 (fun _ _ h => h.elim)).trans hk3 (fun _ _ h => h)).trans hk4 (fun _ _ h => h); have HW := Lib.hid ((HP.out.unline (s' := s1) hkg4 (by rw [HS.out]; exact hb4) (by rw [HS.out]) (by rw [HS.out]) (by rw [HS.out])).wis))
            | (go_at_call 33; refine Rets.use (firstW_c HW.out a HBa.out (by omega)) ?_; rintro v5 w5 ⟨rfl, h5, hk5⟩)
            | (go_at_call 35; refine Rets.use (furtherW_c HW.out a HBa.out (by omega)) ?_; rintro v5 w5 ⟨rfl, h5, hk5⟩)
            | (go_at_call 34; refine Rets.use (endsW_c HW.out) ?_; rintro v5 w5 ⟨rfl, h5, hk5⟩))
          go_ret
          rw [HQ.out]
          exact WStep.after ⟨rfl, h5, hk5⟩ (hkg4.mono (fun k _ e => by subst e; exact HP.out.own.1)) (fun k h => h.1)
  · have n1 : (x == 10) = false := by simpa using b1
    have HQ := Lib.hid (Wire.heads_bad (r := s) (b := x) hs (by rw [hbh, bad_on b1]))
    clear hbh b1 HS1
    go_enter Tryd.func31, Tryd.ntmps31
    go_wp2_with ((with_reducible refine at_store 3 (.tmp 18) (.tmp 16) rfl ?_); go_must (refine step_store1 rfl _ _ _ rfl g 3 (.int .i64 ((s.head : Nat) + 1 : Int)) _ _ rfl rfl rfl HB.out (by simp [wcells]) info_int ?_); intro w1 hb1 hk1 hs1; have HB1 := Lib.hid hb1; clear hb1)
    refine Canon.row [0, 1, 2, 3, 4, 5, 6, 7, 8, 9, 11, 12, 13, 10, 14, 15, 16, 17, 18, 19, 20, 21] (by kernel_rfl) (by kernel_rfl) (by repeat (first | (with_reducible exact Safe.body) | (with_reducible apply Safe.then) | (with_reducible apply Safe.inBlock) | (dsimp +zetaDelta only))) ?_
    simp only [Canon.pick, Canon.wpPlan, List.getElem?_toArray, List.getElem?_cons_zero, List.getElem?_cons_succ]
    have KD : Keeps (fun _ => False) w1 w1.drew := (Keeps.refl _ w1).drew
    have hkg : Keeps (fun k => k = g) w w1.drew := hk1.drew
    have HB1 := Lib.hid (KD.heap HB1.out (fun h => h))
    have c5 : w1.drew.cell? ⟨g, 5, none⟩ = some (.slice (some ⟨q, 0, none⟩) (m + 1) c) := (cell_of_row w1.drew g 5 _ _ _ HB1.out).trans rfl
    have hq0 := hkg.cell hq0 hqg
    go_wp2
    refine ⟨by rfl, trivial, ?_⟩
    go_wp2
    go_ret
    rw [HQ.out]
    exact ((HP.out.stay (s' := { s with head := s.head + 1 }) hkg HB1.out rfl rfl rfl).mono (S' := S) (fun k h => h.1)).step (hkg.mono (fun k _ e => by subst e; exact HP.out.own.1))
end
end Go.Proofs.YtibegbmehpggbaaDoor
