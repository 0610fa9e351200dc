/-
  The walks of package wire: a byte of the head.
-/
import Derived.Test.YtibegbmehpggbaaDoorWireG
namespace Go.Proofs.YtibegbmehpggbaaDoor
open Go.RowKit Go.Canon Go.Mem
set_option linter.unusedVariables false
set_option linter.unusedSimpArgs false
/-- Bounds of a reader whose head comes. -/
structure WOk (s : Wire.S) : Prop where
  lines : s.lines ≤ 2000
  line : s.line.length ≤ 2000
  byte : IsB s.line
theorem bad_nl {bh : Bool} : Wire.badC bh 10 = !bh := by unfold Wire.badC; cases bh <;> simp
theorem bad_on {x : Int} (h : x ≠ 10) : Wire.badC true x = true := by unfold Wire.badC; simp [h]
theorem bad_off {x : Int} (h : x ≠ 10) : Wire.badC false x = (decide (x ≠ 13) && (decide (x < 32) || decide (126 < x))) := by unfold Wire.badC; simp [h]
theorem behind_nil : Wire.behind [] = false := rfl
theorem behind_last (l : List Int) (x : Int) : Wire.behind (l ++ [x]) = decide (x = 13) := by unfold Wire.behind; simp
theorem WIs.mono {w : World} {S S' : Nat → Prop} {g : Nat} {s : Wire.S} (h : WIs w S g s) (hs : ∀ k, S k → S' k) : WIs w S' g s := by
  obtain ⟨vl, vb, vc, R1, R2, R3, hp⟩ := h.parts
  exact (hp.mono hs).wis
theorem WStep.after {w w1 : World} {S S1 : Nat → Prop} {g : Nat} {ans : Value} {s : Wire.S} {v : Value} {w' : World} (h : WStep w1 S1 g ans s v w') (hk : Keeps S w w1) (hS : ∀ k, S1 k → S k) : WStep w S g ans s v w' :=
  ⟨h.1, h.2.1.mono (fun k hk' => hk'.elim (fun h => .inl (hS k h)) (fun h => .inr (Nat.le_trans hk.size h))), hk.trans h.2.2 (fun k _ h => hS k h)⟩
section
variable {w : World} {S : Nat → Prop} {g : Nat} {s : Wire.S}
set_option maxRecDepth 100000 in
theorem headsW_big (h : WIs w S g s) (hb : 1024 ≤ s.head) (x : Int) (h0 : 0 ≤ x ∧ x ≤ 255) : Calls Tryd.prog 31 #[.pointer (some ⟨g, 0, none⟩), .int .u8 x] w (Rets (WStep w S g (.int .i64 (Wire.heads s x).1) (Wire.heads s x).2)) := by
  obtain ⟨vl, vb, vc, R1, R2, R3, hp⟩ := h.parts
  have HP := Lib.hid hp
  have HQ := Lib.hid (Wire.heads_big (r := s) (b := x) hb)
  have c3 : w.cell? ⟨g, 3, none⟩ = some (.int .i64 (s.head : Nat)) := (hp.cell 3).trans rfl
  clear hp h
  go_enter Tryd.func31, Tryd.ntmps31
  go_wp2
  go_ret
  rw [HQ.out]
  exact HP.out.step (Keeps.refl _ _)
set_option maxRecDepth 100000 in
set_option maxHeartbeats 3200000 in
theorem headsW_none (h : WIs w S g s) (hs : ¬ 1024 ≤ s.head) (hn : s.line = []) (x : Int) (h0 : 0 ≤ x ∧ x ≤ 255) : Calls Tryd.prog 31 #[.pointer (some ⟨g, 0, none⟩), .int .u8 x] w (Rets (WStep w S g (.int .i64 (Wire.heads s x).1) (Wire.heads s x).2)) := by
  obtain ⟨vl, vb, vc, R1, R2, R3, hp⟩ := h.parts2
  obtain ⟨A, c, hvl, _⟩ := hp.ol.slice
  rw [hn] at hvl
  replace hvl : vl = .slice A 0 c := hvl
  subst hvl
  have HP := Lib.hid hp
  have HB := Lib.hid hp.blk
  have HOL := Lib.hid (show OwnRow w _ 5 1 (.slice A 0 c) 0 (Disk.bytes8 s.line) by have := hp.ol; rwa [show s.line.length = 0 by rw [hn]; rfl] at this)
  have HLN := Lib.hid (show s.line.length = 0 by rw [hn]; rfl)
  have c3 : w.cell? ⟨g, 3, none⟩ = some (.int .i64 (s.head : Nat)) := (hp.cell 3).trans rfl
  have hbh : Wire.behind s.line = false := by rw [hn]; rfl
  clear hp h hn
  obtain ⟨x0, x1⟩ := h0
  by_cases b1 : x = 10
  · subst b1
    have HQ := Lib.hid (Wire.heads_bad (r := s) (b := 10) hs (by rw [hbh, bad_nl]; rfl))
    clear hbh
    go_enter Tryd.func31, Tryd.ntmps31
    go_wp2_with ((with_reducible refine at_store 3 (.tmp 18) (.tmp 16) rfl ?_); go_must (refine step_store1 rfl _ _ _ rfl g 3 (.int .i64 ((s.head : Nat) + 1 : Int)) _ _ rfl rfl rfl HB.out (by simp [wcells]) info_int ?_); intro w1 hb1 hk1 hs1; have HB1 := Lib.hid hb1; clear hb1)
    refine Canon.row [0, 1, 2, 3, 4, 5, 6, 7, 8, 9, 11, 12, 13, 10, 14, 15, 16, 17, 18, 19, 20, 21] (by kernel_rfl) (by kernel_rfl) (by repeat (first | (with_reducible exact Safe.body) | (with_reducible apply Safe.then) | (with_reducible apply Safe.inBlock) | (dsimp +zetaDelta only))) ?_
    simp only [Canon.pick, Canon.wpPlan, List.getElem?_toArray, List.getElem?_cons_zero, List.getElem?_cons_succ]
    have KD : Keeps (fun _ => False) w1 w1.drew := (Keeps.refl _ w1).drew
    have hkg : Keeps (fun k => k = g) w w1.drew := hk1.drew
    have HB1 := Lib.hid (KD.heap HB1.out (fun h => h))
    have c5 : w1.drew.cell? ⟨g, 5, none⟩ = some (.slice A (0) c) := (cell_of_row w1.drew g 5 _ _ _ HB1.out).trans rfl
    go_wp2
    refine ⟨by rfl, trivial, ?_⟩
    go_wp2
    go_ret
    rw [HQ.out]
    exact ((HP.out.stay (s' := { s with head := s.head + 1 }) hkg HB1.out rfl rfl rfl).mono (S' := S) (fun k h => h.1)).step (hkg.mono (fun k _ e => by subst e; exact HP.out.own.1))
  · have n1 : (x == 10) = false := by simpa using b1
    have n2 : (x != 10) = true := by simpa using b1
    by_cases b2 : x = 13
    · subst b2
      have HQ := Lib.hid (Wire.heads_more (r := s) (b := 13) hs (by rw [hbh, bad_off b1]; simp) b1)
      clear hbh b1
      go_enter Tryd.func31, Tryd.ntmps31
      go_wp2_with ((with_reducible refine at_store 3 (.tmp 18) (.tmp 16) rfl ?_); go_must (refine step_store1 rfl _ _ _ rfl g 3 (.int .i64 ((s.head : Nat) + 1 : Int)) _ _ rfl rfl rfl HB.out (by simp [wcells]) info_int ?_); intro w1 hb1 hk1 hs1; have HB1 := Lib.hid hb1; clear hb1)
      refine Canon.row [0, 1, 2, 3, 4, 5, 6, 7, 8, 9, 11, 12, 13, 10, 14, 15, 16, 17, 18, 19, 20, 21] (by kernel_rfl) (by kernel_rfl) (by repeat (first | (with_reducible exact Safe.body) | (with_reducible apply Safe.then) | (with_reducible apply Safe.inBlock) | (dsimp +zetaDelta only))) ?_
      simp only [Canon.pick, Canon.wpPlan, List.getElem?_toArray, List.getElem?_cons_zero, List.getElem?_cons_succ]
      have KD : Keeps (fun _ => False) w1 w1.drew := (Keeps.refl _ w1).drew
      have hkg : Keeps (fun k => k = g) w w1.drew := hk1.drew
      have HB1 := Lib.hid (KD.heap HB1.out (fun h => h))
      have c5 : w1.drew.cell? ⟨g, 5, none⟩ = some (.slice A (0) c) := (cell_of_row w1.drew g 5 _ _ _ HB1.out).trans rfl
      go_wp2
      refine ⟨by rfl, trivial, ?_⟩
      go_wp2_with (first
        | ((with_reducible refine at_ 68 rfl ?_); go_must (refine step_lit rfl 22 _ 1 rfl [.int .u8 _] rfl rfl (by decide) 5 _ 1 Tryd.underlying22 row2_byte (by decide) (by decide) (by intro v hv; rw [List.mem_singleton] at hv; subst hv; rfl) ?_); intro w4 hb4 hk4 hs4)
        | ((with_reducible refine at_ 69 rfl ?_); go_must (refine step_append_rd (ok2 := fun k => w.heap.size ≤ k) rfl _ _ _ rfl 5 _ 1 1 Tryd.underlying22 row_byte rfl (by decide) (.slice A (0) c) (0) (Disk.bytes8 s.line) rfl (own_self ((HOL.out.kept hkg (fun k h => (HP.out.d1 k h).2)).kept hk4 (fun _ _ h => h))) _ 1 (Disk.bytes8 [_]) rfl (lit8 hb4 hkg.size) rfl (Disk.bytes8_one [_]) (by simp only [maxLen]; omega) (by omega) ?_); intro v5 w5 hO5 hk5; obtain ⟨A5, cc5, rfl, _⟩ := hO5.slice; have HO5 := Lib.hid hO5; have hg5 : ¬ Value.ownBlock (.slice A (0) c) = some g := (fun h => (HP.out.d1 g (HOL.out.2 g h)).2 rfl); have HB5 := Lib.hid (hk5.heap (hk4.heap HB1.out (fun h => h)) hg5); have hk45 : Keeps (fun k => Value.ownBlock (.slice A (0) c) = some k) w1.drew w5 := (hk4.mono (fun _ _ h => h.elim)).trans hk5 (fun k _ h => h); clear hO5)
        | ((with_reducible refine at_store 22 (.tmp 71) (.tmp 69) rfl ?_); go_must (refine step_store1 rfl _ _ _ rfl g 5 (.slice A5 (0 + 1) cc5) _ _ rfl rfl rfl HB5.out (by simp [wcells]) info_bytes12 ?_); intro w6 hb6 hk6 hs6))
      go_ret
      rw [HQ.out]
      have hq := HP.out
      have hgl := hq.own.2
      have hob : ∀ k, Value.ownBlock (.slice A (0) c) = some k → R1 k := fun k h => HOL.out.2 k h
      have hz := hk45.size
      have hzg := hkg.size
      refine wstep (vl := .slice A5 (0 + 1) cc5) (vb := vb) (vc := vc) (R1 := fun k => R1 k ∨ w.heap.size ≤ k) (R2 := R2) (R3 := R3) ?_ hq.own.1 ?_ (((hq.ob.kept hkg (fun k h => (hq.d2 k h).2)).kept hk45 (fun k h h' => hq.d12 k (hob k h') h)).kept hk6 (fun k h => (hq.d2 k h).2)) (((hq.oc.kept hkg (fun k h => (hq.d3 k h).2)).kept hk45 (fun k h h' => hq.d13 k (hob k h') h)).kept hk6 (fun k h => (hq.d3 k h).2))
        (fun k h => h.elim (fun h => ⟨.inl (hq.d1 k h).1.1, (hq.d1 k h).2⟩) (fun h => ⟨.inr h, by omega⟩)) (fun k h => ⟨.inl (hq.d2 k h).1.1, (hq.d2 k h).2⟩) (fun k h => ⟨.inl (hq.d3 k h).1.1, (hq.d3 k h).2⟩) (fun k h h' => h.elim (fun h => hq.d12 k h h') (fun h => by have := (hq.d2 k h').1.2; omega)) (fun k h h' => h.elim (fun h => hq.d13 k h h') (fun h => by have := (hq.d3 k h').1.2; omega)) hq.d23 (((hkg.mono (fun k _ e => by subst e; exact hq.own.1)).trans (hk45.mono (fun k _ h => (hq.d1 k (hob k h)).1.1)) (fun _ _ h => h)).trans (hk6.mono (fun k _ e => by subst e; exact hq.own.1)) (fun _ _ h => h))
      · exact hb6
      · show OwnRow w6 _ _ 1 _ (s.line ++ [_]).length (Disk.bytes8 (s.line ++ [_]))
        rw [List.length_append, Disk.bytes8_append, HLN.out]
        exact (HO5.out.mono (ok' := fun k => R1 k ∨ w.heap.size ≤ k) (fun k _ h => h.elim (fun h => .inl (hob k h)) (fun h => .inr (by have := hk4.size; omega)))).kept hk6 (fun k h => h.elim (fun h => (hq.d1 k h).2) (fun h => by omega))
    · have n3 : (x != 13) = true := by simpa using b2
      by_cases b3 : x < 32
      · have HQ := Lib.hid (Wire.heads_bad (r := s) (b := x) hs (by rw [hbh, bad_off b1, decide_eq_true b2, decide_eq_true b3]; rfl))
        clear hbh b1 b2
        go_enter Tryd.func31, Tryd.ntmps31
        go_wp2_with ((with_reducible refine at_store 3 (.tmp 18) (.tmp 16) rfl ?_); go_must (refine step_store1 rfl _ _ _ rfl g 3 (.int .i64 ((s.head : Nat) + 1 : Int)) _ _ rfl rfl rfl HB.out (by simp [wcells]) info_int ?_); intro w1 hb1 hk1 hs1; have HB1 := Lib.hid hb1; clear hb1)
        refine Canon.row [0, 1, 2, 3, 4, 5, 6, 7, 8, 9, 11, 12, 13, 10, 14, 15, 16, 17, 18, 19, 20, 21] (by kernel_rfl) (by kernel_rfl) (by repeat (first | (with_reducible exact Safe.body) | (with_reducible apply Safe.then) | (with_reducible apply Safe.inBlock) | (dsimp +zetaDelta only))) ?_
        simp only [Canon.pick, Canon.wpPlan, List.getElem?_toArray, List.getElem?_cons_zero, List.getElem?_cons_succ]
        have KD : Keeps (fun _ => False) w1 w1.drew := (Keeps.refl _ w1).drew
        have hkg : Keeps (fun k => k = g) w w1.drew := hk1.drew
        have HB1 := Lib.hid (KD.heap HB1.out (fun h => h))
        have c5 : w1.drew.cell? ⟨g, 5, none⟩ = some (.slice A (0) c) := (cell_of_row w1.drew g 5 _ _ _ HB1.out).trans rfl
        go_wp2
        refine ⟨by rfl, trivial, ?_⟩
        go_wp2
        go_ret
        rw [HQ.out]
        exact ((HP.out.stay (s' := { s with head := s.head + 1 }) hkg HB1.out rfl rfl rfl).mono (S' := S) (fun k h => h.1)).step (hkg.mono (fun k _ e => by subst e; exact HP.out.own.1))
      · by_cases b4 : 126 < x
        · have HQ := Lib.hid (Wire.heads_bad (r := s) (b := x) hs (by rw [hbh, bad_off b1, decide_eq_true b2, decide_eq_true b4]; simp))
          clear hbh b1 b2
          go_enter Tryd.func31, Tryd.ntmps31
          go_wp2_with ((with_reducible refine at_store 3 (.tmp 18) (.tmp 16) rfl ?_); go_must (refine step_store1 rfl _ _ _ rfl g 3 (.int .i64 ((s.head : Nat) + 1 : Int)) _ _ rfl rfl rfl HB.out (by simp [wcells]) info_int ?_); intro w1 hb1 hk1 hs1; have HB1 := Lib.hid hb1; clear hb1)
          refine Canon.row [0, 1, 2, 3, 4, 5, 6, 7, 8, 9, 11, 12, 13, 10, 14, 15, 16, 17, 18, 19, 20, 21] (by kernel_rfl) (by kernel_rfl) (by repeat (first | (with_reducible exact Safe.body) | (with_reducible apply Safe.then) | (with_reducible apply Safe.inBlock) | (dsimp +zetaDelta only))) ?_
          simp only [Canon.pick, Canon.wpPlan, List.getElem?_toArray, List.getElem?_cons_zero, List.getElem?_cons_succ]
          have KD : Keeps (fun _ => False) w1 w1.drew := (Keeps.refl _ w1).drew
          have hkg : Keeps (fun k => k = g) w w1.drew := hk1.drew
          have HB1 := Lib.hid (KD.heap HB1.out (fun h => h))
          have c5 : w1.drew.cell? ⟨g, 5, none⟩ = some (.slice A (0) c) := (cell_of_row w1.drew g 5 _ _ _ HB1.out).trans rfl
          go_wp2
          refine ⟨by rfl, trivial, ?_⟩
          go_wp2
          go_ret
          rw [HQ.out]
          exact ((HP.out.stay (s' := { s with head := s.head + 1 }) hkg HB1.out rfl rfl rfl).mono (S' := S) (fun k h => h.1)).step (hkg.mono (fun k _ e => by subst e; exact HP.out.own.1))
        · have HQ := Lib.hid (Wire.heads_more (r := s) (b := x) hs (by rw [hbh, bad_off b1, decide_eq_false b3, decide_eq_false b4]; simp) b1)
          clear hbh b1 b2
          go_enter Tryd.func31, Tryd.ntmps31
          go_wp2_with ((with_reducible refine at_store 3 (.tmp 18) (.tmp 16) rfl ?_); go_must (refine step_store1 rfl _ _ _ rfl g 3 (.int .i64 ((s.head : Nat) + 1 : Int)) _ _ rfl rfl rfl HB.out (by simp [wcells]) info_int ?_); intro w1 hb1 hk1 hs1; have HB1 := Lib.hid hb1; clear hb1)
          refine Canon.row [0, 1, 2, 3, 4, 5, 6, 7, 8, 9, 11, 12, 13, 10, 14, 15, 16, 17, 18, 19, 20, 21] (by kernel_rfl) (by kernel_rfl) (by repeat (first | (with_reducible exact Safe.body) | (with_reducible apply Safe.then) | (with_reducible apply Safe.inBlock) | (dsimp +zetaDelta only))) ?_
          simp only [Canon.pick, Canon.wpPlan, List.getElem?_toArray, List.getElem?_cons_zero, List.getElem?_cons_succ]
          have KD : Keeps (fun _ => False) w1 w1.drew := (Keeps.refl _ w1).drew
          have hkg : Keeps (fun k => k = g) w w1.drew := hk1.drew
          have HB1 := Lib.hid (KD.heap HB1.out (fun h => h))
          have c5 : w1.drew.cell? ⟨g, 5, none⟩ = some (.slice A (0) c) := (cell_of_row w1.drew g 5 _ _ _ HB1.out).trans rfl
          go_wp2
          refine ⟨by rfl, trivial, ?_⟩
          go_wp2_with (first
            | ((with_reducible refine at_ 68 rfl ?_); go_must (refine step_lit rfl 22 _ 1 rfl [.int .u8 _] rfl rfl (by decide) 5 _ 1 Tryd.underlying22 row2_byte (by decide) (by decide) (by intro v hv; rw [List.mem_singleton] at hv; subst hv; rfl) ?_); intro w4 hb4 hk4 hs4)
            | ((with_reducible refine at_ 69 rfl ?_); go_must (refine step_append_rd (ok2 := fun k => w.heap.size ≤ k) rfl _ _ _ rfl 5 _ 1 1 Tryd.underlying22 row_byte rfl (by decide) (.slice A (0) c) (0) (Disk.bytes8 s.line) rfl (own_self ((HOL.out.kept hkg (fun k h => (HP.out.d1 k h).2)).kept hk4 (fun _ _ h => h))) _ 1 (Disk.bytes8 [_]) rfl (lit8 hb4 hkg.size) rfl (Disk.bytes8_one [_]) (by simp only [maxLen]; omega) (by omega) ?_); intro v5 w5 hO5 hk5; obtain ⟨A5, cc5, rfl, _⟩ := hO5.slice; have HO5 := Lib.hid hO5; have hg5 : ¬ Value.ownBlock (.slice A (0) c) = some g := (fun h => (HP.out.d1 g (HOL.out.2 g h)).2 rfl); have HB5 := Lib.hid (hk5.heap (hk4.heap HB1.out (fun h => h)) hg5); have hk45 : Keeps (fun k => Value.ownBlock (.slice A (0) c) = some k) w1.drew w5 := (hk4.mono (fun _ _ h => h.elim)).trans hk5 (fun k _ h => h); clear hO5)
            | ((with_reducible refine at_store 22 (.tmp 71) (.tmp 69) rfl ?_); go_must (refine step_store1 rfl _ _ _ rfl g 5 (.slice A5 (0 + 1) cc5) _ _ rfl rfl rfl HB5.out (by simp [wcells]) info_bytes12 ?_); intro w6 hb6 hk6 hs6))
          go_ret
          rw [HQ.out]
          have hq := HP.out
          have hgl := hq.own.2
          have hob : ∀ k, Value.ownBlock (.slice A (0) c) = some k → R1 k := fun k h => HOL.out.2 k h
          have hz := hk45.size
          have hzg := hkg.size
          refine wstep (vl := .slice A5 (0 + 1) cc5) (vb := vb) (vc := vc) (R1 := fun k => R1 k ∨ w.heap.size ≤ k) (R2 := R2) (R3 := R3) ?_ hq.own.1 ?_ (((hq.ob.kept hkg (fun k h => (hq.d2 k h).2)).kept hk45 (fun k h h' => hq.d12 k (hob k h') h)).kept hk6 (fun k h => (hq.d2 k h).2)) (((hq.oc.kept hkg (fun k h => (hq.d3 k h).2)).kept hk45 (fun k h h' => hq.d13 k (hob k h') h)).kept hk6 (fun k h => (hq.d3 k h).2))
            (fun k h => h.elim (fun h => ⟨.inl (hq.d1 k h).1.1, (hq.d1 k h).2⟩) (fun h => ⟨.inr h, by omega⟩)) (fun k h => ⟨.inl (hq.d2 k h).1.1, (hq.d2 k h).2⟩) (fun k h => ⟨.inl (hq.d3 k h).1.1, (hq.d3 k h).2⟩) (fun k h h' => h.elim (fun h => hq.d12 k h h') (fun h => by have := (hq.d2 k h').1.2; omega)) (fun k h h' => h.elim (fun h => hq.d13 k h h') (fun h => by have := (hq.d3 k h').1.2; omega)) hq.d23 (((hkg.mono (fun k _ e => by subst e; exact hq.own.1)).trans (hk45.mono (fun k _ h => (hq.d1 k (hob k h)).1.1)) (fun _ _ h => h)).trans (hk6.mono (fun k _ e => by subst e; exact hq.own.1)) (fun _ _ h => h))
          · exact hb6
          · show OwnRow w6 _ _ 1 _ (s.line ++ [_]).length (Disk.bytes8 (s.line ++ [_]))
            rw [List.length_append, Disk.bytes8_append, HLN.out]
            exact (HO5.out.mono (ok' := fun k => R1 k ∨ w.heap.size ≤ k) (fun k _ h => h.elim (fun h => .inl (hob k h)) (fun h => .inr (by have := hk4.size; omega)))).kept hk6 (fun k h => h.elim (fun h => (hq.d1 k h).2) (fun h => by omega))
set_option maxRecDepth 100000 in
set_option maxHeartbeats 6400000 in
theorem headsW_mid (h : WIs w S g s) (hok : WOk s) (hs : ¬ 1024 ≤ s.head) {a : List Int} {y : Int} (hn : s.line = a ++ [y]) (hy : y ≠ 13) (x : Int) (h0 : 0 ≤ x ∧ x ≤ 255) : Calls Tryd.prog 31 #[.pointer (some ⟨g, 0, none⟩), .int .u8 x] w (Rets (WStep w S g (.int .i64 (Wire.heads s x).1) (Wire.heads s x).2)) := by
  obtain ⟨vl, vb, vc, R1, R2, R3, hp⟩ := h.parts2
  have hlen : s.line.length = a.length + 1 := by rw [hn]; simp
  obtain ⟨q, c, cur, hvl, _⟩ := hp.ol.form (by omega)
  have hm2 := hok.line
  have hq0 : w.cell? ⟨q, a.length, none⟩ = some (.int .u8 y) := hp.ol.cells hvl a.length _ (by rw [hn]; simp [Disk.bytes8])
  have hqR : R1 q := hp.ol.2 q (by rw [hvl]; rfl)
  have hqg : q ≠ g := (hp.d1 q hqR).2
  rw [hlen] at hvl hm2
  have hye : 0 ≤ y ∧ y < 256 := hok.byte y (by rw [hn]; simp)
  obtain ⟨ye1, ye2⟩ := hye
  subst hvl
  have HOL := Lib.hid (show OwnRow w R1 5 1 (.slice (some ⟨q, 0, none⟩) (a.length + 1) c) (a.length + 1) (Disk.bytes8 s.line) by have := hp.ol; rwa [hlen] at this)
  have HLN := Lib.hid hlen
  have HLA := Lib.hid hn
  have HP := Lib.hid hp
  have HB := Lib.hid hp.blk
  have c3 : w.cell? ⟨g, 3, none⟩ = some (.int .i64 (s.head : Nat)) := (hp.cell 3).trans rfl
  clear hlen
  generalize hma : a.length = m at *
  have hbh : Wire.behind s.line = false := by rw [hn, behind_last, decide_eq_false hy]
  have hy13 : (y == 13) = false := by simpa using hy
  clear hp h hn hy
  obtain ⟨x0, x1⟩ := h0
  by_cases b1 : x = 10
  · subst b1
    have HQ := Lib.hid (Wire.heads_bad (r := s) (b := 10) hs (by rw [hbh, bad_nl]; rfl))
    clear hbh
    go_enter Tryd.func31, Tryd.ntmps31
    go_wp2_with ((with_reducible refine at_store 3 (.tmp 18) (.tmp 16) rfl ?_); go_must (refine step_store1 rfl _ _ _ rfl g 3 (.int .i64 ((s.head : Nat) + 1 : Int)) _ _ rfl rfl rfl HB.out (by simp [wcells]) info_int ?_); intro w1 hb1 hk1 hs1; have HB1 := Lib.hid hb1; clear hb1)
    refine Canon.row [0, 1, 2, 3, 4, 5, 6, 7, 8, 9, 11, 12, 13, 10, 14, 15, 16, 17, 18, 19, 20, 21] (by kernel_rfl) (by kernel_rfl) (by repeat (first | (with_reducible exact Safe.body) | (with_reducible apply Safe.then) | (with_reducible apply Safe.inBlock) | (dsimp +zetaDelta only))) ?_
    simp only [Canon.pick, Canon.wpPlan, List.getElem?_toArray, List.getElem?_cons_zero, List.getElem?_cons_succ]
    have KD : Keeps (fun _ => False) w1 w1.drew := (Keeps.refl _ w1).drew
    have hkg : Keeps (fun k => k = g) w w1.drew := hk1.drew
    have HB1 := Lib.hid (KD.heap HB1.out (fun h => h))
    have c5 : w1.drew.cell? ⟨g, 5, none⟩ = some (.slice (some ⟨q, 0, none⟩) (m + 1) c) := (cell_of_row w1.drew g 5 _ _ _ HB1.out).trans rfl
    have hq0 := hkg.cell hq0 hqg
    go_wp2
    refine ⟨by rfl, trivial, ?_⟩
    go_wp2
    go_ret
    rw [HQ.out]
    exact ((HP.out.stay (s' := { s with head := s.head + 1 }) hkg HB1.out rfl rfl rfl).mono (S' := S) (fun k h => h.1)).step (hkg.mono (fun k _ e => by subst e; exact HP.out.own.1))
  · have n1 : (x == 10) = false := by simpa using b1
    have n2 : (x != 10) = true := by simpa using b1
    by_cases b2 : x = 13
    · subst b2
      have HQ := Lib.hid (Wire.heads_more (r := s) (b := 13) hs (by rw [hbh, bad_off b1]; simp) b1)
      clear hbh b1
      go_enter Tryd.func31, Tryd.ntmps31
      go_wp2_with ((with_reducible refine at_store 3 (.tmp 18) (.tmp 16) rfl ?_); go_must (refine step_store1 rfl _ _ _ rfl g 3 (.int .i64 ((s.head : Nat) + 1 : Int)) _ _ rfl rfl rfl HB.out (by simp [wcells]) info_int ?_); intro w1 hb1 hk1 hs1; have HB1 := Lib.hid hb1; clear hb1)
      refine Canon.row [0, 1, 2, 3, 4, 5, 6, 7, 8, 9, 11, 12, 13, 10, 14, 15, 16, 17, 18, 19, 20, 21] (by kernel_rfl) (by kernel_rfl) (by repeat (first | (with_reducible exact Safe.body) | (with_reducible apply Safe.then) | (with_reducible apply Safe.inBlock) | (dsimp +zetaDelta only))) ?_
      simp only [Canon.pick, Canon.wpPlan, List.getElem?_toArray, List.getElem?_cons_zero, List.getElem?_cons_succ]
      have KD : Keeps (fun _ => False) w1 w1.drew := (Keeps.refl _ w1).drew
      have hkg : Keeps (fun k => k = g) w w1.drew := hk1.drew
      have HB1 := Lib.hid (KD.heap HB1.out (fun h => h))
      have c5 : w1.drew.cell? ⟨g, 5, none⟩ = some (.slice (some ⟨q, 0, none⟩) (m + 1) c) := (cell_of_row w1.drew g 5 _ _ _ HB1.out).trans rfl
      have hq0 := hkg.cell hq0 hqg
      go_wp2
      refine ⟨by rfl, trivial, ?_⟩
      go_wp2_with (first
        | ((with_reducible refine at_ 68 rfl ?_); go_must (refine step_lit rfl 22 _ 1 rfl [.int .u8 _] rfl rfl (by decide) 5 _ 1 Tryd.underlying22 row2_byte (by decide) (by decide) (by intro v hv; rw [List.mem_singleton] at hv; subst hv; rfl) ?_); intro w4 hb4 hk4 hs4)
        | ((with_reducible refine at_ 69 rfl ?_); go_must (refine step_append_rd (ok2 := fun k => w.heap.size ≤ k) rfl _ _ _ rfl 5 _ 1 1 Tryd.underlying22 row_byte rfl (by decide) (.slice (some ⟨q, 0, none⟩) (m + 1) c) (m + 1) (Disk.bytes8 s.line) rfl (own_self ((HOL.out.kept hkg (fun k h => (HP.out.d1 k h).2)).kept hk4 (fun _ _ h => h))) _ 1 (Disk.bytes8 [_]) rfl (lit8 hb4 hkg.size) rfl (Disk.bytes8_one [_]) (by simp only [maxLen]; omega) (by omega) ?_); intro v5 w5 hO5 hk5; obtain ⟨A5, cc5, rfl, _⟩ := hO5.slice; have HO5 := Lib.hid hO5; have hg5 : ¬ Value.ownBlock (.slice (some ⟨q, 0, none⟩) (m + 1) c) = some g := (fun h => (HP.out.d1 g (HOL.out.2 g h)).2 rfl); have HB5 := Lib.hid (hk5.heap (hk4.heap HB1.out (fun h => h)) hg5); have hk45 : Keeps (fun k => Value.ownBlock (.slice (some ⟨q, 0, none⟩) (m + 1) c) = some k) w1.drew w5 := (hk4.mono (fun _ _ h => h.elim)).trans hk5 (fun k _ h => h); clear hO5)
        | ((with_reducible refine at_store 22 (.tmp 71) (.tmp 69) rfl ?_); go_must (refine step_store1 rfl _ _ _ rfl g 5 (.slice A5 (m + 1 + 1) cc5) _ _ rfl rfl rfl HB5.out (by simp [wcells]) info_bytes12 ?_); intro w6 hb6 hk6 hs6))
      go_ret
      rw [HQ.out]
      have hq := HP.out
      have hgl := hq.own.2
      have hob : ∀ k, Value.ownBlock (.slice (some ⟨q, 0, none⟩) (m + 1) c) = some k → R1 k := fun k h => HOL.out.2 k h
      have hz := hk45.size
      have hzg := hkg.size
      refine wstep (vl := .slice A5 (m + 1 + 1) cc5) (vb := vb) (vc := vc) (R1 := fun k => R1 k ∨ w.heap.size ≤ k) (R2 := R2) (R3 := R3) ?_ hq.own.1 ?_ (((hq.ob.kept hkg (fun k h => (hq.d2 k h).2)).kept hk45 (fun k h h' => hq.d12 k (hob k h') h)).kept hk6 (fun k h => (hq.d2 k h).2)) (((hq.oc.kept hkg (fun k h => (hq.d3 k h).2)).kept hk45 (fun k h h' => hq.d13 k (hob k h') h)).kept hk6 (fun k h => (hq.d3 k h).2))
        (fun k h => h.elim (fun h => ⟨.inl (hq.d1 k h).1.1, (hq.d1 k h).2⟩) (fun h => ⟨.inr h, by omega⟩)) (fun k h => ⟨.inl (hq.d2 k h).1.1, (hq.d2 k h).2⟩) (fun k h => ⟨.inl (hq.d3 k h).1.1, (hq.d3 k h).2⟩) (fun k h h' => h.elim (fun h => hq.d12 k h h') (fun h => by have := (hq.d2 k h').1.2; omega)) (fun k h h' => h.elim (fun h => hq.d13 k h h') (fun h => by have := (hq.d3 k h').1.2; omega)) hq.d23 (((hkg.mono (fun k _ e => by subst e; exact hq.own.1)).trans (hk45.mono (fun k _ h => (hq.d1 k (hob k h)).1.1)) (fun _ _ h => h)).trans (hk6.mono (fun k _ e => by subst e; exact hq.own.1)) (fun _ _ h => h))
      · exact hb6
      · show OwnRow w6 _ _ 1 _ (s.line ++ [_]).length (Disk.bytes8 (s.line ++ [_]))
        rw [List.length_append, Disk.bytes8_append, HLN.out]
        exact (HO5.out.mono (ok' := fun k => R1 k ∨ w.heap.size ≤ k) (fun k _ h => h.elim (fun h => .inl (hob k h)) (fun h => .inr (by have := hk4.size; omega)))).kept hk6 (fun k h => h.elim (fun h => (hq.d1 k h).2) (fun h => by omega))
    · have n3 : (x != 13) = true := by simpa using b2
      by_cases b3 : x < 32
      · have HQ := Lib.hid (Wire.heads_bad (r := s) (b := x) hs (by rw [hbh, bad_off b1, decide_eq_true b2, decide_eq_true b3]; rfl))
        clear hbh b1 b2
        go_enter Tryd.func31, Tryd.ntmps31
        go_wp2_with ((with_reducible refine at_store 3 (.tmp 18) (.tmp 16) rfl ?_); go_must (refine step_store1 rfl _ _ _ rfl g 3 (.int .i64 ((s.head : Nat) + 1 : Int)) _ _ rfl rfl rfl HB.out (by simp [wcells]) info_int ?_); intro w1 hb1 hk1 hs1; have HB1 := Lib.hid hb1; clear hb1)
        refine Canon.row [0, 1, 2, 3, 4, 5, 6, 7, 8, 9, 11, 12, 13, 10, 14, 15, 16, 17, 18, 19, 20, 21] (by kernel_rfl) (by kernel_rfl) (by repeat (first | (with_reducible exact Safe.body) | (with_reducible apply Safe.then) | (with_reducible apply Safe.inBlock) | (dsimp +zetaDelta only))) ?_
        simp only [Canon.pick, Canon.wpPlan, List.getElem?_toArray, List.getElem?_cons_zero, List.getElem?_cons_succ]
        have KD : Keeps (fun _ => False) w1 w1.drew := (Keeps.refl _ w1).drew
        have hkg : Keeps (fun k => k = g) w w1.drew := hk1.drew
        have HB1 := Lib.hid (KD.heap HB1.out (fun h => h))
        have c5 : w1.drew.cell? ⟨g, 5, none⟩ = some (.slice (some ⟨q, 0, none⟩) (m + 1) c) := (cell_of_row w1.drew g 5 _ _ _ HB1.out).trans rfl
        have hq0 := hkg.cell hq0 hqg
        go_wp2
        refine ⟨by rfl, trivial, ?_⟩
        go_wp2
        go_ret
        rw [HQ.out]
        exact ((HP.out.stay (s' := { s with head := s.head + 1 }) hkg HB1.out rfl rfl rfl).mono (S' := S) (fun k h => h.1)).step (hkg.mono (fun k _ e => by subst e; exact HP.out.own.1))
      · by_cases b4 : 126 < x
        · have HQ := Lib.hid (Wire.heads_bad (r := s) (b := x) hs (by rw [hbh, bad_off b1, decide_eq_true b2, decide_eq_true b4]; simp))
          clear hbh b1 b2
          go_enter Tryd.func31, Tryd.ntmps31
          go_wp2_with ((with_reducible refine at_store 3 (.tmp 18) (.tmp 16) rfl ?_); go_must (refine step_store1 rfl _ _ _ rfl g 3 (.int .i64 ((s.head : Nat) + 1 : Int)) _ _ rfl rfl rfl HB.out (by simp [wcells]) info_int ?_); intro w1 hb1 hk1 hs1; have HB1 := Lib.hid hb1; clear hb1)
          refine Canon.row [0, 1, 2, 3, 4, 5, 6, 7, 8, 9, 11, 12, 13, 10, 14, 15, 16, 17, 18, 19, 20, 21] (by kernel_rfl) (by kernel_rfl) (by repeat (first | (with_reducible exact Safe.body) | (with_reducible apply Safe.then) | (with_reducible apply Safe.inBlock) | (dsimp +zetaDelta only))) ?_
          simp only [Canon.pick, Canon.wpPlan, List.getElem?_toArray, List.getElem?_cons_zero, List.getElem?_cons_succ]
          have KD : Keeps (fun _ => False) w1 w1.drew := (Keeps.refl _ w1).drew
          have hkg : Keeps (fun k => k = g) w w1.drew := hk1.drew
          have HB1 := Lib.hid (KD.heap HB1.out (fun h => h))
          have c5 : w1.drew.cell? ⟨g, 5, none⟩ = some (.slice (some ⟨q, 0, none⟩) (m + 1) c) := (cell_of_row w1.drew g 5 _ _ _ HB1.out).trans rfl
          have hq0 := hkg.cell hq0 hqg
          go_wp2
          refine ⟨by rfl, trivial, ?_⟩
          go_wp2
          go_ret
          rw [HQ.out]
          exact ((HP.out.stay (s' := { s with head := s.head + 1 }) hkg HB1.out rfl rfl rfl).mono (S' := S) (fun k h => h.1)).step (hkg.mono (fun k _ e => by subst e; exact HP.out.own.1))
        · have HQ := Lib.hid (Wire.heads_more (r := s) (b := x) hs (by rw [hbh, bad_off b1, decide_eq_false b3, decide_eq_false b4]; simp) b1)
          clear hbh b1 b2
          go_enter Tryd.func31, Tryd.ntmps31
          go_wp2_with ((with_reducible refine at_store 3 (.tmp 18) (.tmp 16) rfl ?_); go_must (refine step_store1 rfl _ _ _ rfl g 3 (.int .i64 ((s.head : Nat) + 1 : Int)) _ _ rfl rfl rfl HB.out (by simp [wcells]) info_int ?_); intro w1 hb1 hk1 hs1; have HB1 := Lib.hid hb1; clear hb1)
          refine Canon.row [0, 1, 2, 3, 4, 5, 6, 7, 8, 9, 11, 12, 13, 10, 14, 15, 16, 17, 18, 19, 20, 21] (by kernel_rfl) (by kernel_rfl) (by repeat (first | (with_reducible exact Safe.body) | (with_reducible apply Safe.then) | (with_reducible apply Safe.inBlock) | (dsimp +zetaDelta only))) ?_
          simp only [Canon.pick, Canon.wpPlan, List.getElem?_toArray, List.getElem?_cons_zero, List.getElem?_cons_succ]
          have KD : Keeps (fun _ => False) w1 w1.drew := (Keeps.refl _ w1).drew
          have hkg : Keeps (fun k => k = g) w w1.drew := hk1.drew
          have HB1 := Lib.hid (KD.heap HB1.out (fun h => h))
          have c5 : w1.drew.cell? ⟨g, 5, none⟩ = some (.slice (some ⟨q, 0, none⟩) (m + 1) c) := (cell_of_row w1.drew g 5 _ _ _ HB1.out).trans rfl
          have hq0 := hkg.cell hq0 hqg
          go_wp2
          refine ⟨by rfl, trivial, ?_⟩
          go_wp2_with (first
            | ((with_reducible refine at_ 68 rfl ?_); go_must (refine step_lit rfl 22 _ 1 rfl [.int .u8 _] rfl rfl (by decide) 5 _ 1 Tryd.underlying22 row2_byte (by decide) (by decide) (by intro v hv; rw [List.mem_singleton] at hv; subst hv; rfl) ?_); intro w4 hb4 hk4 hs4)
            | ((with_reducible refine at_ 69 rfl ?_); go_must (refine step_append_rd (ok2 := fun k => w.heap.size ≤ k) rfl _ _ _ rfl 5 _ 1 1 Tryd.underlying22 row_byte rfl (by decide) (.slice (some ⟨q, 0, none⟩) (m + 1) c) (m + 1) (Disk.bytes8 s.line) rfl (own_self ((HOL.out.kept hkg (fun k h => (HP.out.d1 k h).2)).kept hk4 (fun _ _ h => h))) _ 1 (Disk.bytes8 [_]) rfl (lit8 hb4 hkg.size) rfl (Disk.bytes8_one [_]) (by simp only [maxLen]; omega) (by omega) ?_); intro v5 w5 hO5 hk5; obtain ⟨A5, cc5, rfl, _⟩ := hO5.slice; have HO5 := Lib.hid hO5; have hg5 : ¬ Value.ownBlock (.slice (some ⟨q, 0, none⟩) (m + 1) c) = some g := (fun h => (HP.out.d1 g (HOL.out.2 g h)).2 rfl); have HB5 := Lib.hid (hk5.heap (hk4.heap HB1.out (fun h => h)) hg5); have hk45 : Keeps (fun k => Value.ownBlock (.slice (some ⟨q, 0, none⟩) (m + 1) c) = some k) w1.drew w5 := (hk4.mono (fun _ _ h => h.elim)).trans hk5 (fun k _ h => h); clear hO5)
            | ((with_reducible refine at_store 22 (.tmp 71) (.tmp 69) rfl ?_); go_must (refine step_store1 rfl _ _ _ rfl g 5 (.slice A5 (m + 1 + 1) cc5) _ _ rfl rfl rfl HB5.out (by simp [wcells]) info_bytes12 ?_); intro w6 hb6 hk6 hs6))
          go_ret
          rw [HQ.out]
          have hq := HP.out
          have hgl := hq.own.2
          have hob : ∀ k, Value.ownBlock (.slice (some ⟨q, 0, none⟩) (m + 1) c) = some k → R1 k := fun k h => HOL.out.2 k h
          have hz := hk45.size
          have hzg := hkg.size
          refine wstep (vl := .slice A5 (m + 1 + 1) cc5) (vb := vb) (vc := vc) (R1 := fun k => R1 k ∨ w.heap.size ≤ k) (R2 := R2) (R3 := R3) ?_ hq.own.1 ?_ (((hq.ob.kept hkg (fun k h => (hq.d2 k h).2)).kept hk45 (fun k h h' => hq.d12 k (hob k h') h)).kept hk6 (fun k h => (hq.d2 k h).2)) (((hq.oc.kept hkg (fun k h => (hq.d3 k h).2)).kept hk45 (fun k h h' => hq.d13 k (hob k h') h)).kept hk6 (fun k h => (hq.d3 k h).2))
            (fun k h => h.elim (fun h => ⟨.inl (hq.d1 k h).1.1, (hq.d1 k h).2⟩) (fun h => ⟨.inr h, by omega⟩)) (fun k h => ⟨.inl (hq.d2 k h).1.1, (hq.d2 k h).2⟩) (fun k h => ⟨.inl (hq.d3 k h).1.1, (hq.d3 k h).2⟩) (fun k h h' => h.elim (fun h => hq.d12 k h h') (fun h => by have := (hq.d2 k h').1.2; omega)) (fun k h h' => h.elim (fun h => hq.d13 k h h') (fun h => by have := (hq.d3 k h').1.2; omega)) hq.d23 (((hkg.mono (fun k _ e => by subst e; exact hq.own.1)).trans (hk45.mono (fun k _ h => (hq.d1 k (hob k h)).1.1)) (fun _ _ h => h)).trans (hk6.mono (fun k _ e => by subst e; exact hq.own.1)) (fun _ _ h => h))
          · exact hb6
          · show OwnRow w6 _ _ 1 _ (s.line ++ [_]).length (Disk.bytes8 (s.line ++ [_]))
            rw [List.length_append, Disk.bytes8_append, HLN.out]
            exact (HO5.out.mono (ok' := fun k => R1 k ∨ w.heap.size ≤ k) (fun k _ h => h.elim (fun h => .inl (hob k h)) (fun h => .inr (by have := hk4.size; omega)))).kept hk6 (fun k h => h.elim (fun h => (hq.d1 k h).2) (fun h => by omega))
end
end Go.Proofs.YtibegbmehpggbaaDoor
