/-
  The walks of package wire: Put.
-/
import Derived.Test.YtibegbmehpggbaaDoorWireI
namespace Go.Proofs.YtibegbmehpggbaaDoor
open Go.RowKit Go.Canon Go.Mem
set_option linter.unusedVariables false
set_option linter.unusedSimpArgs false
section
variable {w : World} {S : Nat → Prop} {g : Nat} {s : Wire.S}
theorem headsW_c (h : WIs w S g s) (hok : WOk s) (x : Int) (h0 : 0 ≤ x ∧ x ≤ 255) : Calls Tryd.prog 31 #[.pointer (some ⟨g, 0, none⟩), .int .u8 x] w (Rets (WStep w S g (.int .i64 (Wire.heads s x).1) (Wire.heads s x).2)) := by
  by_cases hb : 1024 ≤ s.head
  · exact headsW_big h hb x h0
  · rcases List.eq_nil_or_concat s.line with hn | ⟨a, y, hn⟩
    · exact headsW_none h hb hn x h0
    · rw [List.concat_eq_append] at hn
      by_cases hy : y = 13
      · subst hy
        exact headsW_last h hok hb hn x h0
      · exact headsW_mid h hok hb hn hy x h0
set_option maxRecDepth 100000 in
set_option maxHeartbeats 1600000 in
theorem putW_no (h : WIs w S g s) (hno : s.bad = true ∨ s.whole = true) (x : Int) : Calls Tryd.prog 27 #[.pointer (some ⟨g, 0, none⟩), .int .u8 x] w (Rets (WStep w S g (.tuple #[.bool (Wire.put s x).1.1, .int .i64 (Wire.put s x).1.2]) (Wire.put s x).2)) := by
  obtain ⟨vl, vb, vc, R1, R2, R3, hp⟩ := h.parts
  have HP := Lib.hid hp
  have c0 : w.cell? ⟨g, 0, none⟩ = some (.bool true) := (hp.cell 0).trans rfl
  have c1 : w.cell? ⟨g, 1, none⟩ = some (.bool s.bad) := (hp.cell 1).trans rfl
  have c2 : w.cell? ⟨g, 2, none⟩ = some (.bool s.whole) := (hp.cell 2).trans rfl
  have HQ := Lib.hid (show Wire.put s x = ((false, 20), s) by unfold Wire.put; rw [if_pos hno])
  clear hp h
  cases hb : s.bad with
  | true =>
    rw [hb] at c1
    clear hno
    go_enter Tryd.func27, Tryd.ntmps27
    go_wp2
    go_ret2
    rw [HQ.out]
    exact HP.out.step (Keeps.refl _ _)
  | false =>
    have hw := hno.resolve_left (by rw [hb]; simp)
    rw [hb] at c1
    rw [hw] at c2
    clear hno
    go_enter Tryd.func27, Tryd.ntmps27
    go_wp2
    go_ret2
    rw [HQ.out]
    exact HP.out.step (Keeps.refl _ _)
theorem bodyW_c (h : WIs w S g s) {n : Nat} (hl : s.x.body.length ≤ 1000000) (h1 : s.ch = none → 1 ≤ s.left ∧ s.left ≤ 2048) (h2 : ∀ c, s.ch = some c → Mild c n) (hn : n ≤ 1000000) (x : Int) (h0 : 0 ≤ x ∧ x ≤ 255) : Calls Tryd.prog 32 #[.pointer (some ⟨g, 0, none⟩), .int .u8 x] w (Rets (WStep w S g (.int .i64 (Wire.body s x).1) (Wire.body s x).2)) := by
  cases hc : s.ch with
  | none => exact bodyW_len h hc hl (h1 hc).1 (h1 hc).2 x h0
  | some c => exact bodyW_ch h hc (h2 c hc) hn x h0
theorem bne_dec (e : Int) : (e != 0) = decide (e ≠ 0) := by
  by_cases h : e = 0
  · rw [h]; rfl
  · rw [bne_iff_ne.2 h, decide_eq_true h]
set_option maxRecDepth 100000 in
set_option maxHeartbeats 1600000 in
theorem putW_head (h : WIs w S g s) (hok : WOk s) (hb : s.bad = false) (hw : s.whole = false) (hi : s.inB = false) (x : Int) (h0 : 0 ≤ x ∧ x ≤ 255) : Calls Tryd.prog 27 #[.pointer (some ⟨g, 0, none⟩), .int .u8 x] w (Rets (WStep w S g (.tuple #[.bool (Wire.put s x).1.1, .int .i64 (Wire.put s x).1.2]) (Wire.put s x).2)) := by
  have hst : Wire.step s x = Wire.heads s x := by unfold Wire.step; rw [hi]; simp
  obtain ⟨vl, vb, vc, R1, R2, R3, hp⟩ := h.parts
  have HW := Lib.hid h
  have c0 : w.cell? ⟨g, 0, none⟩ = some (.bool true) := (hp.cell 0).trans rfl
  have c1 : w.cell? ⟨g, 1, none⟩ = some (.bool s.bad) := (hp.cell 1).trans rfl
  have c2 : w.cell? ⟨g, 2, none⟩ = some (.bool s.whole) := (hp.cell 2).trans rfl
  have c15 : w.cell? ⟨g, 15, none⟩ = some (.bool s.inB) := (hp.cell 15).trans rfl
  have hput := Wire.put_on hb hw x
  rw [hst] at hput
  obtain ⟨q, hhq⟩ : ∃ q, Wire.heads s x = q := ⟨_, rfl⟩
  rw [hhq] at hput
  have HHQ := Lib.hid hhq
  have HQ := Lib.hid hput
  obtain ⟨e, s1⟩ := q
  rw [hb] at c1
  rw [hw] at c2
  rw [hi] at c15
  clear hp h hhq hput hst
  go_enter Tryd.func27, Tryd.ntmps27
  go_wp2_with (first
    | (go_at_call 31; refine Rets.use (headsW_c HW.out hok x h0) ?_; rw [HHQ.out]; rintro v1 w1 ⟨rfl, h1, hk1⟩; obtain ⟨vl1, vb1, vc1, R11, R21, R31, hp1⟩ := h1.parts; have HP1 := Lib.hid hp1; have HB1 := Lib.hid hp1.blk; clear hp1 h1)
    | ((with_reducible refine at_store 4 (.tmp 42) (.tmp 40) rfl ?_); go_must (refine step_store1 rfl _ _ _ rfl g 1 (.bool (e != 0)) _ _ rfl rfl rfl HB1.out (by simp [wcells]) info_boolW ?_); intro w2 hb2 hk2 hs2; have c2 : w2.cell? ⟨g, 2, none⟩ = some (.bool s1.whole) := (cell_of_row w2 g 2 _ _ _ hb2).trans rfl; clear c1))
  go_ret2
  rw [HQ.out]
  rw [bne_dec] at hb2
  have hq := HP1.out
  have hkk : Keeps S w w2 := hk1.trans (S' := fun k => S k ∨ w.heap.size ≤ k) (hk2.mono (fun k _ e => by subst e; exact hq.own)) (fun k hk h => h.elim id (fun h => by omega))
  exact ⟨rfl, (hq.stay (s' := { s1 with bad := decide (e ≠ 0) }) hk2 hb2 rfl rfl rfl).wis, hkk⟩
set_option maxRecDepth 100000 in
set_option maxHeartbeats 1600000 in
theorem putW_body (h : WIs w S g s) {n : Nat} (hl : s.x.body.length ≤ 1000000) (h1 : s.ch = none → 1 ≤ s.left ∧ s.left ≤ 2048) (h2 : ∀ c, s.ch = some c → Mild c n) (hn : n ≤ 1000000) (hb : s.bad = false) (hw : s.whole = false) (hi : s.inB = true) (x : Int) (h0 : 0 ≤ x ∧ x ≤ 255) : Calls Tryd.prog 27 #[.pointer (some ⟨g, 0, none⟩), .int .u8 x] w (Rets (WStep w S g (.tuple #[.bool (Wire.put s x).1.1, .int .i64 (Wire.put s x).1.2]) (Wire.put s x).2)) := by
  have hst : Wire.step s x = Wire.body s x := by unfold Wire.step; rw [hi]; simp
  have H1 := Lib.hid h1
  have H2 := Lib.hid h2
  clear h1 h2
  obtain ⟨vl, vb, vc, R1, R2, R3, hp⟩ := h.parts
  have HW := Lib.hid h
  have c0 : w.cell? ⟨g, 0, none⟩ = some (.bool true) := (hp.cell 0).trans rfl
  have c1 : w.cell? ⟨g, 1, none⟩ = some (.bool s.bad) := (hp.cell 1).trans rfl
  have c2 : w.cell? ⟨g, 2, none⟩ = some (.bool s.whole) := (hp.cell 2).trans rfl
  have c15 : w.cell? ⟨g, 15, none⟩ = some (.bool s.inB) := (hp.cell 15).trans rfl
  have hput := Wire.put_on hb hw x
  rw [hst] at hput
  obtain ⟨q, hhq⟩ : ∃ q, Wire.body s x = q := ⟨_, rfl⟩
  rw [hhq] at hput
  have HHQ := Lib.hid hhq
  have HQ := Lib.hid hput
  obtain ⟨e, s1⟩ := q
  rw [hb] at c1
  rw [hw] at c2
  rw [hi] at c15
  clear hp h hhq hput hst
  go_enter Tryd.func27, Tryd.ntmps27
  go_wp2_with (first
    | (go_at_call 32; refine Rets.use (bodyW_c HW.out hl H1.out H2.out hn x h0) ?_; rw [HHQ.out]; rintro v1 w1 ⟨rfl, h1, hk1⟩; obtain ⟨vl1, vb1, vc1, R11, R21, R31, hp1⟩ := h1.parts; have HP1 := Lib.hid hp1; have HB1 := Lib.hid hp1.blk; clear hp1 h1)
    | ((with_reducible refine at_store 4 (.tmp 42) (.tmp 40) rfl ?_); go_must (refine step_store1 rfl _ _ _ rfl g 1 (.bool (e != 0)) _ _ rfl rfl rfl HB1.out (by simp [wcells]) info_boolW ?_); intro w2 hb2 hk2 hs2; have c2 : w2.cell? ⟨g, 2, none⟩ = some (.bool s1.whole) := (cell_of_row w2 g 2 _ _ _ hb2).trans rfl; clear c1))
  go_ret2
  rw [HQ.out]
  rw [bne_dec] at hb2
  have hq := HP1.out
  have hkk : Keeps S w w2 := hk1.trans (S' := fun k => S k ∨ w.heap.size ≤ k) (hk2.mono (fun k _ e => by subst e; exact hq.own)) (fun k hk h => h.elim id (fun h => by omega))
  exact ⟨rfl, (hq.stay (s' := { s1 with bad := decide (e ≠ 0) }) hk2 hb2 rfl rfl rfl).wis, hkk⟩
theorem putW_nil (w : World) (x : Int) : Calls Tryd.prog 27 #[.pointer none, .int .u8 x] w (Rets (Only (.tuple #[.bool false, .int .i64 1]) w)) := by
  go_enter Tryd.func27, Tryd.ntmps27
  go_wp2
  go_ret2
  exact ⟨rfl, rfl⟩
/-- A reader that no call made. -/
theorem putW_plain {w : World} {g : Nat} (c0 : w.cell? ⟨g, 0, none⟩ = some (.bool false)) (x : Int) : Calls Tryd.prog 27 #[.pointer (some ⟨g, 0, none⟩), .int .u8 x] w (Rets (Only (.tuple #[.bool false, .int .i64 1]) w)) := by
  go_enter Tryd.func27, Tryd.ntmps27
  go_wp2
  go_ret2
  exact ⟨rfl, rfl⟩
end
end Go.Proofs.YtibegbmehpggbaaDoor
