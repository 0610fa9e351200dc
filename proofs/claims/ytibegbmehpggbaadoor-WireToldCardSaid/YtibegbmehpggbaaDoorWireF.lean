/-
  The walks of package wire: the first line.
-/
import Derived.Test.YtibegbmehpggbaaDoorWireW
import Derived.Test.YtibegbmehpggbaaDoorWireT
namespace Go.Proofs.YtibegbmehpggbaaDoor
open Go.RowKit Go.Canon Go.Mem
set_option linter.unusedVariables false
set_option linter.unusedSimpArgs false
/-- A reader's parts in memory. -/
structure WPart (w : World) (S : Nat → Prop) (g : Nat) (vl vb vc : Value) (R1 R2 R3 : Nat → Prop) (s : Wire.S) : Prop where
  blk : w.heap[g]? = some (.cells (wcells vl vb vc s).toArray 64 (0, 0))
  own : S g
  ol : OwnRow w R1 5 1 vl s.line.length (Disk.bytes8 s.line)
  ob : OwnRow w R2 5 1 vb s.x.body.length (Disk.bytes8 s.x.body)
  oc : ChIs w R3 vc s.ch
  d1 : ∀ k, R1 k → S k ∧ k ≠ g
  d2 : ∀ k, R2 k → S k ∧ k ≠ g
  d3 : ∀ k, R3 k → S k ∧ k ≠ g
  d12 : ∀ k, R1 k → ¬ R2 k
  d13 : ∀ k, R1 k → ¬ R3 k
  d23 : ∀ k, R2 k → ¬ R3 k
section
variable {w w' : World} {S : Nat → Prop} {g : Nat} {s s' : Wire.S} {vl vb vc : Value} {R1 R2 R3 : Nat → Prop}
theorem WIs.parts (h : WIs w S g s) : ∃ vl vb vc R1 R2 R3, WPart w S g vl vb vc R1 R2 R3 s := by
  obtain ⟨vl, vb, vc, R1, R2, R3, h1, h2, h3, h4, h5, h6, h7, h8, h9, h10, h11⟩ := h
  exact ⟨vl, vb, vc, R1, R2, R3, ⟨h1, h2, h3, h4, h5, h6, h7, h8, h9, h10, h11⟩⟩
theorem WPart.wis (h : WPart w S g vl vb vc R1 R2 R3 s) : WIs w S g s := ⟨vl, vb, vc, R1, R2, R3, h.blk, h.own, h.ol, h.ob, h.oc, h.d1, h.d2, h.d3, h.d12, h.d13, h.d23⟩
/-- Only the reader's own cells turn. -/
theorem WPart.stay (h : WPart w S g vl vb vc R1 R2 R3 s) (hk : Keeps (fun k => k = g) w w') (hb : w'.heap[g]? = some (.cells (wcells vl vb vc s').toArray 64 (0, 0))) (e1 : s'.line = s.line) (e2 : s'.x.body = s.x.body) (e3 : s'.ch = s.ch) : WPart w' S g vl vb vc R1 R2 R3 s' :=
  ⟨hb, h.own, by rw [e1]; exact h.ol.kept hk (fun k hr => (h.d1 k hr).2), by rw [e2]; exact h.ob.kept hk (fun k hr => (h.d2 k hr).2), by rw [e3]; exact h.oc.kept hk (fun k hr => (h.d3 k hr).2), h.d1, h.d2, h.d3, h.d12, h.d13, h.d23⟩
theorem WPart.kept {T : Nat → Prop} (h : WPart w S g vl vb vc R1 R2 R3 s) (hk : Keeps T w w') (hn : ∀ k, S k → ¬ T k) : WPart w' S g vl vb vc R1 R2 R3 s :=
  ⟨hk.heap h.blk (hn g h.own), h.own, h.ol.kept hk (fun k hr => hn k (h.d1 k hr).1), h.ob.kept hk (fun k hr => hn k (h.d2 k hr).1), h.oc.kept hk (fun k hr => hn k (h.d3 k hr).1), h.d1, h.d2, h.d3, h.d12, h.d13, h.d23⟩
theorem WPart.mono {S' : Nat → Prop} (h : WPart w S g vl vb vc R1 R2 R3 s) (hs : ∀ k, S k → S' k) : WPart w S' g vl vb vc R1 R2 R3 s :=
  ⟨h.blk, hs g h.own, h.ol, h.ob, h.oc, fun k hr => ⟨hs k (h.d1 k hr).1, (h.d1 k hr).2⟩, fun k hr => ⟨hs k (h.d2 k hr).1, (h.d2 k hr).2⟩, fun k hr => ⟨hs k (h.d3 k hr).1, (h.d3 k hr).2⟩, h.d12, h.d13, h.d23⟩
theorem WPart.step {ans : Value} (h : WPart w' S g vl vb vc R1 R2 R3 s') (hk : Keeps S w w') : WStep w S g ans s' ans w' := ⟨rfl, (h.mono (fun k h => Or.inl h)).wis, hk⟩
theorem WPart.cell (h : WPart w S g vl vb vc R1 R2 R3 s) (k : Nat) : w.cell? ⟨g, k, none⟩ = (wcells vl vb vc s).toArray[k]? := cell_of_row w g k _ _ _ h.blk
end
theorem is_http11 {a : List Int} (ha : IsB a) : ((str a).toList == [72, 84, 84, 80, 47, 49, 46, 49]) = decide (a = Wire.http11) := by
  rw [← str_eq ha (show IsB Wire.http11 by unfold Wire.http11 IsB; simp), show (str Wire.http11).toList = [72, 84, 84, 80, 47, 49, 46, 49] by rw [ByteArray.toList_eq]; rfl]
theorem is_get {a : List Int} (ha : IsB a) : ((str a).toList == [71, 69, 84]) = decide (a = [71, 69, 84]) := by
  rw [← str_eq ha (show IsB [71, 69, 84] by unfold IsB; simp), show (str [71, 69, 84]).toList = [71, 69, 84] by rw [ByteArray.toList_eq]; rfl]
theorem is_put {a : List Int} (ha : IsB a) : ((str a).toList == [80, 85, 84]) = decide (a = [80, 85, 84]) := by
  rw [← str_eq ha (show IsB [80, 85, 84] by unfold IsB; simp), show (str [80, 85, 84]).toList = [80, 85, 84] by rw [ByteArray.toList_eq]; rfl]
theorem is_post {a : List Int} (ha : IsB a) : ((str a).toList == [80, 79, 83, 84]) = decide (a = [80, 79, 83, 84]) := by
  rw [← str_eq ha (show IsB [80, 79, 83, 84] by unfold IsB; simp), show (str [80, 79, 83, 84]).toList = [80, 79, 83, 84] by rw [ByteArray.toList_eq]; rfl]
theorem info_strW : (Tryd.prog.info? 9).map (·.size) = some 1 := by kernel_rfl
theorem first_short {r : Wire.S} {l : List Int} (h : (splitF 32 l).length ≠ 3) : Wire.first r l = (4, r) := by
  unfold Wire.first
  split
  · rename_i h2; rw [h2] at h; exact (h rfl).elim
  · rfl
theorem three_of {ps : List (List Int)} (h : ps.length = 3) : ∃ a b c, ps = [a, b, c] := by
  match ps, h with
  | [a, b, c], _ => exact ⟨a, b, c, rfl⟩
section
variable {w : World} {S : Nat → Prop} {g : Nat} {s : Wire.S}
set_option maxHeartbeats 3200000 in
set_option maxRecDepth 100000 in
theorem firstW_c (h : WIs w S g s) (l : List Int) (hB : IsB l) (hl : l.length ≤ 1000000) : Calls Tryd.prog 33 #[.pointer (some ⟨g, 0, none⟩), .string (str l)] w (Rets (WStep w S g (.int .i64 (Wire.first s l).1) (Wire.first s l).2)) := by
  obtain ⟨vl, vb, vc, R1, R2, R3, hp⟩ := h.parts
  have HP := Lib.hid hp
  clear hp h
  by_cases h3 : (splitF 32 l).length = 3
  · obtain ⟨a, b, c, he⟩ := three_of h3
    have HF := Lib.hid (show fieldsF 32 l 3 = ([a, b, c], true) by unfold fieldsF; rw [if_neg (by omega), he])
    have HQ0 := Lib.hid (show Wire.first s l = if c = Wire.http11 ∧ Wire.verb a = true ∧ Wire.target b = true then (0, { s with x := { s.x with method := a, target := b } }) else (4, s) by unfold Wire.first; rw [he])
    have hby := split_byte 32 hB
    rw [he] at hby
    have hsh := split_short 32 l
    rw [he] at hsh
    have hBa : IsB a := hby a (by simp)
    have hBb : IsB b := hby b (by simp)
    have hBc : IsB c := hby c (by simp)
    have hlb : b.length ≤ 1000000 := Nat.le_trans (hsh b (by simp)) hl
    have HBb := Lib.hid hBb
    have t1 := is_http11 hBc
    have t2 := is_get hBa
    have t3 := is_put hBa
    have t4 := is_post hBa
    have HV := Lib.hid (show Wire.verb a = (decide (a = [71, 69, 84]) || decide (a = [80, 85, 84]) || decide (a = [80, 79, 83, 84])) from rfl)
    clear he h3 hby hsh hBa hBc
    by_cases hc : c = Wire.http11
    · rw [decide_eq_true hc] at t1
      by_cases v1 : a = [71, 69, 84]
      · rw [decide_eq_true v1] at t2
        have HV := Lib.hid (show Wire.verb a = true by rw [HV.out, decide_eq_true v1]; rfl)
        have HC := Lib.hid hc
        clear hc v1 t3 t4
        cases ht : Wire.target b with
        | false =>
          have HQ := Lib.hid (show Wire.first s l = (4, s) by rw [HQ0.out, if_neg (fun h => by rw [ht] at h; exact Bool.noConfusion h.2.2)])
          clear HQ0
          go_enter Tryd.func33, Tryd.ntmps33
          go_wp2_with (first | (go_at_call 38; refine Rets.use (fields_c l hB hl 32 3 _) ?_; rintro v1 w1 ⟨hk1, u, hv, hO⟩; rw [HF.out] at hv hO; subst hv; have hO : OwnRow w1 (fun k => w.heap.size ≤ k) 9 1 u 3 (strs [a, b, c]) := hO; obtain ⟨q, cc, cur, rfl, _⟩ := hO.form (by decide); have k0 : w1.cell? ⟨q, 0, none⟩ = some (.string (str a)) := hO.cells rfl 0 _ rfl; have k1 : w1.cell? ⟨q, 1, none⟩ = some (.string (str b)) := hO.cells rfl 1 _ rfl; have k2 : w1.cell? ⟨q, 2, none⟩ = some (.string (str c)) := hO.cells rfl 2 _ rfl; clear hO) | (go_at_call 39; refine Rets.use (targetW_c b HBb.out hlb _) ?_; rintro v2 w2 ⟨rfl, rfl⟩))
          go_ret
          rw [HQ.out]
          exact (HP.out.kept hk1 (fun _ _ h => h)).step (hk1.mono (fun _ _ h => h.elim))
        | true =>
          have HQ := Lib.hid (show Wire.first s l = (0, { s with x := { s.x with method := a, target := b } }) by rw [HQ0.out, if_pos ⟨HC.out, HV.out, ht⟩])
          clear HQ0
          go_enter Tryd.func33, Tryd.ntmps33
          go_wp2_with (first | (go_at_call 38; refine Rets.use (fields_c l hB hl 32 3 _) ?_; rintro v1 w1 ⟨hk1, u, hv, hO⟩; rw [HF.out] at hv hO; subst hv; have hO : OwnRow w1 (fun k => w.heap.size ≤ k) 9 1 u 3 (strs [a, b, c]) := hO; obtain ⟨q, cc, cur, rfl, _⟩ := hO.form (by decide); have k0 : w1.cell? ⟨q, 0, none⟩ = some (.string (str a)) := hO.cells rfl 0 _ rfl; have k1 : w1.cell? ⟨q, 1, none⟩ = some (.string (str b)) := hO.cells rfl 1 _ rfl; have k2 : w1.cell? ⟨q, 2, none⟩ = some (.string (str c)) := hO.cells rfl 2 _ rfl; clear hO) | (go_at_call 39; refine Rets.use (targetW_c b HBb.out hlb _) ?_; rintro v2 w2 ⟨rfl, rfl⟩))
          refine Canon.row [0, 1, 2, 3, 5, 6, 4, 7, 8, 9, 10, 11, 12, 13, 14, 15] (by kernel_rfl) (by kernel_rfl) (by repeat (first | (with_reducible exact Safe.body) | (with_reducible apply Safe.then) | (with_reducible apply Safe.inBlock) | (dsimp +zetaDelta only))) ?_
          simp only [Canon.pick, Canon.wpPlan, List.getElem?_toArray, List.getElem?_cons_zero, List.getElem?_cons_succ]
          have KD : Keeps (fun _ => False) w1 w1.drew := (Keeps.refl _ w1).drew
          have k0 := KD.cell k0 (fun h => h)
          have k1 := KD.cell k1 (fun h => h)
          have HP1 := Lib.hid (HP.out.kept (hk1.trans KD (fun _ _ h => h)) (fun _ _ h => h))
          have HB1 := Lib.hid HP1.out.blk
          go_wp2_with (first
            | ((with_reducible refine at_store 9 (.tmp 60) (.tmp 54) rfl ?_); go_must (refine step_store1 rfl _ _ _ rfl g 6 (.string (str a)) _ _ rfl rfl rfl HB1.out (by simp [wcells]) info_strW ?_); intro w3 hb3 hk3 hs3)
            | ((with_reducible refine at_store 9 (.tmp 63) (.tmp 57) rfl ?_); go_must (refine step_store1 rfl _ _ _ rfl g 7 (.string (str b)) _ _ rfl rfl rfl hb3 (by simp [wcells]) info_strW ?_); intro w4 hb4 hk4 hs4))
          refine ⟨by rfl, trivial, ?_⟩
          go_wp2
          go_ret
          rw [HQ.out]
          have hk34 : Keeps (fun k => k = g) w1.drew w4 := hk3.trans hk4 (fun _ _ h => h)
          exact (HP1.out.stay (s' := { s with x := { s.x with method := a, target := b } }) hk34 hb4 rfl rfl rfl).step (((hk1.mono (fun _ _ h => h.elim)).trans (KD.mono (fun _ _ h => h.elim)) (fun _ _ h => h)).trans (hk34.mono (fun k _ e => by subst e; exact HP1.out.own)) (fun _ _ h => h))
      · rw [decide_eq_false v1] at t2
        by_cases v2 : a = [80, 85, 84]
        · rw [decide_eq_true v2] at t3
          have HV := Lib.hid (show Wire.verb a = true by rw [HV.out, decide_eq_true v2]; simp)
          have HC := Lib.hid hc
          clear hc v1 v2 t4
          cases ht : Wire.target b with
          | false =>
            have HQ := Lib.hid (show Wire.first s l = (4, s) by rw [HQ0.out, if_neg (fun h => by rw [ht] at h; exact Bool.noConfusion h.2.2)])
            clear HQ0
            go_enter Tryd.func33, Tryd.ntmps33
            go_wp2_with (first | (go_at_call 38; refine Rets.use (fields_c l hB hl 32 3 _) ?_; rintro v1 w1 ⟨hk1, u, hv, hO⟩; rw [HF.out] at hv hO; subst hv; have hO : OwnRow w1 (fun k => w.heap.size ≤ k) 9 1 u 3 (strs [a, b, c]) := hO; obtain ⟨q, cc, cur, rfl, _⟩ := hO.form (by decide); have k0 : w1.cell? ⟨q, 0, none⟩ = some (.string (str a)) := hO.cells rfl 0 _ rfl; have k1 : w1.cell? ⟨q, 1, none⟩ = some (.string (str b)) := hO.cells rfl 1 _ rfl; have k2 : w1.cell? ⟨q, 2, none⟩ = some (.string (str c)) := hO.cells rfl 2 _ rfl; clear hO) | (go_at_call 39; refine Rets.use (targetW_c b HBb.out hlb _) ?_; rintro v2 w2 ⟨rfl, rfl⟩))
            go_ret
            rw [HQ.out]
            exact (HP.out.kept hk1 (fun _ _ h => h)).step (hk1.mono (fun _ _ h => h.elim))
          | true =>
            have HQ := Lib.hid (show Wire.first s l = (0, { s with x := { s.x with method := a, target := b } }) by rw [HQ0.out, if_pos ⟨HC.out, HV.out, ht⟩])
            clear HQ0
            go_enter Tryd.func33, Tryd.ntmps33
            go_wp2_with (first | (go_at_call 38; refine Rets.use (fields_c l hB hl 32 3 _) ?_; rintro v1 w1 ⟨hk1, u, hv, hO⟩; rw [HF.out] at hv hO; subst hv; have hO : OwnRow w1 (fun k => w.heap.size ≤ k) 9 1 u 3 (strs [a, b, c]) := hO; obtain ⟨q, cc, cur, rfl, _⟩ := hO.form (by decide); have k0 : w1.cell? ⟨q, 0, none⟩ = some (.string (str a)) := hO.cells rfl 0 _ rfl; have k1 : w1.cell? ⟨q, 1, none⟩ = some (.string (str b)) := hO.cells rfl 1 _ rfl; have k2 : w1.cell? ⟨q, 2, none⟩ = some (.string (str c)) := hO.cells rfl 2 _ rfl; clear hO) | (go_at_call 39; refine Rets.use (targetW_c b HBb.out hlb _) ?_; rintro v2 w2 ⟨rfl, rfl⟩))
            refine Canon.row [0, 1, 2, 3, 5, 6, 4, 7, 8, 9, 10, 11, 12, 13, 14, 15] (by kernel_rfl) (by kernel_rfl) (by repeat (first | (with_reducible exact Safe.body) | (with_reducible apply Safe.then) | (with_reducible apply Safe.inBlock) | (dsimp +zetaDelta only))) ?_
            simp only [Canon.pick, Canon.wpPlan, List.getElem?_toArray, List.getElem?_cons_zero, List.getElem?_cons_succ]
            have KD : Keeps (fun _ => False) w1 w1.drew := (Keeps.refl _ w1).drew
            have k0 := KD.cell k0 (fun h => h)
            have k1 := KD.cell k1 (fun h => h)
            have HP1 := Lib.hid (HP.out.kept (hk1.trans KD (fun _ _ h => h)) (fun _ _ h => h))
            have HB1 := Lib.hid HP1.out.blk
            go_wp2_with (first
              | ((with_reducible refine at_store 9 (.tmp 60) (.tmp 54) rfl ?_); go_must (refine step_store1 rfl _ _ _ rfl g 6 (.string (str a)) _ _ rfl rfl rfl HB1.out (by simp [wcells]) info_strW ?_); intro w3 hb3 hk3 hs3)
              | ((with_reducible refine at_store 9 (.tmp 63) (.tmp 57) rfl ?_); go_must (refine step_store1 rfl _ _ _ rfl g 7 (.string (str b)) _ _ rfl rfl rfl hb3 (by simp [wcells]) info_strW ?_); intro w4 hb4 hk4 hs4))
            refine ⟨by rfl, trivial, ?_⟩
            go_wp2
            go_ret
            rw [HQ.out]
            have hk34 : Keeps (fun k => k = g) w1.drew w4 := hk3.trans hk4 (fun _ _ h => h)
            exact (HP1.out.stay (s' := { s with x := { s.x with method := a, target := b } }) hk34 hb4 rfl rfl rfl).step (((hk1.mono (fun _ _ h => h.elim)).trans (KD.mono (fun _ _ h => h.elim)) (fun _ _ h => h)).trans (hk34.mono (fun k _ e => by subst e; exact HP1.out.own)) (fun _ _ h => h))
        · rw [decide_eq_false v2] at t3
          by_cases v3 : a = [80, 79, 83, 84]
          · rw [decide_eq_true v3] at t4
            have HV := Lib.hid (show Wire.verb a = true by rw [HV.out, decide_eq_true v3]; simp)
            have HC := Lib.hid hc
            clear hc v1 v2 v3
            cases ht : Wire.target b with
            | false =>
              have HQ := Lib.hid (show Wire.first s l = (4, s) by rw [HQ0.out, if_neg (fun h => by rw [ht] at h; exact Bool.noConfusion h.2.2)])
              clear HQ0
              go_enter Tryd.func33, Tryd.ntmps33
              go_wp2_with (first | (go_at_call 38; refine Rets.use (fields_c l hB hl 32 3 _) ?_; rintro v1 w1 ⟨hk1, u, hv, hO⟩; rw [HF.out] at hv hO; subst hv; have hO : OwnRow w1 (fun k => w.heap.size ≤ k) 9 1 u 3 (strs [a, b, c]) := hO; obtain ⟨q, cc, cur, rfl, _⟩ := hO.form (by decide); have k0 : w1.cell? ⟨q, 0, none⟩ = some (.string (str a)) := hO.cells rfl 0 _ rfl; have k1 : w1.cell? ⟨q, 1, none⟩ = some (.string (str b)) := hO.cells rfl 1 _ rfl; have k2 : w1.cell? ⟨q, 2, none⟩ = some (.string (str c)) := hO.cells rfl 2 _ rfl; clear hO) | (go_at_call 39; refine Rets.use (targetW_c b HBb.out hlb _) ?_; rintro v2 w2 ⟨rfl, rfl⟩))
              go_ret
              rw [HQ.out]
              exact (HP.out.kept hk1 (fun _ _ h => h)).step (hk1.mono (fun _ _ h => h.elim))
            | true =>
              have HQ := Lib.hid (show Wire.first s l = (0, { s with x := { s.x with method := a, target := b } }) by rw [HQ0.out, if_pos ⟨HC.out, HV.out, ht⟩])
              clear HQ0
              go_enter Tryd.func33, Tryd.ntmps33
              go_wp2_with (first | (go_at_call 38; refine Rets.use (fields_c l hB hl 32 3 _) ?_; rintro v1 w1 ⟨hk1, u, hv, hO⟩; rw [HF.out] at hv hO; subst hv; have hO : OwnRow w1 (fun k => w.heap.size ≤ k) 9 1 u 3 (strs [a, b, c]) := hO; obtain ⟨q, cc, cur, rfl, _⟩ := hO.form (by decide); have k0 : w1.cell? ⟨q, 0, none⟩ = some (.string (str a)) := hO.cells rfl 0 _ rfl; have k1 : w1.cell? ⟨q, 1, none⟩ = some (.string (str b)) := hO.cells rfl 1 _ rfl; have k2 : w1.cell? ⟨q, 2, none⟩ = some (.string (str c)) := hO.cells rfl 2 _ rfl; clear hO) | (go_at_call 39; refine Rets.use (targetW_c b HBb.out hlb _) ?_; rintro v2 w2 ⟨rfl, rfl⟩))
              refine Canon.row [0, 1, 2, 3, 5, 6, 4, 7, 8, 9, 10, 11, 12, 13, 14, 15] (by kernel_rfl) (by kernel_rfl) (by repeat (first | (with_reducible exact Safe.body) | (with_reducible apply Safe.then) | (with_reducible apply Safe.inBlock) | (dsimp +zetaDelta only))) ?_
              simp only [Canon.pick, Canon.wpPlan, List.getElem?_toArray, List.getElem?_cons_zero, List.getElem?_cons_succ]
              have KD : Keeps (fun _ => False) w1 w1.drew := (Keeps.refl _ w1).drew
              have k0 := KD.cell k0 (fun h => h)
              have k1 := KD.cell k1 (fun h => h)
              have HP1 := Lib.hid (HP.out.kept (hk1.trans KD (fun _ _ h => h)) (fun _ _ h => h))
              have HB1 := Lib.hid HP1.out.blk
              go_wp2_with (first
                | ((with_reducible refine at_store 9 (.tmp 60) (.tmp 54) rfl ?_); go_must (refine step_store1 rfl _ _ _ rfl g 6 (.string (str a)) _ _ rfl rfl rfl HB1.out (by simp [wcells]) info_strW ?_); intro w3 hb3 hk3 hs3)
                | ((with_reducible refine at_store 9 (.tmp 63) (.tmp 57) rfl ?_); go_must (refine step_store1 rfl _ _ _ rfl g 7 (.string (str b)) _ _ rfl rfl rfl hb3 (by simp [wcells]) info_strW ?_); intro w4 hb4 hk4 hs4))
              refine ⟨by rfl, trivial, ?_⟩
              go_wp2
              go_ret
              rw [HQ.out]
              have hk34 : Keeps (fun k => k = g) w1.drew w4 := hk3.trans hk4 (fun _ _ h => h)
              exact (HP1.out.stay (s' := { s with x := { s.x with method := a, target := b } }) hk34 hb4 rfl rfl rfl).step (((hk1.mono (fun _ _ h => h.elim)).trans (KD.mono (fun _ _ h => h.elim)) (fun _ _ h => h)).trans (hk34.mono (fun k _ e => by subst e; exact HP1.out.own)) (fun _ _ h => h))
          · rw [decide_eq_false v3] at t4
            have HQ := Lib.hid (show Wire.first s l = (4, s) by rw [HQ0.out, if_neg]; rintro ⟨_, h, _⟩; rw [HV.out, decide_eq_false v1, decide_eq_false v2, decide_eq_false v3] at h; cases h)
            clear HQ0
            clear hc v1 v2 v3
            go_enter Tryd.func33, Tryd.ntmps33
            go_wp2_with (go_at_call 38; refine Rets.use (fields_c l hB hl 32 3 _) ?_; rintro v1 w1 ⟨hk1, u, hv, hO⟩; rw [HF.out] at hv hO; subst hv; have hO : OwnRow w1 (fun k => w.heap.size ≤ k) 9 1 u 3 (strs [a, b, c]) := hO; obtain ⟨q, cc, cur, rfl, _⟩ := hO.form (by decide); have k0 : w1.cell? ⟨q, 0, none⟩ = some (.string (str a)) := hO.cells rfl 0 _ rfl; have k1 : w1.cell? ⟨q, 1, none⟩ = some (.string (str b)) := hO.cells rfl 1 _ rfl; have k2 : w1.cell? ⟨q, 2, none⟩ = some (.string (str c)) := hO.cells rfl 2 _ rfl; clear hO)
            go_ret
            rw [HQ.out]
            exact (HP.out.kept hk1 (fun _ _ h => h)).step (hk1.mono (fun _ _ h => h.elim))
    · rw [decide_eq_false hc] at t1
      have HQ := Lib.hid (show Wire.first s l = (4, s) by rw [HQ0.out, if_neg (fun h => hc h.1)])
      clear HQ0
      clear hc t2 t3 t4
      go_enter Tryd.func33, Tryd.ntmps33
      go_wp2_with (go_at_call 38; refine Rets.use (fields_c l hB hl 32 3 _) ?_; rintro v1 w1 ⟨hk1, u, hv, hO⟩; rw [HF.out] at hv hO; subst hv; have hO : OwnRow w1 (fun k => w.heap.size ≤ k) 9 1 u 3 (strs [a, b, c]) := hO; obtain ⟨q, cc, cur, rfl, _⟩ := hO.form (by decide); have k0 : w1.cell? ⟨q, 0, none⟩ = some (.string (str a)) := hO.cells rfl 0 _ rfl; have k1 : w1.cell? ⟨q, 1, none⟩ = some (.string (str b)) := hO.cells rfl 1 _ rfl; have k2 : w1.cell? ⟨q, 2, none⟩ = some (.string (str c)) := hO.cells rfl 2 _ rfl; clear hO)
      go_ret
      rw [HQ.out]
      exact (HP.out.kept hk1 (fun _ _ h => h)).step (hk1.mono (fun _ _ h => h.elim))
  · have HQ := Lib.hid (first_short (r := s) h3)
    by_cases h4 : 3 < (splitF 32 l).length
    · have HF := Lib.hid (show fieldsF 32 l 3 = ([], false) by unfold fieldsF; rw [if_pos (by omega)])
      clear h3 h4
      go_enter Tryd.func33, Tryd.ntmps33
      go_wp2_with (go_at_call 38; refine Rets.use (fields_c l hB hl 32 3 _) ?_; rintro v1 w1 ⟨hk1, u, hv, hO⟩; rw [HF.out] at hv hO; subst hv; have HO := Lib.hid hO; obtain ⟨A, cc, rfl, _⟩ := hO.slice; clear hO; (try simp only at *))
      go_ret
      rw [HQ.out]
      exact (HP.out.kept hk1 (fun _ _ h => h)).step (hk1.mono (fun _ _ h => h.elim))
    · have HF := Lib.hid (show fieldsF 32 l 3 = (splitF 32 l, true) by unfold fieldsF; rw [if_neg (by omega)])
      generalize hps : splitF 32 l = ps at *
      have hb : ((ps.length : Int) != 3) = true := by rw [bne_iff_ne]; omega
      clear hps h3
      go_enter Tryd.func33, Tryd.ntmps33
      go_wp2_with (go_at_call 38; refine Rets.use (fields_c l hB hl 32 3 _) ?_; rintro v1 w1 ⟨hk1, u, hv, hO⟩; rw [HF.out] at hv hO; subst hv; have HO := Lib.hid hO; obtain ⟨A, cc, rfl, _⟩ := hO.slice; clear hO; (try simp only at *))
      go_ret
      rw [HQ.out]
      exact (HP.out.kept hk1 (fun _ _ h => h)).step (hk1.mono (fun _ _ h => h.elim))
end
end Go.Proofs.YtibegbmehpggbaaDoor
