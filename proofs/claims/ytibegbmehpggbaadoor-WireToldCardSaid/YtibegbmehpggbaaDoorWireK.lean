/-
  The walks of package wire: Take.
-/
import Derived.Test.YtibegbmehpggbaaDoorWireJ
namespace Go.Proofs.YtibegbmehpggbaaDoor
open Go.RowKit Go.Canon Go.Mem
set_option linter.unusedVariables false
set_option linter.unusedSimpArgs false
def zq : List Value := [.string ⟨#[]⟩, .string ⟨#[]⟩, .string ⟨#[]⟩, .slice none 0 0]
def reqC (r : ReqP) (v : Value) : List Value := [.string (str r.method), .string (str r.target), .string (str r.token), v]
theorem reqC_v (r : ReqP) (v : Value) : .agg (reqC r v).toArray = reqV r v := rfl
theorem zq_zero : zq = reqC Wire.zeroR (.slice none 0 0) := rfl
theorem info_wr : (Tryd.prog.info? 64).map (·.size) = some 16 := by kernel_rfl
/-- What is taken: the request, its body in memory of its own; the reader begins anew. -/
def TakeIs (w : World) (S : Nat → Prop) (g : Nat) (s : Wire.S) : Value → World → Prop := fun v w' => ∃ vb, v = .tuple #[reqV s.x vb, .bool true] ∧ OwnRow w' (fun k => S k ∧ k ≠ g ∧ k < w.heap.size) 5 1 vb s.x.body.length (Disk.bytes8 s.x.body) ∧ WIs w' (fun k => k = g) g Wire.new ∧ Keeps (fun k => k = g) w w'
section
variable {w : World} {S : Nat → Prop} {g : Nat} {s : Wire.S}
set_option maxHeartbeats 1600000 in
theorem takeW_yes (h : WIs w S g s) (hw : s.whole = true) : Calls Tryd.prog 28 #[.pointer (some ⟨g, 0, none⟩)] w (Rets (TakeIs w S g s)) := by
  obtain ⟨vl, vb, vc, R1, R2, R3, hp⟩ := h.parts2
  obtain ⟨A, c, rfl, _⟩ := hp.ob.slice
  have HP := Lib.hid hp
  have hgl := hp.own.2
  obtain ⟨w1, hw1⟩ : ∃ w1, w1 = w.alloc (.cells #[.string ⟨#[]⟩, .string ⟨#[]⟩, .string ⟨#[]⟩, .slice none 0 0] 44) := ⟨_, rfl⟩
  obtain ⟨hb1, hk1, hs1⟩ := alloc1 hw1
  have HW := Lib.hid hw1
  have HB := Lib.hid (hk1.heap hp.blk (fun h => h))
  have HB1 := Lib.hid hb1
  have c2 : w1.cell? ⟨g, 2, none⟩ = some (.bool s.whole) := (cell_of_row w1 g 2 _ _ _ HB.out).trans rfl
  rw [hw] at c2
  rw [hw1] at c2
  clear hp h hw1 hb1
  go_enter Tryd.func28, Tryd.ntmps28
  go_wp2_with (first
    | ((with_reducible refine at_ 18 rfl ?_); rw [← HW.out]; go_must (refine step_load rfl _ _ rfl g 6 (reqC s.x (.slice A s.x.body.length c)) _ _ (0, 0) _ rfl HB.out rfl Tryd.underlying44 rfl info_req ?_))
    | ((with_reducible refine at_store 44 (.tmp 4) (.tmp 18) rfl ?_); go_must (refine step_store rfl _ _ _ rfl (w.heap.size + 1) 0 (reqC s.x (.slice A s.x.body.length c)) zq _ rfl rfl (by rw [← hs1]; exact heap_alloc_new w1 _) (by simp [zq, reqC]) info_req (by simp [reqC, Value.oneCell']) ?_); intro w2 hb2 hk2 hs2; rw [put_whole (by rfl)] at hb2; have hk12 : Keeps (fun k => k = w.heap.size + 1) w1 w2 := ((Keeps.refl _ w1).alloc _).trans hk2 (fun _ _ h => h); have HB2 := Lib.hid (hk12.heap HB.out (fun h => by omega)); have HB3 := Lib.hid hb2; clear hb2)
    | ((with_reducible refine at_store 64 (.tmp 21) (.tmp 20) rfl ?_); go_must (refine step_store rfl _ _ _ rfl g 0 (wcells (.slice none 0 0) (.slice none 0 0) (.pointer none) Wire.new) _ _ rfl rfl HB2.out (by simp [wcells]) info_wr (by simp [wcells, Value.oneCell']) ?_); intro w3 hb3 hk3 hs3; rw [put_whole (by rfl)] at hb3; have HB4 := Lib.hid (hk3.heap HB3.out (fun h => by omega)); have HBn := Lib.hid hb3; clear hb3)
    | ((with_reducible refine at_ 22 rfl ?_); go_must (refine step_load rfl _ _ rfl (w.heap.size + 1) 0 (reqC s.x (.slice A s.x.body.length c)) _ _ (0, 0) _ rfl HB4.out rfl Tryd.underlying44 rfl info_req ?_))
    | ((with_reducible refine at_store 44 (.tmp 2) (.tmp 22) rfl ?_); go_must (refine step_store rfl _ _ _ rfl w.heap.size 0 (reqC s.x (.slice A s.x.body.length c)) _ _ rfl rfl (hk3.heap (hk12.heap HB1.out (fun h => by omega)) (fun h => by omega)) (by simp [reqC]) info_req (by simp [reqC, Value.oneCell']) ?_); intro w4 hb4 hk4 hs4; rw [put_whole (by rfl)] at hb4))
  refine bodyPost_ret (ret_cell_tmp rfl (reqC s.x (.slice A s.x.body.length c)) _ rfl hb4 Tryd.underlying44 rfl info_req) rfl ?_
  have hq := HP.out
  have hkA : Keeps (fun k => k = g ∨ w.heap.size ≤ k) w w4 := (((hk1.mono (fun _ _ h => h.elim)).trans hk12 (fun k _ h => .inr (by omega))).trans hk3 (fun k _ h => .inl h)).trans hk4 (fun k _ h => .inr (by omega))
  exact ⟨.slice A s.x.body.length c, rfl, (hq.ob.kept hkA (fun k h h' => h'.elim (hq.d2 k h).2 (fun h' => by have := (hq.d2 k h).1.2; omega))).mono (fun k _ h => ⟨(hq.d2 k h).1.1, (hq.d2 k h).2, (hq.d2 k h).1.2⟩),
    ⟨.slice none 0 0, .slice none 0 0, .pointer none, fun _ => False, fun _ => False, fun _ => False, hk4.heap HBn.out (fun h => by omega), rfl, OwnRow.nil _ _ _ _, OwnRow.nil _ _ _ _, rfl, fun _ h => h.elim, fun _ h => h.elim, fun _ h => h.elim, fun _ h => h.elim, fun _ h => h.elim, fun _ h => h.elim⟩, hkA.mono (fun k hk h => h.resolve_right (by omega))⟩
/-- Nothing is taken. -/
def NoTake (w : World) : Value → World → Prop := fun v w' => v = .tuple #[reqV Wire.zeroR (.slice none 0 0), .bool false] ∧ Keeps (fun _ => False) w w'
set_option maxHeartbeats 1600000 in
theorem takeW_cell {w : World} {g : Nat} (c2 : w.cell? ⟨g, 2, none⟩ = some (.bool false)) : Calls Tryd.prog 28 #[.pointer (some ⟨g, 0, none⟩)] w (Rets (NoTake w)) := by
  obtain ⟨w1, hw1⟩ : ∃ w1, w1 = w.alloc (.cells #[.string ⟨#[]⟩, .string ⟨#[]⟩, .string ⟨#[]⟩, .slice none 0 0] 44) := ⟨_, rfl⟩
  obtain ⟨hb1, hk1, hs1⟩ := alloc1 hw1
  have HW := Lib.hid hw1
  have HB1 := Lib.hid hb1
  have c2 := hk1.cell c2 (fun h => h)
  rw [hw1] at c2
  clear hw1 hb1
  go_enter Tryd.func28, Tryd.ntmps28
  go_wp2_with ((with_reducible refine at_store 44 (.tmp 2) (.tmp 14) rfl ?_); rw [← HW.out]; go_must (refine step_store rfl _ _ _ rfl w.heap.size 0 zq _ _ rfl rfl HB1.out (by simp [zq]) info_req (by simp [zq, Value.oneCell']) ?_); intro w4 hb4 hk4 hs4; rw [put_whole (by rfl)] at hb4)
  refine bodyPost_ret (ret_cell_tmp rfl zq _ rfl hb4 Tryd.underlying44 rfl info_req) rfl ?_
  exact ⟨rfl, ((hk1.mono (S' := fun k => w.heap.size ≤ k) (fun _ _ h => h.elim)).trans (S' := fun k => k = w.heap.size) hk4 (fun k hk h => by omega)).mono (fun k hk h => by omega)⟩
theorem takeW_nil (w : World) : Calls Tryd.prog 28 #[.pointer none] w (Rets (NoTake w)) := by
  obtain ⟨w1, hw1⟩ : ∃ w1, w1 = w.alloc (.cells #[.string ⟨#[]⟩, .string ⟨#[]⟩, .string ⟨#[]⟩, .slice none 0 0] 44) := ⟨_, rfl⟩
  obtain ⟨hb1, hk1, hs1⟩ := alloc1 hw1
  have HW := Lib.hid hw1
  have HB1 := Lib.hid hb1
  clear hw1 hb1
  go_enter Tryd.func28, Tryd.ntmps28
  go_wp2_with ((with_reducible refine at_store 44 (.tmp 2) (.tmp 14) rfl ?_); rw [← HW.out]; go_must (refine step_store rfl _ _ _ rfl w.heap.size 0 zq _ _ rfl rfl HB1.out (by simp [zq]) info_req (by simp [zq, Value.oneCell']) ?_); intro w4 hb4 hk4 hs4; rw [put_whole (by rfl)] at hb4)
  refine bodyPost_ret (ret_cell_tmp rfl zq _ rfl hb4 Tryd.underlying44 rfl info_req) rfl ?_
  exact ⟨rfl, ((hk1.mono (S' := fun k => w.heap.size ≤ k) (fun _ _ h => h.elim)).trans (S' := fun k => k = w.heap.size) hk4 (fun k hk h => by omega)).mono (fun k hk h => by omega)⟩
theorem takeW_no (h : WIs w S g s) (hw : s.whole = false) : Calls Tryd.prog 28 #[.pointer (some ⟨g, 0, none⟩)] w (Rets (NoTake w)) := by
  obtain ⟨vl, vb, vc, R1, R2, R3, hp⟩ := h.parts
  exact takeW_cell (by rw [← hw]; exact (hp.cell 2).trans rfl)
end
end Go.Proofs.YtibegbmehpggbaaDoor
