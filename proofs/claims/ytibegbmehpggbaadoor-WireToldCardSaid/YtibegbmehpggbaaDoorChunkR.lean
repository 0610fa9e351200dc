/-
  The walks of package chunk: New, Put, Body, Whole.
-/
import Derived.Test.YtibegbmehpggbaaDoorClone
import Derived.Test.YtibegbmehpggbaaDoorChunkW
namespace Go.Proofs.YtibegbmehpggbaaDoor
open Go.RowKit Go.Canon Go.Mem
set_option linter.unusedVariables false
set_option linter.unusedSimpArgs false
section
variable {w : World} {S : Nat → Prop} {g : Nat} {r : Chunk.Rd}
theorem body12_c (h : RdIs w S g r) (hl : r.b.length ≤ 140737488355328) : Calls Tryd.prog 37 #[.pointer (some ⟨g, 0, none⟩)] w (Rets (NewRow 5 1 r.b.length (Disk.bytes8 r.b) w)) := by
  obtain ⟨v, hb, hg, hO⟩ := h
  have HO := Lib.hid hO.rd
  have c3 : w.cell? ⟨g, 3, none⟩ = some v := (cell_of_row w g 3 _ _ _ hb).trans rfl
  clear hb hO
  go_enter Tryd.func37, Tryd.ntmps37
  go_wp2_with (go_at_call 43; refine Rets.use (clone_c v r.b HO.out hl) ?_; rintro v1 w1 ⟨hr1, hk1⟩)
  go_ret
  exact ⟨hr1, hk1⟩
set_option maxHeartbeats 1600000 in
theorem put12_c (h : RdIs w S g r) {n : Nat} (hm : Mild r n) (hn : n ≤ 1000000) (x : Int) (h0 : 0 ≤ x ∧ x ≤ 255) : Calls Tryd.prog 36 #[.pointer (some ⟨g, 0, none⟩), .int .u8 x] w (Rets (StepIs w S g (.tuple #[.bool (Chunk.put r x).1.1, .int .i64 (Chunk.put r x).1.2]) (Chunk.put r x).2)) := by
  have HR := Lib.hid h
  have HM := Lib.hid hm
  obtain ⟨v, hb, hg, hO⟩ := h
  have c1 : w.cell? ⟨g, 1, none⟩ = some (.int .i64 r.at_) := (cell_of_row w g 1 _ _ _ hb).trans rfl
  have c4 : w.cell? ⟨g, 4, none⟩ = some (.bool true) := (cell_of_row w g 4 _ _ _ hb).trans rfl
  clear hb hO hm
  by_cases e7 : r.at_ = 7
  · have HP := Lib.hid (show Chunk.put r x = ((false, 20), r) by unfold Chunk.put; rw [if_pos (.inl e7)])
    rw [e7] at c1
    clear e7
    go_enter Tryd.func36, Tryd.ntmps36
    go_wp2
    go_ret2
    rw [HP.out]
    exact ⟨rfl, HR.out.mono (fun k _ h => .inl h), Keeps.refl _ _⟩
  · by_cases e8 : r.at_ = 8
    · have HP := Lib.hid (show Chunk.put r x = ((false, 20), r) by unfold Chunk.put; rw [if_pos (.inr e8)])
      rw [e8] at c1
      clear e8 e7
      go_enter Tryd.func36, Tryd.ntmps36
      go_wp2
      go_ret2
      rw [HP.out]
      exact ⟨rfl, HR.out.mono (fun k _ h => .inl h), Keeps.refl _ _⟩
    · have b7 : (r.at_ == 7) = false := by simpa using e7
      have b8 : (r.at_ == 8) = false := by simpa using e8
      have hne : ¬ (r.at_ = 7 ∨ r.at_ = 8) := by rintro (h | h); exact e7 h; exact e8 h
      clear e7 e8
      by_cases ht : (Chunk.take r x).1 = 0
      · have HP := Lib.hid (show Chunk.put r x = ((decide ((Chunk.take r x).2.at_ = 7), 0), (Chunk.take r x).2) by unfold Chunk.put; rw [if_neg hne, if_neg (by simpa using ht)])
        have HT := Lib.hid (take12_c HR.out HM.out hn x h0)
        generalize Chunk.take r x = t at *
        obtain ⟨t1, t2⟩ := t
        simp only at ht
        subst ht
        clear hne
        go_enter Tryd.func36, Tryd.ntmps36
        go_wp2_with (go_at_call 42; refine Rets.use HT.out ?_; rintro v1 w1 ⟨rfl, hr1, hk1⟩; have HR1 := Lib.hid hr1; obtain ⟨v1, hb1, hg1, hO1⟩ := hr1; have c1b : w1.cell? ⟨g, 1, none⟩ = some (.int .i64 t2.at_) := (cell_of_row w1 g 1 _ _ _ hb1).trans rfl)
        go_ret2
        rw [HP.out]
        exact ⟨rfl, HR1.out, hk1⟩
      · have HP := Lib.hid (show Chunk.put r x = ((false, (Chunk.take r x).1), { (Chunk.take r x).2 with at_ := 8 }) by unfold Chunk.put; rw [if_neg hne, if_pos ht])
        have HT := Lib.hid (take12_c HR.out HM.out hn x h0)
        generalize Chunk.take r x = t at *
        obtain ⟨t1, t2⟩ := t
        simp only at ht
        have hb1 : (t1 != 0) = true := by simpa using ht
        clear hne ht
        go_enter Tryd.func36, Tryd.ntmps36
        go_wp2_with (first
          | (go_at_call 42; refine Rets.use HT.out ?_; rintro v1 w1 ⟨rfl, hr1, hk1⟩; obtain ⟨v1, hb1, hg1, hO1⟩ := hr1)
          | ((with_reducible refine at_store 3 (.tmp 35) (.const (.int .i64 8)) rfl ?_); go_must (refine step_store1 rfl _ _ _ rfl g 1 (.int .i64 8) _ _ rfl rfl rfl hb1 (by simp) info_int ?_); intro w2 hb2 hk2 hs2))
        go_ret2
        rw [HP.out]
        exact ⟨rfl, ⟨_, hb2, hg1, hO1.kept hk2 (fun k hk e => hk.2 e)⟩, hk1.trans hk2 (fun k _ e => by subst e; exact hg)⟩
end
def NewIs (w : World) (most : Int) : Value → World → Prop := fun v w' => Keeps (fun _ => False) w w' ∧ ∃ g, v = .tuple #[.pointer (some ⟨g, 0, none⟩), .int .i64 0] ∧ RdIs w' (fun k => w.heap.size ≤ k) g ⟨most, 0, 0, []⟩
set_option maxHeartbeats 800000 in
theorem new12_c (w : World) (most : Int) (h0 : 0 ≤ most) (h1 : most ≤ 2048) : Calls Tryd.prog 40 #[.int .i64 most] w (Rets (NewIs w most)) := by
  go_enter Tryd.func40, Tryd.ntmps40
  go_wp2
  go_ret2
  refine ⟨(Keeps.refl _ w).alloc _, w.heap.size, rfl, .slice none 0 0, heap_alloc_new w _, Nat.le_refl _, OwnRow.nil _ _ _ _⟩
set_option maxHeartbeats 800000 in
theorem new12_no (w : World) (most : Int) (h : most < 0 ∨ 2048 < most) : Calls Tryd.prog 40 #[.int .i64 most] w (Rets (Only (.tuple #[.pointer none, .int .i64 2]) w)) := by
  by_cases h0 : most < 0
  · clear h
    go_enter Tryd.func40, Tryd.ntmps40
    go_wp2
    go_ret2
    exact ⟨rfl, rfl⟩
  · have h1 : 2048 < most := by omega
    clear h
    go_enter Tryd.func40, Tryd.ntmps40
    go_wp2
    go_ret2
    exact ⟨rfl, rfl⟩
def Byte (l : List Int) : Prop := ∀ x ∈ l, 0 ≤ x ∧ x ≤ 255
/-- A body, how many bytes, why not. -/
def ThreeIs (w : World) (t : List Int × Int × Int) : Value → World → Prop := fun v w' => Keeps (fun _ => False) w w' ∧ ∃ u, v = .tuple #[u, .int .i64 t.2.1, .int .i64 t.2.2] ∧ OwnRow w' (fun k => w.heap.size ≤ k) 5 1 u t.1.length (Disk.bytes8 t.1)
theorem drop_at {l : List Int} {k : Nat} (h : k < l.length) : l.drop k = l[k] :: l.drop (k + 1) := List.drop_eq_getElem_cons h
end Go.Proofs.YtibegbmehpggbaaDoor
