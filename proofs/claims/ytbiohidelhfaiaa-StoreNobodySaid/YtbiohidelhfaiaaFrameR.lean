/-
  Frames: how one is read.
-/
import Derived.Test.YtbiohidelhfaiaaFrameW
namespace Go.Proofs.Ytbiohidelhfaiaa
open Go.RowKit Go.Canon Go.Mem Go.Args
set_option linter.unusedVariables false
set_option linter.unusedSimpArgs false
/-- Whether a sum stands at a place. -/
def standsF (l : List Int) (i : Nat) (c : Int) : Bool := decide ((l.drop i).take 4 = lowB c)
theorem four {l : List Int} {i : Nat} (h : i + 4 ≤ l.length) : (l.drop i).take 4 = [l[i], l[i + 1], l[i + 2], l[i + 3]] := by
  rw [List.drop_eq_getElem_cons (by omega), List.drop_eq_getElem_cons (by omega), List.drop_eq_getElem_cons (by omega), List.drop_eq_getElem_cons (by omega)]
  rfl
set_option maxHeartbeats 1600000 in
set_option maxRecDepth 100000 in
theorem stands_c {w : World} {ok : Nat → Prop} (v : Value) (l : List Int) (i : Nat) (c : Int) (hr : Rd w ok v l.length (Disk.bytes8 l)) (hi : i + 4 ≤ l.length) (hl : l.length ≤ 140737488355328) : Calls Try.prog 82 #[v, .int .i64 i, .int .u32 c] w (Rets (Still (.bool (standsF l i c)) w)) := by
  have HF := Lib.hid (four hi)
  have hc : lowB c = [c % 256, c / 256 % 256, c / 65536 % 256, c / 16777216 % 256] := rfl
  have HL := Lib.hid (low_c (w := w) c)
  unfold standsF
  rw [HF.out]
  rw [hc] at HL ⊢
  obtain ⟨b, o, c', rfl, hcap, _, hcell⟩ := hr.at (by intro e; have := congrArg List.length e; rw [Disk.bytes8_len, List.length_nil] at this; omega)
  have a0 : w.cell? ⟨b, o + i, none⟩ = some (.int .u8 l[i]) := hcell i _ (by rw [Disk.bytes8, List.getElem?_map, List.getElem?_eq_getElem (by omega)]; rfl)
  have a1 : w.cell? ⟨b, o + (i + 1), none⟩ = some (.int .u8 l[i + 1]) := hcell (i + 1) _ (by rw [Disk.bytes8, List.getElem?_map, List.getElem?_eq_getElem (by omega)]; rfl)
  have a2 : w.cell? ⟨b, o + (i + 2), none⟩ = some (.int .u8 l[i + 2]) := hcell (i + 2) _ (by rw [Disk.bytes8, List.getElem?_map, List.getElem?_eq_getElem (by omega)]; rfl)
  have a3 : w.cell? ⟨b, o + (i + 3), none⟩ = some (.int .u8 l[i + 3]) := hcell (i + 3) _ (by rw [Disk.bytes8, List.getElem?_map, List.getElem?_eq_getElem (by omega)]; rfl)
  clear hcell hc HF hr
  generalize l[i] = x0 at *
  generalize l[i + 1] = x1 at *
  generalize l[i + 2] = x2 at *
  generalize l[i + 3] = x3 at *
  generalize c % 256 = y0 at *
  generalize c / 256 % 256 = y1 at *
  generalize c / 65536 % 256 = y2 at *
  generalize c / 16777216 % 256 = y3 at *
  go_enter Try.func82, Try.ntmps82
  go_wp2_with (go_at_call 88; refine Rets.use HL.out ?_; rintro v2 w2 ⟨hO2, hk2⟩; obtain ⟨g, cap, cur, rfl, _, _, _, _, _, _⟩ := hO2.form (by decide))
  have d0 := hk2.cell a0 (fun h => h)
  have d1 := hk2.cell a1 (fun h => h)
  have d2 := hk2.cell a2 (fun h => h)
  have d3 := hk2.cell a3 (fun h => h)
  have e0 := hO2.cells rfl 0 _ rfl
  have e1 := hO2.cells rfl 1 _ rfl
  have e2 := hO2.cells rfl 2 _ rfl
  have e3 := hO2.cells rfl 3 _ rfl
  clear a0 a1 a2 a3 hO2 HL
  by_cases q0 : x0 = y0
  · subst q0
    by_cases q1 : x1 = y1
    · subst q1
      by_cases q2 : x2 = y2
      · subst q2
        by_cases q3 : x3 = y3
        · subst q3
          refine Canon.row [0, 1, 2, 4, 5, 3, 6, 7, 8, 9, 10, 11, 12, 14, 15, 13, 16, 17, 18, 19, 20, 21, 22, 23, 25, 26, 24, 27, 28, 29, 30, 31, 32, 33, 34, 36, 37, 35, 38, 39, 40, 41] (by kernel_rfl) (by kernel_rfl) (by repeat (first | (with_reducible exact Safe.body) | (with_reducible apply Safe.then) | (with_reducible apply Safe.inBlock) | (dsimp +zetaDelta only))) ?_
          simp only [Canon.pick, Canon.wpPlan, List.getElem?_toArray, List.getElem?_cons_zero, List.getElem?_cons_succ]
          have KD := (Keeps.refl (fun _ => False) w2).drew
          have d0 := KD.cell d0 (fun h => h)
          have d1 := KD.cell d1 (fun h => h)
          have d2 := KD.cell d2 (fun h => h)
          have d3 := KD.cell d3 (fun h => h)
          have e0 := KD.cell e0 (fun h => h)
          have e1 := KD.cell e1 (fun h => h)
          have e2 := KD.cell e2 (fun h => h)
          have e3 := KD.cell e3 (fun h => h)
          have HK := Lib.hid (hk2.trans KD (fun _ _ h => h))
          clear KD
          go_wp2
          refine ⟨by rfl, trivial, ?_⟩
          go_wp2
          go_ret
          exact ⟨by simp, HK.out⟩
        · have f3 : (x3 == y3) = false := by simpa using q3
          refine Canon.row [0, 1, 2, 4, 5, 3, 6, 7, 8, 9, 10, 11, 12, 14, 15, 13, 16, 17, 18, 19, 20, 21, 22, 23, 25, 26, 24, 27, 28, 29, 30, 31, 32, 33, 34, 36, 37, 35, 38, 39, 40, 41] (by kernel_rfl) (by kernel_rfl) (by repeat (first | (with_reducible exact Safe.body) | (with_reducible apply Safe.then) | (with_reducible apply Safe.inBlock) | (dsimp +zetaDelta only))) ?_
          simp only [Canon.pick, Canon.wpPlan, List.getElem?_toArray, List.getElem?_cons_zero, List.getElem?_cons_succ]
          have KD := (Keeps.refl (fun _ => False) w2).drew
          have d0 := KD.cell d0 (fun h => h)
          have d1 := KD.cell d1 (fun h => h)
          have d2 := KD.cell d2 (fun h => h)
          have d3 := KD.cell d3 (fun h => h)
          have e0 := KD.cell e0 (fun h => h)
          have e1 := KD.cell e1 (fun h => h)
          have e2 := KD.cell e2 (fun h => h)
          have e3 := KD.cell e3 (fun h => h)
          have HK := Lib.hid (hk2.trans KD (fun _ _ h => h))
          clear KD
          go_wp2
          refine ⟨by rfl, trivial, ?_⟩
          go_wp2
          go_ret
          exact ⟨by simp [q3], HK.out⟩
      · have f2 : (x2 == y2) = false := by simpa using q2
        refine Canon.row [0, 1, 2, 4, 5, 3, 6, 7, 8, 9, 10, 11, 12, 14, 15, 13, 16, 17, 18, 19, 20, 21, 22, 23, 25, 26, 24, 27, 28, 29, 30, 31, 32, 33, 34, 36, 37, 35, 38, 39, 40, 41] (by kernel_rfl) (by kernel_rfl) (by repeat (first | (with_reducible exact Safe.body) | (with_reducible apply Safe.then) | (with_reducible apply Safe.inBlock) | (dsimp +zetaDelta only))) ?_
        simp only [Canon.pick, Canon.wpPlan, List.getElem?_toArray, List.getElem?_cons_zero, List.getElem?_cons_succ]
        have KD := (Keeps.refl (fun _ => False) w2).drew
        have d0 := KD.cell d0 (fun h => h)
        have d1 := KD.cell d1 (fun h => h)
        have d2 := KD.cell d2 (fun h => h)
        have d3 := KD.cell d3 (fun h => h)
        have e0 := KD.cell e0 (fun h => h)
        have e1 := KD.cell e1 (fun h => h)
        have e2 := KD.cell e2 (fun h => h)
        have e3 := KD.cell e3 (fun h => h)
        have HK := Lib.hid (hk2.trans KD (fun _ _ h => h))
        clear KD
        go_wp2
        refine ⟨by rfl, trivial, ?_⟩
        go_wp2
        go_ret
        exact ⟨by simp [q2], HK.out⟩
    · have f1 : (x1 == y1) = false := by simpa using q1
      refine Canon.row [0, 1, 2, 4, 5, 3, 6, 7, 8, 9, 10, 11, 12, 14, 15, 13, 16, 17, 18, 19, 20, 21, 22, 23, 25, 26, 24, 27, 28, 29, 30, 31, 32, 33, 34, 36, 37, 35, 38, 39, 40, 41] (by kernel_rfl) (by kernel_rfl) (by repeat (first | (with_reducible exact Safe.body) | (with_reducible apply Safe.then) | (with_reducible apply Safe.inBlock) | (dsimp +zetaDelta only))) ?_
      simp only [Canon.pick, Canon.wpPlan, List.getElem?_toArray, List.getElem?_cons_zero, List.getElem?_cons_succ]
      have KD := (Keeps.refl (fun _ => False) w2).drew
      have d0 := KD.cell d0 (fun h => h)
      have d1 := KD.cell d1 (fun h => h)
      have d2 := KD.cell d2 (fun h => h)
      have d3 := KD.cell d3 (fun h => h)
      have e0 := KD.cell e0 (fun h => h)
      have e1 := KD.cell e1 (fun h => h)
      have e2 := KD.cell e2 (fun h => h)
      have e3 := KD.cell e3 (fun h => h)
      have HK := Lib.hid (hk2.trans KD (fun _ _ h => h))
      clear KD
      go_wp2
      refine ⟨by rfl, trivial, ?_⟩
      go_wp2
      go_ret
      exact ⟨by simp [q1], HK.out⟩
  · have f0 : (x0 == y0) = false := by simpa using q0
    refine Canon.row [0, 1, 2, 4, 5, 3, 6, 7, 8, 9, 10, 11, 12, 14, 15, 13, 16, 17, 18, 19, 20, 21, 22, 23, 25, 26, 24, 27, 28, 29, 30, 31, 32, 33, 34, 36, 37, 35, 38, 39, 40, 41] (by kernel_rfl) (by kernel_rfl) (by repeat (first | (with_reducible exact Safe.body) | (with_reducible apply Safe.then) | (with_reducible apply Safe.inBlock) | (dsimp +zetaDelta only))) ?_
    simp only [Canon.pick, Canon.wpPlan, List.getElem?_toArray, List.getElem?_cons_zero, List.getElem?_cons_succ]
    have KD := (Keeps.refl (fun _ => False) w2).drew
    have d0 := KD.cell d0 (fun h => h)
    have d1 := KD.cell d1 (fun h => h)
    have d2 := KD.cell d2 (fun h => h)
    have d3 := KD.cell d3 (fun h => h)
    have e0 := KD.cell e0 (fun h => h)
    have e1 := KD.cell e1 (fun h => h)
    have e2 := KD.cell e2 (fun h => h)
    have e3 := KD.cell e3 (fun h => h)
    have HK := Lib.hid (hk2.trans KD (fun _ _ h => h))
    clear KD
    go_wp2
    refine ⟨by rfl, trivial, ?_⟩
    go_wp2
    go_ret
    exact ⟨by simp [q0], HK.out⟩
end Go.Proofs.Ytbiohidelhfaiaa
