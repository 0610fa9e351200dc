/-
  Targets: lives.
-/
import Derived.Test.YtomnkdjlljobeaaRouteQ
namespace Go.Proofs.Ytomnkdjlljobeaa
open Go.RowKit Go.Canon Go.Mem
set_option linter.unusedVariables false
set_option linter.unusedSimpArgs false
theorem isB_dec {l : List Int} (h : l.all (fun x => decide (0 ≤ x ∧ x < 256)) = true) : IsB l := fun x hx => of_decide_eq_true (List.all_eq_true.1 h x hx)
theorem liveP : parseP ⟨[71, 69, 84], [47, 106, 111, 98, 115, 47, 55], [], []⟩ = (⟨5, [], [], [], 7, 0⟩, 200) := by kernel_rfl
set_option maxHeartbeats 1600000 in
set_option maxRecDepth 100000 in
theorem lives23_c (w : World) : Calls Try.prog 31 #[] w (Rets (Yes w)) := by
  have HP := Lib.hid (fun w => parse23_c (w := w) (ok := fun _ => True) ⟨[71, 69, 84], [47, 106, 111, 98, 115, 47, 55], [], []⟩ ⟨isB_dec (by decide), isB_dec (by decide), isB_dec (by decide), isB_dec (by decide)⟩ (by decide) (by decide) (.slice none 0 0) (Rd.nil _ _))
  rw [liveP] at HP
  go_enter Try.func31, Try.ntmps31
  go_wp2_with (first
    | ((with_reducible refine at_store 58 (.tmp 1) (.tmp 6) rfl ?_); go_must (refine step_store rfl _ _ _ rfl w2.heap.size 0 (askC ⟨5, [], [], [], 7, 0⟩ (.slice A2 0 c2)) _ _ rfl rfl hb3 (by simp [askC_len]) (info_askC _ _) (by simp [askC, Value.oneCell']) ?_); intro w4 hb4 hk4 hs4; rw [put_whole (by rfl)] at hb4; have c0 : w4.cell? ⟨w2.heap.size, 0, none⟩ = some (.int .i64 5) := (cell_of_row w4 _ 0 _ _ _ hb4).trans rfl; have c4 : w4.cell? ⟨w2.heap.size, 4, none⟩ = some (.int .i64 7) := (cell_of_row w4 _ 4 _ _ _ hb4).trans rfl)
    | ((with_reducible refine at_ 1 rfl ?_); go_must (refine step_alloc rfl _ rfl _ (askC zeroA (.slice none 0 0)) row_ask rfl ?_); intro w3 hb3 hk3 hs3)
    | (go_at_call 27; go_loud (refine Rets.use (HP.out _) ?_); rintro _ w2 ⟨hk2, u2, rfl, hO2⟩; obtain ⟨A2, c2, rfl, _⟩ := hO2.slice))
  go_ret
  exact ⟨rfl, (hk2.trans hk3 (fun _ _ h => h)).trans hk4 (fun _ hk h => by have := hk2.size; omega)⟩
end Go.Proofs.Ytomnkdjlljobeaa
