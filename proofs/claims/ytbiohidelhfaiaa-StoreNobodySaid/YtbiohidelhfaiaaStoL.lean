/-
  A store lives.
-/
import Derived.Test.YtbiohidelhfaiaaStoO
import Derived.Test.YtbiohidelhfaiaaQuiet
import Derived.Lib.SlBytesConst
namespace Go.Proofs.Ytbiohidelhfaiaa
open Go.RowKit Go.Canon Go.Mem Go.Args
open Go.Disk (St)
open Go.Proofs.Ytbiohidelhfaiaa.Sto (Chg)
set_option linter.unusedVariables false
set_option linter.unusedSimpArgs false
def s0 : StoS := ⟨⟨[], 0, false⟩, 9, [], 0, 0⟩
theorem openS_two : openS (fresh 2) 9 = (0, some s0, fresh 2) := by
  unfold openS
  rw [if_neg (by decide), openP_two]
  rfl
def c0 : Chg := ⟨[97], false, [49]⟩
theorem chk_c0 : Sto.chk [c0] = 0 := by decide
theorem enc_c0 : Sto.encL [c0] = [1, 0, 1, 97, 1, 49] := by decide
theorem commit_two : (commitP (fresh 2) s0 [c0]).1 = 0 ∧ (commitP (fresh 2) s0 [c0]).2.2.u = 2 := by
  have h1 : ¬ (s0.q < Sto.thenGo s0.M s0.u [c0] ∧ s0.u < Sto.thenGo s0.M s0.u [c0]) := by decide
  have h2 : (appendP (fresh 2) s0.L (Sto.encL [c0])).1 = 0 := by
    rw [enc_c0]
    have hl := lay_two (putF ((([] : List (List Int)).length : Int) + 1) [1, 0, 1, 97, 1, 49]) (by rw [putF_len]; decide) (by rw [putF_len]; decide)
    unfold appendP
    rw [if_neg (by simp [s0]), if_neg (by simp), if_neg (by simp [fresh, spanF, s0])]
    rw [show s0.L.texts.length = ([] : List (List Int)).length from rfl, show s0.L.next = 0 from rfl, if_pos hl]
  unfold commitP
  rw [if_neg (fun h => h chk_c0), if_neg h1, if_neg (fun h => h h2)]
  exact ⟨rfl, by decide⟩
section
variable {w : World} {x bm n : Nat} {R : Nat → Prop} {lv : Value} {q : Int} {s : Sto.Mp × Int}
theorem used_c (h : SIs w x bm R lv q n s) : Calls Try.prog 35 #[.pointer (some ⟨x, 0, none⟩)] w (Rets (Only (.int .i64 s.2) w)) := by
  have c2 := h.c2
  clear h
  go_enter Try.func35, Try.ntmps35
  go_wp2
  go_ret
  exact ⟨rfl, rfl⟩
theorem used_nil (w : World) : Calls Try.prog 35 #[.pointer none] w (Rets (Only (.int .i64 0) w)) := by
  go_enter Try.func35, Try.ntmps35
  go_wp2
  go_ret
  exact ⟨rfl, rfl⟩
end
theorem c0B : ChgB [c0] := fun c hc => by
  rw [List.mem_singleton] at hc
  subst hc
  exact ⟨fun x hx => by rw [show c0.key = [97] from rfl, List.mem_singleton] at hx; subst hx; decide, fun x hx => by rw [show c0.val = [49] from rfl, List.mem_singleton] at hx; subst hx; decide, by decide, by decide⟩
theorem one_chg {w2 w3 : World} {b : Nat} {fr : Nat × Nat} (hb : w3.heap[b]? = some (.cells (chgC c0 (.slice (some ⟨w2.heap.size, 0, none⟩) 1 1)).toArray 41 (0, 0))) (hbb : b = w2.heap.size + 1) (h : w3.heap[w2.heap.size]? = some (.cells #[.int .u8 49] 5 fr)) : Chgs w3 (fun j => w2.heap.size ≤ j ∧ j < w3.heap.size) (.slice (some ⟨b, 0, none⟩) 1 1) [c0] := by
  have h1 := lt_of hb
  have h2 := lt_of h
  refine ⟨some ⟨b, 0, none⟩, 1, rfl, Nat.le_refl _, fun h => (by cases h), fun i d hi => ?_⟩
  obtain rfl : i = 0 := by have := (List.getElem?_eq_some_iff.1 hi).1; simp at this; omega
  simp only [List.getElem?_cons_zero, Option.some.injEq] at hi
  subst hi
  refine ⟨b, 0, rfl, ⟨by omega, h1⟩, .slice (some ⟨w2.heap.size, 0, none⟩) 1 1, (cell_of_row w3 b 0 _ _ _ hb).trans rfl, (cell_of_row w3 b 1 _ _ _ hb).trans rfl, (cell_of_row w3 b 2 _ _ _ hb).trans rfl, ?_⟩
  exact ⟨_, _, rfl, Nat.le_refl _, fun h => (by cases h), .inr ⟨_, _, rfl, ⟨Nat.le_refl _, h2⟩, fun j u hu => by rw [cell_of_row _ _ _ _ _ _ h, Nat.zero_add]; simpa [Disk.bytes8, c0] using hu⟩⟩
set_option maxHeartbeats 3200000 in
set_option maxRecDepth 100000 in
theorem lives11_c (w : World) : Calls Try.prog 20 #[] w (Rets (Yes w)) := by
  have HO := Lib.hid openS_two
  have HC := Lib.hid commit_two
  have HB := Lib.hid (flat_fresh 2)
  obtain ⟨r, hr⟩ : ∃ r, r = commitP (fresh 2) s0 [c0] := ⟨_, rfl⟩
  have HR := Lib.hid hr
  rw [← hr] at HC
  clear hr
  have HP2 := Lib.hid (show ∀ L, (openP (fresh 2)).2.1 = some L → L.texts.length ≤ 4096 ∧ ∀ t ∈ L.texts, IsB t ∧ t.length ≤ 1000000 from fun L h => by
    rw [openP_two] at h
    cases h
    exact ⟨by decide, fun t ht => by cases ht⟩)
  have kc := fun (w : World) (C : Array Value) (n c : Nat) => Lib.run_convert_bytes_const (P := Try.prog) w 23 5 C n c Try.underlying23 Try.underlying5
  go_enter Try.func20, Try.ntmps20
  go_wp2_with (first
    | (go_at_call 23; go_loud (refine Rets.use (dNew_c 2 (by decide) (by decide) _) ?_); rintro v1 w1 ⟨hk1, g, rfl, hd1⟩)
    | (go_at_call 24; go_loud (refine Rets.use (open_c (W := w) (w := w1) (g := g) (s := fresh 2) ⟨hk1, _, hd1, fun k h => h⟩ 9 (by decide) HB.out HP2.out) ?_); intro v2 w2 hp2; rw [HO.out] at hp2; obtain ⟨x, rfl, hS2⟩ := hp2)
    | ((with_reducible refine at_ 21 rfl ?_); go_must (refine step_lit rfl 22 _ 1 rfl [.agg (chgC c0 (.slice (some ⟨w2.heap.size, 0, none⟩) 1 1)).toArray] rfl rfl (by decide) 41 _ 3 Try.underlying22 row2_chg (by decide) (by decide) (by intro v hv; rw [List.mem_singleton] at hv; subst hv; exact chgC_cells _ _ rfl) ?_); intro w3 hb3 hk3 hs3; go_loud (rw [chgC_flat _ _ rfl, show (w2.alloc (.cells #[.int .u8 49] 5 (1, 2))).heap.size = w2.heap.size + 1 by simp] at hb3); have hk23 : Keeps (fun _ => False) w2 w3 := ((Keeps.refl _ w2).alloc _).trans hk3 (fun _ _ h => h); go_loud (have hc3 := (one_chg hb3 rfl (hk3.heap (heap_alloc_new w2 _) (fun h => h)) : Chgs w3 (fun j => w2.heap.size ≤ j ∧ j < w3.heap.size) _ [c0])))
    | (go_at_call 26; go_loud (refine Rets.use (commit_c hS2 hk23 (by decide) (by decide) (by decide) (by decide) ⟨by decide, by decide⟩ [c0] c0B (by decide) _ hc3 (fun k h => ⟨.inr h.1, h.2⟩)) ?_); rintro v4 w4 hp4; rw [← HR.out] at hp4; obtain ⟨rfl, hS4, hk4⟩ := hp4; rw [HC.out.1])
    | (go_at_call 35; go_loud (refine Rets.use (used_c hS4.2.choose_spec.choose_spec.choose_spec.choose_spec.choose_spec.s) ?_); rintro _ _ ⟨rfl, rfl⟩; simp only [HC.out.2]))
  go_ret
  exact ⟨rfl, hS4.1⟩
end Go.Proofs.Ytbiohidelhfaiaa
