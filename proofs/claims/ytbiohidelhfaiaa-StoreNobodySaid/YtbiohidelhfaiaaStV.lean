/-
  The walks of Var.
-/
import Derived.Test.YtbiohidelhfaiaaStN
import Derived.Test.YtbiohidelhfaiaaOut
namespace Go.Proofs.Ytbiohidelhfaiaa
open Go.RowKit Go.Canon Go.Mem
set_option linter.unusedVariables false
set_option linter.unusedSimpArgs false
theorem or_top (y : Nat) : bits .or .u8 ((y : Int) % 256) 128 = 128 + ((y % 128 : Nat) : Int) := by
  have h : ∀ m : Fin 256, bits .or .u8 ((m.val : Nat) : Int) 128 = 128 + ((m.val % 128 : Nat) : Int) := by decide +kernel
  have := h ⟨y % 256, Nat.mod_lt _ (by decide)⟩
  simp only at this
  rw [show ((y : Int) % 256) = ((y % 256 : Nat) : Int) by omega, this]
  omega
set_option maxHeartbeats 1600000 in
set_option maxRecDepth 100000 in
theorem wvar_c (x : Nat) (hx : x < 18446744073709551616) (w : World) : Calls Try.prog 40 #[.int .u64 x] w (Rets fun v w' => Out w w' v (Sto.varF x)) := by
  go_enter Try.func40, Try.ntmps40
  go_wp2
  go_loopw [0, 3] (fun xv bv wr => ∃ (f y : Nat) (p : List Int), xv = .int .u64 y ∧ y < 18446744073709551616 ∧ p.length + f ≤ 9 ∧ Out w wr bv p ∧ Hid (Sto.varF x = p ++ Sto.var f y ∧ y < 128 ^ (f + 1))) (fun xv _ _ => (intOf xv).toNat)
  case atStart =>
    have h10 : (128 : Nat) ^ (9 + 1) = 1180591620717411303424 := by decide
    exact ⟨9, x, [], rfl, hx, by decide, Out.nil w, Lib.hid ⟨rfl, by omega⟩⟩
  case round =>
    obtain ⟨f, y, p, rfl, hy, hpf, hO, HV⟩ := hrel
    have HO := Lib.hid hO
    obtain ⟨A, c, rfl, _⟩ := hO.1.slice
    clear hO
    by_cases hlt : y < 128
    · have HE := Lib.hid (show Sto.varF x = p ++ [(y : Int)] by
        rw [HV.out.1]
        cases f with
        | zero => rfl
        | succ f => rw [Sto.var, if_pos hlt])
      go_wp2_with (first
        | ((with_reducible refine at_ 17 rfl ?_); go_must (refine step_lit rfl 23 _ 1 rfl [.int .u8 (y : Int)] rfl rfl (by decide) 5 _ 1 Try.underlying23 row2_byte (by decide) (by decide) (by intro v hv; rw [List.mem_singleton] at hv; subst hv; rfl) ?_); intro w2 hb2 hk2 hs2)
        | ((with_reducible refine at_ 18 rfl ?_); go_must (refine out_rd (W := w) rfl _ _ rfl (.slice A p.length c) p rfl (HO.out.kept hk2) _ 1 [(y : Int)] rfl (lit_one hb2 (Nat.le_refl _)) rfl (by simp only [List.length_cons, List.length_nil]; omega) ?_); intro v3 w3 hO3 hk3))
      go_ret
      rw [HE.out]
      exact hO3
    · obtain ⟨f, rfl⟩ : ∃ g, f = g + 1 := by
        cases f with
        | zero => have := HV.out.2; simp at this; omega
        | succ f => exact ⟨f, rfl⟩
      have HV2 := Lib.hid (show Sto.varF x = (p ++ [128 + ((y % 128 : Nat) : Int)]) ++ Sto.var f (y / 128) ∧ y / 128 < 128 ^ (f + 1) by
        refine ⟨?_, ?_⟩
        · rw [HV.out.1, Sto.var, if_neg hlt, List.append_assoc]; rfl
        · have h1 := HV.out.2
          have hp : (128 : Nat) ^ (f + 1 + 1) = 128 * 128 ^ (f + 1) := by rw [Nat.pow_succ]; omega
          rw [Nat.div_lt_iff_lt_mul (by decide)]; omega)
      have HOr := Lib.hid (or_top y)
      go_wp2_with (first
        | ((with_reducible refine at_ 10 rfl ?_); go_must (refine step_lit rfl 23 _ 1 rfl [.int .u8 (bits .or .u8 ((y : Int) % 256) 128)] rfl rfl (by decide) 5 _ 1 Try.underlying23 row2_byte (by decide) (by decide) (by intro v hv; rw [List.mem_singleton] at hv; subst hv; rfl) ?_); intro w2 hb2 hk2 hs2; rw [HOr.out] at hb2)
        | ((with_reducible refine at_ 11 rfl ?_); go_must (refine out_rd (W := w) rfl _ _ rfl (.slice A p.length c) p rfl (HO.out.kept hk2) _ 1 [128 + ((y % 128 : Nat) : Int)] rfl (lit_one hb2 (Nat.le_refl _)) rfl (by simp only [List.length_cons, List.length_nil]; omega) ?_); intro v3 w3 hO3 hk3))
      go_roundw
      case rel => exact ⟨f, y / 128, _, by go_num, by omega, by simp only [List.length_append, List.length_cons, List.length_nil]; omega, hO3, HV2⟩
      case measure => simp [intOf]; omega
theorem lit_out {W w : World} {x : Int} {g : Nat} (hb : w.heap[g]? = some (.cells ([Value.int .u8 x].flatMap fun v => v.cells.toList).toArray 5 (0, 0))) (hg : W.heap.size ≤ g) (hk : Keeps (fun _ => False) W w) : Out W w (.slice (some ⟨g, 0, none⟩) 1 1) [x] := ⟨own_blk (cs := [Value.int .u8 x]) hb rfl (by decide) (by decide) hg, hk⟩
set_option maxHeartbeats 1600000 in
set_option maxRecDepth 100000 in
theorem rvar_c : ∀ (f x : Nat), x < 18446744073709551616 → x < 128 ^ (f + 1) → f ≤ 9 → ∀ w : World, Calls Try.prog 41 #[.int .u64 x] w (Rets fun v w' => Out w w' v (Sto.var f x)) := by
  intro f
  induction f with
  | zero =>
    intro x hx hx2 hf w
    have hlt : x < 128 := by simpa using hx2
    have HE := Lib.hid (show Sto.var 0 x = [(x : Int)] from rfl)
    clear hx2
    go_enter Try.func41, Try.ntmps41
    go_wp2_with ((with_reducible refine at_ 7 rfl ?_); go_must (refine step_lit rfl 23 _ 1 rfl [.int .u8 (x : Int)] rfl rfl (by decide) 5 _ 1 Try.underlying23 row2_byte (by decide) (by decide) (by intro v hv; rw [List.mem_singleton] at hv; subst hv; rfl) ?_); intro w2 hb2 hk2 hs2)
    go_ret
    rw [HE.out]
    exact lit_out hb2 (Nat.le_refl _) hk2
  | succ f ih =>
    intro x hx hx2 hf w
    by_cases hlt : x < 128
    · have HE := Lib.hid (show Sto.var (f + 1) x = [(x : Int)] by rw [Sto.var, if_pos hlt])
      clear hx2 ih
      go_enter Try.func41, Try.ntmps41
      go_wp2_with ((with_reducible refine at_ 7 rfl ?_); go_must (refine step_lit rfl 23 _ 1 rfl [.int .u8 (x : Int)] rfl rfl (by decide) 5 _ 1 Try.underlying23 row2_byte (by decide) (by decide) (by intro v hv; rw [List.mem_singleton] at hv; subst hv; rfl) ?_); intro w2 hb2 hk2 hs2)
      go_ret
      rw [HE.out]
      exact lit_out hb2 (Nat.le_refl _) hk2
    · have hp : (128 : Nat) ^ (f + 1 + 1) = 128 * 128 ^ (f + 1) := by rw [Nat.pow_succ]; omega
      have HE := Lib.hid (show Sto.var (f + 1) x = [128 + ((x % 128 : Nat) : Int)] ++ Sto.var f (x / 128) by rw [Sto.var, if_neg hlt]; rfl)
      have HI := Lib.hid (by
        have := ih (x / 128) (by omega) (by rw [Nat.div_lt_iff_lt_mul (by decide)]; omega) (by omega)
        rwa [show (((x / 128 : Nat)) : Int) = (x : Int) / 128 by omega] at this : ∀ w : World, Calls Try.prog 41 #[.int .u64 ((x : Int) / 128)] w (Rets fun v w' => Out w w' v (Sto.var f (x / 128))))
      have hvl : (Sto.var f (x / 128)).length ≤ f + 1 := by
        have : ∀ f y, (Sto.var f y).length ≤ f + 1 := by
          intro f
          induction f with
          | zero => intro y; simp [Sto.var]
          | succ f ih => intro y; rw [Sto.var]; split <;> simp; exact ih _
        exact this _ _
      have hm : ((x % 128 : Nat) : Int) = (x : Int) % 128 := by omega
      rw [hm] at HE
      generalize Sto.var f (x / 128) = vr at *
      clear hx2 ih hp hm
      go_enter Try.func41, Try.ntmps41
      go_wp2_with (first
        | ((with_reducible refine at_ 12 rfl ?_); go_must (refine step_lit rfl 23 _ 1 rfl [.int .u8 (128 + (x : Int) % 128)] rfl rfl (by decide) 5 _ 1 Try.underlying23 row2_byte (by decide) (by decide) (by intro v hv; rw [List.mem_singleton] at hv; subst hv; rfl) ?_); intro w2 hb2 hk2 hs2)
        | (go_at_call 41; refine Rets.use (HI.out _) ?_; rintro v3 w3 hO3)
        | ((with_reducible refine at_ 16 rfl ?_); go_must (refine out_rd (W := w) rfl _ _ rfl _ [128 + (x : Int) % 128] rfl ((lit_out (W := w) hb2 (Nat.le_refl _) hk2).kept hO3.2) v3 _ vr rfl hO3.1.rd rfl (by simp only [List.length_cons, List.length_nil]; omega) ?_); intro v4 w4 hO4 hk4))
      go_ret
      rw [HE.out]
      exact hO4
theorem rvarF_c (x : Nat) (hx : x < 18446744073709551616) (w : World) : Calls Try.prog 41 #[.int .u64 x] w (Rets fun v w' => Out w w' v (Sto.varF x)) :=
  rvar_c 9 x hx (by have : (128 : Nat) ^ (9 + 1) = 1180591620717411303424 := by decide
                    omega) (Nat.le_refl _) w
end Go.Proofs.Ytbiohidelhfaiaa
