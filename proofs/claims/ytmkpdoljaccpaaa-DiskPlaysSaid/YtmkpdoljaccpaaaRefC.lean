/-
  The document's disk: Crash.
-/
import Derived.Test.YtmkpdoljaccpaaaRefS
namespace Go.Proofs.Ytmkpdoljaccpaaa
open Go.RowKit Go.Canon Go.Mem Go.Args
open Go.Disk (St)
set_option linter.unusedVariables false
set_option linter.unusedSimpArgs false
theorem info_rwr : (Try.prog.info? 109).map (·.size) = some 3 := by kernel_rfl
theorem left9_step {keep : List Bool} {l : List Wr} {i k : Nat} (h : i < l.length) : left9 keep k (l.drop i) = if l[i].sure = true then l[i] :: left9 keep k (l.drop (i + 1)) else if keep.getD k false = true then l[i] :: left9 keep (k + 1) (l.drop (i + 1)) else left9 keep (k + 1) (l.drop (i + 1)) := by
  rw [List.drop_eq_getElem_cons h]; rfl
/-- What Crash leaves. -/
def CPost (w : World) (x : Nat) (T : Nat → Prop) (r : RefD) : Value → World → Prop := fun v w' => Keeps (fun k => k = x) w w' ∧ ∃ R' : Nat → Prop, RefMem w' x R' T r ∧ (∀ k, R' k → w.heap.size ≤ k ∧ k < w'.heap.size)
set_option maxHeartbeats 3200000 in
set_option maxRecDepth 100000 in
theorem rcrash_c {w : World} {x : Nat} {R T ok : Nat → Prop} {r : RefD} (h : RefMem w x R T r) (hT : ∀ k, T k → k < w.heap.size) (hlen : r.l.length ≤ 1000000) (vk : Value) (keep : List Bool) (hr : Rd w ok vk keep.length (bools keep)) (hkl : keep.length ≤ 1000000) :
    Calls Try.prog 52 #[.pointer (some ⟨x, 0, none⟩), vk] w (Rets (CPost w x T (r.crash keep))) := by
  obtain ⟨v, cs, hbx, nR, nT, hRT, hO, hW⟩ := h
  have c1 : w.cell? ⟨x, 1, none⟩ = some v := (cell_of_row w x 1 _ _ _ hbx).trans rfl
  have HBx := Lib.hid hbx
  have HO := Lib.hid hO
  have HW := Lib.hid hW
  have HR := Lib.hid hr
  have hxw : x < w.heap.size := lt_of hbx
  obtain ⟨A, c, rfl, hc, _⟩ := hO.slice
  obtain ⟨Ak, ck, rfl, hck, _⟩ := hr.slice
  have HC1 := Lib.hid c1
  clear hbx hO hW hr c1
  obtain ⟨rn, l, rleft, rpow⟩ := r
  simp only at *
  unfold RefD.crash
  simp only
  go_enter Try.func52, Try.ntmps52
  go_wp2
  go_loopw [4, 5, 6] (fun lv kv iv wr => ∃ (i k : Nat) (out : List Wr) (cs' : List Value), i ≤ l.length ∧ iv = .int .i64 i ∧ kv = .int .i64 k ∧ k ≤ i ∧ out.length ≤ i ∧ Hid (out ++ left9 keep k (l.drop i) = left9 keep 0 l) ∧ OwnRow wr (fun k => w.heap.size ≤ k) 109 3 lv out.length cs' ∧ WrsRd wr T cs' out ∧ Keeps (fun _ => False) w wr) (fun _ _ iv _ => l.length - (intOf iv).toNat)
  case atStart => exact ⟨0, 0, [], [], Nat.zero_le _, rfl, rfl, Nat.zero_le _, Nat.le_refl _, Lib.hid rfl, OwnRow.nil _ _ _ _, ⟨rfl, fun i p hi => by simp at hi⟩, Keeps.refl _ w⟩
  case round =>
    obtain ⟨i, k, out, cs', hi, rfl, rfl, hki, hol, HF, hOo, hWo, hK⟩ := hrel
    have HOo := Lib.hid hOo
    have HWo := Lib.hid hWo
    have HK := Lib.hid hK
    obtain ⟨Ao, co, rfl, hco, _⟩ := hOo.slice
    have sz := hK.size
    have c1 := hK.cell HC1.out (fun h => h)
    clear hOo hWo hK
    by_cases hlt : i < l.length
    · obtain ⟨g, cap, cur, e, _, _, _, _, _, _⟩ := HO.out.form (by omega)
      cases e
      obtain ⟨u, a0, a1, a2, hu⟩ := HW.out.at HO.out rfl (List.getElem?_eq_getElem hlt)
      have a0 := HK.out.cell a0 (fun h => h)
      have a1 := HK.out.cell a1 (fun h => h)
      have a2 := HK.out.cell a2 (fun h => h)
      have HU := Lib.hid (hu.kept HK.out (fun _ _ h => h))
      obtain ⟨Au, cu, rfl, _⟩ := hu.slice
      have HS := Lib.hid (left9_step (keep := keep) (k := k) hlt)
      clear hu
      generalize l[i] = p at *
      have HCC := Lib.hid (show ∀ j u, [Value.int .i64 p.at_, .slice Au p.b.length cu, .bool p.sure][j]? = some u → wr.cell? ⟨g, i * 3 + j, none⟩ = some u by
        intro j u hj
        match j, hj with
        | 0, hj => cases hj; exact a0
        | 1, hj => cases hj; exact a1
        | 2, hj => cases hj; exact a2)
      clear a0 a1
      cases hs : p.sure with
      | true =>
        rw [if_pos hs] at HS
        rw [hs] at a2
        clear hs
        have KP : ∀ sr, [Value.int .i64 p.at_, .slice Au p.b.length cu, .bool sr].length = 3 := fun _ => rfl
        go_wp2_with (first
          | ((with_reducible refine at_ 33 rfl ?_); go_must (refine step_append_rd (ok2 := fun k => wr.heap.size ≤ k) rfl _ _ _ rfl 109 _ 3 40 Try.underlying93 row_rwr rfl (by decide) (.slice Ao out.length co) out.length cs' rfl (HOo.out.kept hk7 (fun _ _ h => h)) _ 1 [.int .i64 p.at_, .slice Au p.b.length cu, .bool p.sure] rfl (lit_wr hb7 (Nat.le_refl _)) rfl (by intro y hy; simp at hy; rcases hy with rfl | rfl | rfl <;> rfl) (by simp only [maxLen]; omega) (by omega) ?_); intro v8 w8 hO8 hk8; obtain ⟨A8, c8, rfl, _⟩ := hO8.slice)
          | ((with_reducible refine at_ 32 rfl ?_); go_must (refine step_lit rfl 93 _ 1 rfl [.agg #[.int .i64 p.at_, .slice Au p.b.length cu, .bool p.sure]] rfl rfl (by decide) 109 _ 3 Try.underlying93 row2_rwr (by decide) (by decide) (by intro v hv; rw [List.mem_singleton] at hv; subst hv; rfl) ?_); intro w7 hb7 hk7 hs7)
          | ((with_reducible refine at_ 31 rfl ?_); go_must (refine step_load_cells rfl 109 _ rfl g (i * 3) [.int .i64 p.at_, .slice Au p.b.length cu, .bool p.sure] _ rfl HCC.out Try.underlying109 rfl info_rwr ?_)))
        have s7 := hk7.size
        have s8 := hk8.size
        have HK78 := Lib.hid ((hk7.mono (S' := fun k => w.heap.size ≤ k) (fun _ _ h => h.elim)).trans hk8 (fun k _ h => HOo.out.2 k h))
        have HO8 := Lib.hid (hO8.mono (fun k _ h => (by rcases h with h | h; exact h; omega : w.heap.size ≤ k)))
        have HW8 := Lib.hid ((HWo.out.kept HK78.out (fun k h h' => by have := hT k h; omega)).push (p := p) (HU.out.kept HK78.out (fun k h h' => by have := hT k h; omega)))
        clear hO8
        go_roundw
        case rel => exact ⟨i + 1, k, out ++ [p], _, by omega, by go_num, by go_num, by omega, by rw [List.length_append, List.length_singleton]; omega, Lib.hid (by rw [List.append_assoc, ← HF.out, HS.out]; rfl), by rw [List.length_append, List.length_singleton]; exact HO8.out, HW8.out, HK.out.trans HK78.out (fun k hk h => by omega)⟩
        case measure => simp [intOf]; omega
      | false =>
        rw [if_neg (by rw [hs]; simp)] at HS
        rw [hs] at a2
        clear hs
        by_cases hkk : k < keep.length
        · obtain ⟨bb, ob, cb, e1, _, e2, e3⟩ := HR.out.at (by intro e; have := congrArg List.length e; rw [bools, List.length_map, List.length_nil] at this; omega)
          cases e1
          have ckk : w.cell? ⟨bb, ob + k, none⟩ = some (.bool keep[k]) := e3 k _ (by simp [bools, hkk])
          have ckk := HK.out.cell ckk (fun h => h)
          have HKK := Lib.hid (show keep.getD k false = keep[k] by rw [List.getD_eq_getElem?_getD, List.getElem?_eq_getElem hkk]; rfl)
          clear e3
          rw [HKK.out] at HS
          cases hkv : keep[k] with
          | true =>
            rw [hkv] at ckk HS
            rw [if_pos rfl] at HS
            clear hkv HKK
            have KP : ∀ sr, [Value.int .i64 p.at_, .slice Au p.b.length cu, .bool sr].length = 3 := fun _ => rfl
            go_wp2_with (first
              | ((with_reducible refine at_ 53 rfl ?_); go_must (refine step_append_rd (ok2 := fun k => wr.heap.size ≤ k) rfl _ _ _ rfl 109 _ 3 40 Try.underlying93 row_rwr rfl (by decide) (.slice Ao out.length co) out.length cs' rfl (HOo.out.kept hk7 (fun _ _ h => h)) _ 1 [.int .i64 p.at_, .slice Au p.b.length cu, .bool p.sure] rfl (lit_wr hb7 (Nat.le_refl _)) rfl (by intro y hy; simp at hy; rcases hy with rfl | rfl | rfl <;> rfl) (by simp only [maxLen]; omega) (by omega) ?_); intro v8 w8 hO8 hk8; obtain ⟨A8, c8, rfl, _⟩ := hO8.slice)
              | ((with_reducible refine at_ 52 rfl ?_); go_must (refine step_lit rfl 93 _ 1 rfl [.agg #[.int .i64 p.at_, .slice Au p.b.length cu, .bool p.sure]] rfl rfl (by decide) 109 _ 3 Try.underlying93 row2_rwr (by decide) (by decide) (by intro v hv; rw [List.mem_singleton] at hv; subst hv; rfl) ?_); intro w7 hb7 hk7 hs7)
              | ((with_reducible refine at_ 51 rfl ?_); go_must (refine step_load_cells rfl 109 _ rfl g (i * 3) [.int .i64 p.at_, .slice Au p.b.length cu, .bool p.sure] _ rfl HCC.out Try.underlying109 rfl info_rwr ?_)))
            have s7 := hk7.size
            have s8 := hk8.size
            have HK78 := Lib.hid ((hk7.mono (S' := fun k => w.heap.size ≤ k) (fun _ _ h => h.elim)).trans hk8 (fun k _ h => HOo.out.2 k h))
            have HO8 := Lib.hid (hO8.mono (fun k _ h => (by rcases h with h | h; exact h; omega : w.heap.size ≤ k)))
            have HW8 := Lib.hid ((HWo.out.kept HK78.out (fun k h h' => by have := hT k h; omega)).push (p := p) (HU.out.kept HK78.out (fun k h h' => by have := hT k h; omega)))
            clear hO8
            go_roundw
            case rel => exact ⟨i + 1, k + 1, out ++ [p], _, by omega, by go_num, by go_num, by omega, by rw [List.length_append, List.length_singleton]; omega, Lib.hid (by rw [List.append_assoc, ← HF.out, HS.out]; rfl), by rw [List.length_append, List.length_singleton]; exact HO8.out, HW8.out, HK.out.trans HK78.out (fun k hk h => by omega)⟩
            case measure => simp [intOf]; omega
          | false =>
            rw [hkv] at ckk HS
            rw [if_neg (by simp)] at HS
            clear hkv HKK
            go_wp2
            go_roundw
            case rel => exact ⟨i + 1, k + 1, out, cs', by omega, by go_num, by go_num, by omega, by omega, Lib.hid (by rw [← HS.out]; exact HF.out), HOo.out, HWo.out, HK.out⟩
            case measure => simp [intOf]; omega
        · have HKK := Lib.hid (show keep.getD k false = false by rw [List.getD_eq_getElem?_getD, List.getElem?_eq_none (by omega)]; rfl)
          rw [HKK.out, if_neg (by simp)] at HS
          go_wp2
          go_roundw
          case rel => exact ⟨i + 1, k + 1, out, cs', by omega, by go_num, by go_num, by omega, by omega, Lib.hid (by rw [← HS.out]; exact HF.out), HOo.out, HWo.out, HK.out⟩
          case measure => simp [intOf]; omega
    · obtain rfl : i = l.length := by omega
      have HE := Lib.hid (show out = left9 keep 0 l by have := HF.out; rwa [List.drop_length, show left9 keep k [] = [] from rfl, List.append_nil] at this)
      have hbw := HK.out.heap HBx.out (fun h => h)
      have HM9 := Lib.hid (fun w9 (hb9 : w9.heap[x]? = some (.cells [Value.int .i64 rn, .slice Ao out.length co, .int .i64 rleft, .bool rpow].toArray 95 (0, 0))) (hk9 : Keeps (fun k => k = x) wr w9) => (show RefMem w9 x (fun k => w.heap.size ≤ k ∧ k < wr.heap.size) T ⟨rn, out, rleft, rpow⟩ from
        ⟨_, cs', hb9, fun h => by omega, nT, fun k h h' => by (have := hT k h'; omega), (HOo.out.mono (fun k hk h => ⟨h, hk⟩)).kept hk9 (fun k h e => by omega), HWo.out.kept hk9 (fun k h e => by subst e; exact nT h)⟩))
      go_wp2_with (first
        | ((with_reducible refine at_store 4 (.tmp 67) (.const (.bool true)) rfl ?_); go_must (refine step_store1 rfl _ _ _ rfl x 3 (.bool true) _ _ rfl rfl rfl hb3 (by simp) info_bool ?_); intro w4 hb4 hk4 hs4)
        | ((with_reducible refine at_store 3 (.tmp 65) (.const (.int .i64 (-1))) rfl ?_); go_must (refine step_store1 rfl _ _ _ rfl x 2 (.int .i64 (-1)) _ _ rfl rfl rfl hb2 (by simp) info_int ?_); intro w3 hb3 hk3 hs3)
        | (go_at_call 68; refine Rets.use (settle_c (HM9.out w9 hb9 hk9) (fun k h => by have := hT k h; have := hk9.size; omega) (by simp only; omega)) ?_; rintro v2 w2 ⟨hk2, R', ⟨vv, cs2, hb2, nR2, nT2, hRT2, hO2, hW2⟩, hR'⟩)
        | ((with_reducible refine at_store 93 (.tmp 59) (.tmp 57) rfl ?_); go_must (refine step_store1 rfl _ _ _ rfl x 1 (.slice Ao out.length co) _ _ rfl rfl rfl hbw (by simp) info_rwrs ?_); intro w9 hb9 hk9 hs9))
      refine void_end rfl rfl ?_
      have k24 := hk3.trans hk4 (fun k _ e => e)
      refine ⟨(((HK.out.mono (S' := fun k => k = x) (fun _ _ h => h.elim)).trans hk9 (fun _ _ h => h)).trans hk2 (fun _ _ h => h)).trans k24 (fun _ _ h => h), R', ⟨vv, cs2, ?_, nR2, nT2, hRT2, ?_, ?_⟩, fun k h => ⟨?_, ?_⟩⟩
      · rw [← HE.out]; exact hb4
      · simp only at hO2 ⊢
        rw [← HE.out]
        exact hO2.kept k24 (fun k h e => by subst e; exact nR2 h)
      · simp only at hW2 ⊢
        rw [← HE.out]
        exact hW2.kept k24 (fun k h e => by subst e; exact nT2 h)
      · have := (hR' k h).1; have := hk9.size; omega
      · have := (hR' k h).2; have := k24.size; omega
end Go.Proofs.Ytmkpdoljaccpaaa
