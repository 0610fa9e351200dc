/-
  Targets, the document's: names, numbers.
-/
import Derived.Test.YtomnkdjlljobeaaRouteP
namespace Go.Proofs.Ytomnkdjlljobeaa
open Go.RowKit Go.Canon Go.Mem
set_option linter.unusedVariables false
set_option linter.unusedSimpArgs false
set_option maxHeartbeats 1600000 in
set_option maxRecDepth 100000 in
theorem names23_c {w : World} {ok : Nat → Prop} (ps : List (List Int)) (hB : ∀ p ∈ ps, IsB p ∧ p.length ≤ 1000000) (hn : ps.length ≤ 2) (v : Value) (hr : Rd w ok v ps.length (strs ps)) : Calls Try.prog 56 #[v] w (Rets (Only (.bool (ps.all nameF)) w)) := by
  obtain ⟨A, c, rfl, hc, _⟩ := hr.slice
  have HR := Lib.hid hr
  have HB := Lib.hid hB
  clear hr hB
  go_enter Try.func56, Try.ntmps56
  go_wp2
  go_loopw [3] (fun i wr => ∃ k : Nat, k ≤ ps.length ∧ i = .int .i64 k ∧ wr = w ∧ Hid (okP false (ps.take k) = true)) (fun i _ => ps.length - (intOf i).toNat)
  case atStart => exact ⟨0, Nat.zero_le _, rfl, rfl, Lib.hid rfl⟩
  case round =>
    obtain ⟨k, hk, rfl, hw, HO⟩ := hrel
    subst wr
    by_cases hlt : k < ps.length
    · obtain ⟨b, o, c', e, _, _, hcell⟩ := HR.out.at (by intro e; have := congrArg List.length e; rw [strs_len, List.length_nil] at this; omega)
      cases e
      have cx : w.cell? ⟨b, o + k, none⟩ = some (.string (str ps[k])) := hcell k _ (strs_get hlt)
      have hx := HB.out ps[k] (List.getElem_mem _)
      have HT := Lib.hid (okP_take (num := false) hlt)
      have HNo := Lib.hid (okP_no (num := false) hlt)
      have HC := Lib.hid (fun w => rname_c ps[k] hx.1 hx.2 w)
      simp only [Bool.false_eq_true, if_false] at HT HNo
      clear hcell
      generalize ps[k] = p at *
      cases hp : nameF p with
      | false =>
        have HF := Lib.hid (HNo.out hp)
        rw [hp] at HC
        clear hx HT HNo
        go_wp2_with (go_at_call 60; go_loud (refine Rets.use (HC.out _) ?_); rintro _ _ ⟨rfl, rfl⟩)
        go_ret
        exact ⟨by rw [show ps.all nameF = false from HF.out] <;> rfl, rfl⟩
      | true =>
        have HO2 := Lib.hid (show okP false (ps.take (k + 1)) = true by rw [HT.out, HO.out, hp]; rfl)
        rw [hp] at HC
        clear hx HT HNo
        go_wp2_with (go_at_call 60; go_loud (refine Rets.use (HC.out _) ?_); rintro _ _ ⟨rfl, rfl⟩)
        go_roundw
        case rel => exact ⟨k + 1, by omega, by go_num, by trivial, HO2⟩
        case measure => simp [intOf]; omega
    · obtain rfl : k = ps.length := by omega
      have HF := Lib.hid (show ps.all nameF = true by have := HO.out; rwa [List.take_length] at this)
      go_wp2
      go_ret
      exact ⟨by rw [HF.out] <;> rfl, rfl⟩
def NumsPost (w : World) (ps : List (List Int)) : Value → World → Prop := fun v w' => Keeps (fun _ => False) w w' ∧ v = .tuple #[.int .i64 (if okP true ps = true then numAt ps 0 else 0), .int .i64 (if okP true ps = true then numAt ps 1 else 0), .bool (okP true ps)]
theorem nums_next (ps : List (List Int)) (k : Nat) (h : k < ps.length) (h2 : k < 2) : [Value.int .i64 (numAt (ps.take k) 0), .int .i64 (numAt (ps.take k) 1)].set k (.int .i64 (readD ps[k]).1) = [.int .i64 (numAt (ps.take (k + 1)) 0), .int .i64 (numAt (ps.take (k + 1)) 1)] := by
  match k, h2, ps, h with
  | 0, _, p :: r, _ => rfl
  | 1, _, p :: q :: r, _ => rfl
set_option maxHeartbeats 1600000 in
set_option maxRecDepth 100000 in
theorem numbers23_c {w : World} {ok : Nat → Prop} (ps : List (List Int)) (hB : ∀ p ∈ ps, IsB p ∧ p.length ≤ 1000000) (hn : ps.length ≤ 2) (v : Value) (hr : Rd w ok v ps.length (strs ps)) : Calls Try.prog 55 #[v] w (Rets (NumsPost w ps)) := by
  obtain ⟨A, c, rfl, hc, _⟩ := hr.slice
  have HR := Lib.hid hr.lt
  have HB := Lib.hid hB
  clear hr hB
  go_enter Try.func55, Try.ntmps55
  go_wp2
  refine name_ fun w1 hw1 => ?_
  obtain ⟨hb1, hk1, hs1⟩ := alloc1 hw1
  clear hw1
  have HR1 := Lib.hid (HR.out.kept hk1 (fun _ _ h => h))
  have HK1 := Lib.hid hk1
  have H1 := Lib.hid hb1
  clear hk1 hb1 hs1 HR
  go_loopw [6, 7, 8] (fun i q1 q2 wr => ∃ k : Nat, k ≤ ps.length ∧ i = .int .i64 k ∧ Hid (okP true (ps.take k) = true) ∧ wr.heap[w.heap.size]? = some (.cells [Value.int .i64 (numAt (ps.take k) 0), .int .i64 (numAt (ps.take k) 1)].toArray 98 (0, 0)) ∧ Keeps (· = w.heap.size) w1 wr) (fun i _ _ _ => ps.length - (intOf i).toNat)
  case atStart => exact ⟨0, Nat.zero_le _, rfl, Lib.hid rfl, H1.out, Keeps.refl _ _⟩
  case round =>
    obtain ⟨k, hk, rfl, HO, hb, hkr⟩ := hrel
    have HKr := Lib.hid (HK1.out.trans hkr (fun k hk h => by omega))
    have hkr2 := Lib.hid hkr
    have H1 := Lib.hid hb
    have HR2 := Lib.hid (HR1.out.kept hkr (fun k h h' => by have := h.2; omega))
    have n0 : wr.cell? ⟨w.heap.size, 0, none⟩ = some (.int .i64 (numAt (ps.take k) 0)) := (cell_of_row wr _ 0 _ _ _ hb).trans rfl
    have n1 : wr.cell? ⟨w.heap.size, 1, none⟩ = some (.int .i64 (numAt (ps.take k) 1)) := (cell_of_row wr _ 1 _ _ _ hb).trans rfl
    clear hb hkr HR1
    by_cases hlt : k < ps.length
    · obtain ⟨b, o, c', e, _, _, hcell⟩ := HR2.out.at (by intro e; have := congrArg List.length e; rw [strs_len, List.length_nil] at this; omega)
      cases e
      have cx : wr.cell? ⟨b, o + k, none⟩ = some (.string (str ps[k])) := hcell k _ (strs_get hlt)
      have hx := HB.out ps[k] (List.getElem_mem _)
      have HT := Lib.hid (okP_take (num := true) hlt)
      have HNo := Lib.hid (okP_no (num := true) hlt)
      have HN := Lib.hid (nums_next ps k hlt (by omega))
      have HC := Lib.hid (fun w => rreadDec_c ps[k] hx.1 hx.2 w)
      simp only [if_true] at HT HNo
      clear hcell n0 n1
      have hk2 : k < 2 := by omega
      generalize ps[k] = p at *
      cases hp : (readD p).2 with
      | false =>
        have HF := Lib.hid (HNo.out hp)
        rw [hp] at HC
        clear hx HT HNo
        go_wp2_with (go_at_call 59; go_loud (refine Rets.use (HC.out _) ?_); rintro _ _ ⟨rfl, rfl⟩)
        go_ret3
        exact ⟨HKr.out, by simp only [HF.out]; rfl⟩
      | true =>
        have HO2 := Lib.hid (show okP true (ps.take (k + 1)) = true by rw [HT.out, HO.out, hp]; rfl)
        rw [hp] at HC
        clear hx HT HNo
        generalize (readD p).1 = n at *
        go_wp2_with (first
          | (go_at_call 59; go_loud (refine Rets.use (HC.out _) ?_); rintro _ _ ⟨rfl, rfl⟩)
          | ((with_reducible refine at_store 3 (.tmp 27) (.tmp 26) rfl ?_); go_must (refine step_store1 rfl _ _ _ rfl w.heap.size k (.int .i64 n) _ _ rfl rfl rfl H1.out (by simp; omega) info_int3 ?_); intro w8 hb8 hk8 hs8))
        go_roundw
        case rel => exact ⟨k + 1, by omega, by go_num, HO2, by rw [← HN.out]; exact hb8, hkr2.out.trans hk8 (fun _ _ h => h)⟩
        case measure => simp [intOf]; omega
    · obtain rfl : k = ps.length := by omega
      have HF := Lib.hid (show okP true ps = true by have := HO.out; rwa [List.take_length] at this)
      rw [List.take_length] at n0 n1
      go_wp2
      refine Canon.row [0, 2, 1, 4, 3, 5, 6] (by kernel_rfl) (by kernel_rfl) (by repeat (first | (with_reducible exact Safe.body) | (with_reducible apply Safe.then) | (with_reducible apply Safe.inBlock) | (dsimp +zetaDelta only))) ?_
      simp only [Canon.pick, Canon.wpPlan, List.getElem?_toArray, List.getElem?_cons_zero, List.getElem?_cons_succ]
      have n0 := ((Keeps.refl (fun _ => False) wr).drew).cell n0 (fun h => h)
      have n1 := ((Keeps.refl (fun _ => False) wr).drew).cell n1 (fun h => h)
      have HKr := Lib.hid (HKr.out.drew)
      generalize wr.drew = wd at *
      go_wp2
      refine ⟨by rfl, trivial, ?_⟩
      go_wp2
      go_ret3
      exact ⟨HKr.out, by simp only [HF.out]; rfl⟩
end Go.Proofs.Ytomnkdjlljobeaa
