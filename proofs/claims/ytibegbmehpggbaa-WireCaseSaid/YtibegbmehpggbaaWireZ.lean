/-
  The document's reader of requests: a further line.
-/
import Derived.Test.YtibegbmehpggbaaWireX
import Derived.Test.YtibegbmehpggbaaWireR
import Derived.Test.YtibegbmehpggbaaWireG
namespace Go.Proofs.Ytibegbmehpggbaa
open Go.RowKit Go.Canon Go.Mem
set_option linter.unusedVariables false
set_option linter.unusedSimpArgs false
theorem is_auth {a : List Int} (ha : IsB a) : ((str a).toList == [97, 117, 116, 104, 111, 114, 105, 122, 97, 116, 105, 111, 110]) = decide (nth a = 0) := by
  rw [← nth0, ← show (str Wire.kAuth).toList = [97, 117, 116, 104, 111, 114, 105, 122, 97, 116, 105, 111, 110] by rw [ByteArray.toList_eq]; rfl, str_eq ha kAuth_b, decide_eq_decide]
  exact eq_comm
theorem is_len {a : List Int} (ha : IsB a) : ((str a).toList == [99, 111, 110, 116, 101, 110, 116, 45, 108, 101, 110, 103, 116, 104]) = decide (nth a = 1) := by
  rw [← nth1, ← show (str Wire.kLen).toList = [99, 111, 110, 116, 101, 110, 116, 45, 108, 101, 110, 103, 116, 104] by rw [ByteArray.toList_eq]; rfl, str_eq ha kLen_b, decide_eq_decide]
  exact eq_comm
theorem is_enc {a : List Int} (ha : IsB a) : ((str a).toList == [116, 114, 97, 110, 115, 102, 101, 114, 45, 101, 110, 99, 111, 100, 105, 110, 103]) = decide (nth a = 2) := by
  rw [← nth2, ← show (str Wire.kEnc).toList = [116, 114, 97, 110, 115, 102, 101, 114, 45, 101, 110, 99, 111, 100, 105, 110, 103] by rw [ByteArray.toList_eq]; rfl, str_eq ha kEnc_b, decide_eq_decide]
  exact eq_comm
theorem split_parts {l n v : List Int} (h : Wire.split l = some (n, v)) : n = (l.take (Wire.upto l).length).map Wire.low ∧ v = l.drop ((Wire.upto l).length + 2) ∧ (Wire.upto l).length + 2 ≤ l.length := by
  unfold Wire.split at h
  split at h
  · rename_i h1
    have h2 := Option.some.inj h
    obtain ⟨rfl, rfl⟩ := Prod.mk.inj h2
    have hp : l.take (Wire.upto l).length = Wire.upto l := by
      unfold Wire.upto
      exact (List.prefix_iff_eq_take.1 (List.takeWhile_prefix _)).symm
    refine ⟨by rw [hp], rfl, ?_⟩
    have h3 := h1.2.2.2.2
    have := (List.getElem?_eq_some_iff.1 h3).1
    omega
  · cases h
set_option maxHeartbeats 6400000 in
set_option maxRecDepth 100000 in
theorem rfurther_c {w : World} {g : Nat} {s : Wire.S} (h : HIs w g s) (l : List Int) (hB : IsB l) (hl : l.length ≤ 1000000) : Calls Try.prog 37 #[.pointer (some ⟨g, 0, none⟩), .string (str l)] w (Rets (HStep w g (Wire.further s l))) := by
  have HP := Lib.hid h
  clear h
  cases hsp : Wire.split l with
  | none =>
    have HNm := Lib.hid (show namedF l = -1 by unfold namedF; rw [hsp])
    have HQ := Lib.hid (show Wire.further s l = (4, s) by unfold Wire.further; rw [hsp])
    clear hsp
    go_enter Try.func37, Try.ntmps37
    go_wp2_with (go_at_call 49; refine Rets.use (named_c l hB hl _) ?_; rintro v1 w1 ⟨hv, hk1⟩; rw [HNm.out] at hv; subst hv)
    go_ret
    rw [HQ.out]
    exact ⟨rfl, fun h => (by cases h), hk1.mono (fun _ _ h => h.elim)⟩
  | some p =>
    obtain ⟨n, v⟩ := p
    obtain ⟨hBn, hBv, hlv⟩ := split_byteW hB hsp
    obtain ⟨hn, hv, hk2⟩ := split_parts hsp
    have HNm := Lib.hid (show namedF l = ((Wire.upto l).length : Nat) by unfold namedF; rw [hsp])
    have HQ0 := Lib.hid (further_some (r := s) hsp)
    have hvl : v.length ≤ 1000000 := Nat.le_trans hlv hl
    have hsv := str_size v
    generalize hkk : (Wire.upto l).length = k at *
    have HT := Lib.hid (fun (w : World) => slice_to (l := l) (j := k) (by omega) w)
    have HF := Lib.hid (show ∀ w : World, (Instr.slice 9 (.string (str l)) (some (.int .i64 ((k : Int) + 2))) none none).run Try.prog w = .ok (.string (str v)) w from fun w => by rw [hv]; exact slice_from (l := l) (i := k + 2) hk2 w)
    have HN := Lib.hid hn
    have HBv := Lib.hid hBv
    have e0 := is_auth hBn
    have e1 := is_len hBn
    have e2 := is_enc hBn
    have hle := nth_le n
    generalize hnt : nth n = t at *
    clear hsp hBn hBv hn hv hkk
    go_enter Try.func37, Try.ntmps37
    go_wp2_with (go_at_call 49; refine Rets.use (named_c l hB hl _) ?_; rintro v1 w1 ⟨hv, hk1⟩; rw [HNm.out] at hv; subst hv)
    refine Canon.row [0, 1, 2, 4, 5, 6, 7, 3, 8, 9] (by kernel_rfl) (by kernel_rfl) (by repeat (first | (with_reducible exact Safe.body) | (with_reducible apply Safe.then) | (with_reducible apply Safe.inBlock) | (dsimp +zetaDelta only))) ?_
    simp only [Canon.pick, Canon.wpPlan, List.getElem?_toArray, List.getElem?_cons_zero, List.getElem?_cons_succ]
    have hT := HT.out w1.drew
    have hF := HF.out w1.drew
    go_wp2_with (go_at_call 50; refine Rets.use (rsmall_c (l.take k) (hB.take k) (by rw [List.length_take]; omega) _) ?_; rintro v2 w2 ⟨hv, hk2⟩; rw [← HN.out] at hv; subst hv)
    refine ⟨by rfl, trivial, ?_⟩
    have hk12 : Keeps (fun _ => False) w w2 := (hk1.drew).trans hk2 (fun _ _ h => h)
    have HB2 := Lib.hid (hk12.heap HP.out (fun h => h))
    have hkg : Keeps (fun k => k = g) w w2 := hk12.mono (fun _ _ h => h.elim)
    have c4 : w2.cell? ⟨g, 4, none⟩ = some (.bool s.sa) := (cell_of_row w2 g 4 _ _ _ HB2.out).trans rfl
    have c5 : w2.cell? ⟨g, 5, none⟩ = some (.bool s.sl) := (cell_of_row w2 g 5 _ _ _ HB2.out).trans rfl
    have c6 : w2.cell? ⟨g, 6, none⟩ = some (.bool s.se) := (cell_of_row w2 g 6 _ _ _ HB2.out).trans rfl
    clear hk1 hk2 hk12 hT hF
    rcases (by omega : t = 0 ∨ t = 1 ∨ t = 2 ∨ t = 3) with rfl | rfl | rfl | rfl
    · have HQ1 := Lib.hid (HQ0.out.trans (if_pos rfl))
      clear HQ0
      rw [decide_eq_true rfl] at e0
      rw [decide_eq_false (by decide)] at e1 e2
      cases hsa : s.sa with
      | true =>
        rw [hsa] at c4
        have HQ := Lib.hid (HQ1.out.trans (if_pos hsa))
        clear HQ1
        go_wp2
        go_ret
        rw [HQ.out]
        exact ⟨rfl, fun h => (by cases h), hkg⟩
      | false =>
        rw [hsa] at c4
        have HQ2 := Lib.hid (HQ1.out.trans (if_neg (by rw [hsa]; simp)))
        clear HQ1
        by_cases h7 : v.length < 7
        · have HQ := Lib.hid (HQ2.out.trans (if_pos (fun e => by have := congrArg List.length e; rw [List.length_take, show Wire.bearer.length = 7 from rfl] at this; omega)))
          clear HQ2
          go_wp2
          go_ret
          rw [HQ.out]
          exact ⟨rfl, fun h => (by cases h), hkg⟩
        · have hs7 : ∀ w', (Instr.slice 9 (.string (str v)) none (some (.int .i64 7)) none).run Try.prog w' = .ok (.string (str (v.take 7))) w' := slice_to (l := v) (j := 7) (by omega)
          have hf7 : ∀ w', (Instr.slice 9 (.string (str v)) (some (.int .i64 7)) none none).run Try.prog w' = .ok (.string (str (v.drop 7))) w' := slice_from (l := v) (i := 7) (by omega)
          have hbe := is_bearer (HBv.out.take 7)
          by_cases hbr : v.take 7 = Wire.bearer
          · rw [decide_eq_true hbr] at hbe
            have HQ := Lib.hid (HQ2.out.trans (if_neg (by simpa using hbr)))
            clear HQ2 hbr
            go_wp2_with (first
              | ((with_reducible refine at_store 4 (.tmp 40) (.const (.bool true)) rfl ?_); go_must (refine step_store1 rfl _ _ _ rfl g 4 (.bool true) _ _ rfl rfl rfl HB2.out (by simp [hcells]) info_boolW ?_); intro w3 hb3 hk3 hs3)
              | ((with_reducible refine at_store 9 (.tmp 46) (.tmp 43) rfl ?_); go_must (refine step_store1 rfl _ _ _ rfl g 2 (.string (str (v.drop 7))) _ _ rfl rfl rfl hb3 (by simp [hcells]) info_strW ?_); intro w4 hb4 hk4 hs4))
            go_ret
            rw [HQ.out]
            exact ⟨rfl, fun _ => hb4, (hkg.trans hk3 (fun _ _ h => h)).trans hk4 (fun _ _ h => h)⟩
          · rw [decide_eq_false hbr] at hbe
            have HQ := Lib.hid (HQ2.out.trans (if_pos hbr))
            clear HQ2 hbr
            go_wp2
            go_ret
            rw [HQ.out]
            exact ⟨rfl, fun h => (by cases h), hkg⟩
    · have HQ1 := Lib.hid (HQ0.out.trans ((if_neg (by decide)).trans (if_pos rfl)))
      clear HQ0
      rw [decide_eq_true rfl] at e1
      rw [decide_eq_false (by decide)] at e0 e2
      obtain ⟨rd, hrd⟩ : ∃ p, readD v = p := ⟨_, rfl⟩
      have HRD := Lib.hid hrd
      rw [hrd] at HQ1
      clear hrd
      obtain ⟨x, b⟩ := rd
      cases hsl : s.sl with
      | true =>
        rw [hsl] at c5
        have HQ := Lib.hid (HQ1.out.trans (if_pos (.inl hsl)))
        clear HQ1
        go_wp2_with (go_at_call 51; refine Rets.use (rreadDec_c v HBv.out hvl _) ?_; rintro v4 w4 ⟨rfl, rfl⟩; rw [HRD.out])
        go_ret
        rw [HQ.out]
        exact ⟨rfl, fun h => (by cases h), hkg⟩
      | false =>
        rw [hsl] at c5
        cases hse : s.se with
        | true =>
          rw [hse] at c6
          have HQ := Lib.hid (HQ1.out.trans (if_pos (.inr hse)))
          clear HQ1
          go_wp2_with (go_at_call 51; refine Rets.use (rreadDec_c v HBv.out hvl _) ?_; rintro v4 w4 ⟨rfl, rfl⟩; rw [HRD.out])
          go_ret
          rw [HQ.out]
          exact ⟨rfl, fun h => (by cases h), hkg⟩
        | false =>
          rw [hse] at c6
          have HQ2 := Lib.hid (HQ1.out.trans (if_neg (by rw [hsl, hse]; simp)))
          clear HQ1
          cases b with
          | false =>
            have HQ := Lib.hid (HQ2.out.trans (if_pos rfl))
            clear HQ2
            go_wp2_with (go_at_call 51; refine Rets.use (rreadDec_c v HBv.out hvl _) ?_; rintro v4 w4 ⟨rfl, rfl⟩; rw [HRD.out])
            go_ret
            rw [HQ.out]
            exact ⟨rfl, fun h => (by cases h), hkg⟩
          | true =>
            have HQ3 := Lib.hid (HQ2.out.trans (if_neg (by simp)))
            clear HQ2
            by_cases hx : 2048 < x
            · have HQ := Lib.hid (HQ3.out.trans (if_pos hx))
              clear HQ3
              go_wp2_with (go_at_call 51; refine Rets.use (rreadDec_c v HBv.out hvl _) ?_; rintro v4 w4 ⟨rfl, rfl⟩; rw [HRD.out])
              go_ret
              rw [HQ.out]
              exact ⟨rfl, fun h => (by cases h), hkg⟩
            · have HQ := Lib.hid (HQ3.out.trans (if_neg hx))
              clear HQ3
              go_wp2_with (first
                | (go_at_call 51; refine Rets.use (rreadDec_c v HBv.out hvl _) ?_; rintro v4 w4 ⟨rfl, rfl⟩; rw [HRD.out])
                | ((with_reducible refine at_store 4 (.tmp 93) (.const (.bool true)) rfl ?_); go_must (refine step_store1 rfl _ _ _ rfl g 5 (.bool true) _ _ rfl rfl rfl HB2.out (by simp [hcells]) info_boolW ?_); intro w3 hb3 hk3 hs3)
                | ((with_reducible refine at_store 3 (.tmp 95) (.tmp 91) rfl ?_); go_must (refine step_store1 rfl _ _ _ rfl g 7 (.int .i64 x) _ _ rfl rfl rfl hb3 (by simp [hcells]) info_int ?_); intro w4 hb4 hk4 hs4))
              go_ret
              rw [HQ.out]
              exact ⟨rfl, fun _ => hb4, (hkg.trans hk3 (fun _ _ h => h)).trans hk4 (fun _ _ h => h)⟩
    · have HQ1 := Lib.hid (HQ0.out.trans ((if_neg (by decide)).trans ((if_neg (by decide)).trans (if_pos rfl))))
      clear HQ0
      rw [decide_eq_true rfl] at e2
      rw [decide_eq_false (by decide)] at e0 e1
      cases hse : s.se with
      | true =>
        rw [hse] at c6
        have HQ := Lib.hid (HQ1.out.trans (if_pos (.inl hse)))
        clear HQ1
        cases hsl : s.sl with
        | true =>
          rw [hsl] at c5
          go_wp2
          go_ret
          rw [HQ.out]
          exact ⟨rfl, fun h => (by cases h), hkg⟩
        | false =>
          rw [hsl] at c5
          go_wp2
          go_ret
          rw [HQ.out]
          exact ⟨rfl, fun h => (by cases h), hkg⟩
      | false =>
        rw [hse] at c6
        cases hsl : s.sl with
        | true =>
          rw [hsl] at c5
          have HQ := Lib.hid (HQ1.out.trans (if_pos (.inr hsl)))
          clear HQ1
          go_wp2
          go_ret
          rw [HQ.out]
          exact ⟨rfl, fun h => (by cases h), hkg⟩
        | false =>
          rw [hsl] at c5
          have HQ2 := Lib.hid (HQ1.out.trans (if_neg (by rw [hsl, hse]; simp)))
          clear HQ1
          have hck := is_chunked HBv.out
          by_cases hc : v = Wire.chunked
          · rw [decide_eq_true hc] at hck
            have HQ := Lib.hid (HQ2.out.trans (if_neg (by simpa using hc)))
            clear HQ2 hc
            go_wp2_with ((with_reducible refine at_store 4 (.tmp 65) (.const (.bool true)) rfl ?_); go_must (refine step_store1 rfl _ _ _ rfl g 6 (.bool true) _ _ rfl rfl rfl HB2.out (by simp [hcells]) info_boolW ?_); intro w3 hb3 hk3 hs3)
            go_ret
            rw [HQ.out]
            exact ⟨rfl, fun _ => hb3, hkg.trans hk3 (fun _ _ h => h)⟩
          · rw [decide_eq_false hc] at hck
            have HQ := Lib.hid (HQ2.out.trans (if_pos hc))
            clear HQ2 hc
            go_wp2
            go_ret
            rw [HQ.out]
            exact ⟨rfl, fun h => (by cases h), hkg⟩
    · have HQ := Lib.hid (HQ0.out.trans ((if_neg (by decide)).trans ((if_neg (by decide)).trans (if_neg (by decide)))))
      clear HQ0
      rw [decide_eq_false (by decide)] at e0 e1 e2
      go_wp2
      go_ret
      rw [HQ.out]
      exact ⟨rfl, fun _ => HB2.out, hkg⟩
end Go.Proofs.Ytibegbmehpggbaa
