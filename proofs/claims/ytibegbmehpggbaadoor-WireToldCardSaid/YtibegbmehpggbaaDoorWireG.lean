/-
  The walks of package wire: a further line.
-/
import Derived.Test.YtibegbmehpggbaaDoorWireE
import Derived.Test.YtibegbmehpggbaaDoorWireS
import Derived.Test.YtibegbmehpggbaaDoorTxtD
namespace Go.Proofs.YtibegbmehpggbaaDoor
open Go.RowKit Go.Canon Go.Mem
set_option linter.unusedVariables false
set_option linter.unusedSimpArgs false
theorem kAuth_b : IsB Wire.kAuth := by unfold Wire.kAuth IsB; simp
theorem kLen_b : IsB Wire.kLen := by unfold Wire.kLen IsB; simp
theorem kEnc_b : IsB Wire.kEnc := by unfold Wire.kEnc IsB; simp
/-- Which name it is. -/
def nth (n : List Int) : Nat := if n = Wire.kAuth then 0 else if n = Wire.kLen then 1 else if n = Wire.kEnc then 2 else 3
theorem kdiff : Wire.kAuth ≠ Wire.kLen ∧ Wire.kAuth ≠ Wire.kEnc ∧ Wire.kLen ≠ Wire.kEnc := by decide
theorem nth0 (n : List Int) : decide (Wire.kAuth = n) = decide (nth n = 0) := by
  unfold nth
  by_cases h : n = Wire.kAuth
  · simp [h]
  · have : Wire.kAuth ≠ n := fun e => h e.symm
    rw [if_neg h]
    split <;> (try split) <;> simp [this]
theorem nth1 (n : List Int) : decide (Wire.kLen = n) = decide (nth n = 1) := by
  unfold nth
  by_cases h : n = Wire.kAuth
  · have : Wire.kLen ≠ n := fun e => kdiff.1 (by rw [← h, ← e])
    simp [h, this]; intro e; exact kdiff.1 e.symm
  · rw [if_neg h]
    by_cases h2 : n = Wire.kLen
    · simp [h2]
    · have : Wire.kLen ≠ n := fun e => h2 e.symm
      rw [if_neg h2]
      split <;> simp [this]
theorem nth2 (n : List Int) : decide (Wire.kEnc = n) = decide (nth n = 2) := by
  unfold nth
  by_cases h : n = Wire.kAuth
  · have : Wire.kEnc ≠ n := fun e => kdiff.2.1 (by rw [← h, ← e])
    simp [h]; intro e; exact kdiff.2.1 e.symm
  · rw [if_neg h]
    by_cases h2 : n = Wire.kLen
    · simp [h2]; intro e; exact kdiff.2.2 e.symm
    · rw [if_neg h2]
      by_cases h3 : n = Wire.kEnc
      · simp [h3]
      · have : Wire.kEnc ≠ n := fun e => h3 e.symm
        simp [h3, this]
theorem nth_le (n : List Int) : nth n ≤ 3 := by unfold nth; split <;> (try split) <;> (try split) <;> omega
theorem split_byteW {l n v : List Int} (hB : IsB l) (h : Wire.split l = some (n, v)) : IsB n ∧ IsB v ∧ v.length ≤ l.length := by
  unfold Wire.split at h
  split at h
  · rename_i h1
    have := Option.some.inj h
    obtain ⟨rfl, rfl⟩ := Prod.mk.inj this
    refine ⟨lowW_byte (fun x hx => hB x (List.takeWhile_sublist _ |>.subset hx)), hB.drop _, by rw [List.length_drop]; omega⟩
  · cases h
theorem further_some {r : Wire.S} {l n v : List Int} (h : Wire.split l = some (n, v)) : Wire.further r l =
    if nth n = 0 then
      if r.sa = true then (4, r)
      else if v.take 7 ≠ Wire.bearer then (4, { r with sa := true })
      else (0, { r with sa := true, x := { r.x with token := v.drop 7 } })
    else if nth n = 1 then
      if r.sl = true ∨ r.se = true then (4, r)
      else if (readD v).2 = false then (4, { r with sl := true })
      else if 2048 < (readD v).1 then (5, { r with sl := true })
      else (0, { r with sl := true, left := (readD v).1 })
    else if nth n = 2 then
      if r.se = true ∨ r.sl = true then (4, r)
      else if v ≠ Wire.chunked then (4, { r with se := true })
      else (0, { r with se := true })
    else (0, r) := by
  have e0 : (n = Wire.kAuth) = (nth n = 0) := by
    have := nth0 n
    rw [decide_eq_decide] at this
    exact propext ⟨fun h => this.1 h.symm, fun h => (this.2 h).symm⟩
  have e1 : (n = Wire.kLen) = (nth n = 1) := by
    have := nth1 n
    rw [decide_eq_decide] at this
    exact propext ⟨fun h => this.1 h.symm, fun h => (this.2 h).symm⟩
  have e2 : (n = Wire.kEnc) = (nth n = 2) := by
    have := nth2 n
    rw [decide_eq_decide] at this
    exact propext ⟨fun h => this.1 h.symm, fun h => (this.2 h).symm⟩
  unfold Wire.further
  rw [h]
  simp only [e0, e1, e2]
theorem is_bearer {a : List Int} (ha : IsB a) : ((str a).toList == [66, 101, 97, 114, 101, 114, 32]) = decide (a = Wire.bearer) := by
  rw [← str_eq ha (show IsB Wire.bearer by unfold Wire.bearer IsB; simp), show (str Wire.bearer).toList = [66, 101, 97, 114, 101, 114, 32] by rw [ByteArray.toList_eq]; rfl]
theorem is_chunked {a : List Int} (ha : IsB a) : ((str a).toList == [99, 104, 117, 110, 107, 101, 100]) = decide (a = Wire.chunked) := by
  rw [← str_eq ha (show IsB Wire.chunked by unfold Wire.chunked IsB; simp), show (str Wire.chunked).toList = [99, 104, 117, 110, 107, 101, 100] by rw [ByteArray.toList_eq]; rfl]
section
variable {w : World} {S : Nat → Prop} {g : Nat} {s : Wire.S}
set_option maxHeartbeats 6400000 in
set_option maxRecDepth 100000 in
theorem furtherW_c (h : WIs w S g s) (l : List Int) (hB : IsB l) (hl : l.length ≤ 1000000) : Calls Tryd.prog 35 #[.pointer (some ⟨g, 0, none⟩), .string (str l)] w (Rets (WStep w S g (.int .i64 (Wire.further s l).1) (Wire.further s l).2)) := by
  obtain ⟨vl, vb, vc, R1, R2, R3, hp⟩ := h.parts
  have HP := Lib.hid hp
  clear hp h
  cases hsp : Wire.split l with
  | none =>
    have HSp := Lib.hid hsp
    have HQ := Lib.hid (show Wire.further s l = (4, s) by unfold Wire.further; rw [hsp])
    clear hsp
    go_enter Tryd.func35, Tryd.ntmps35
    go_wp2_with (go_at_call 41; refine Rets.use (splitW_c l hB hl _) ?_; rintro v1 w1 ⟨hv, hk1⟩; rw [HSp.out] at hv; replace hv : v1 = .tuple #[.string (str []), .string (str []), .bool false] := hv; subst hv)
    go_ret
    rw [HQ.out]
    exact (HP.out.kept hk1 (fun _ _ h => h)).step (hk1.mono (fun _ _ h => h.elim))
  | some p =>
    obtain ⟨n, v⟩ := p
    obtain ⟨hBn, hBv, hlv⟩ := split_byteW hB hsp
    have HSp := Lib.hid hsp
    have HQ0 := Lib.hid (further_some (r := s) hsp)
    clear hsp
    have HBv := Lib.hid hBv
    have hvl : v.length ≤ 1000000 := Nat.le_trans hlv hl
    have hsv := str_size v
    obtain ⟨ka, hka⟩ : ∃ ka : ByteArray, ka = str Wire.kAuth := ⟨_, rfl⟩
    obtain ⟨kb, hkb⟩ : ∃ kb : ByteArray, kb = str Wire.kLen := ⟨_, rfl⟩
    obtain ⟨kc, hkc⟩ : ∃ kc : ByteArray, kc = str Wire.kEnc := ⟨_, rfl⟩
    have e0 : (ka.toList == (str n).toList) = decide (nth n = 0) := by rw [hka, str_eq kAuth_b hBn, nth0]
    have e1 : (kb.toList == (str n).toList) = decide (nth n = 1) := by rw [hkb, str_eq kLen_b hBn, nth1]
    have e2 : (kc.toList == (str n).toList) = decide (nth n = 2) := by rw [hkc, str_eq kEnc_b hBn, nth2]
    have HKA := Lib.hid hka
    have HKB := Lib.hid hkb
    have HKC := Lib.hid hkc
    have hle := nth_le n
    have HNT := Lib.hid (rfl : nth n = nth n)
    generalize hnt : nth n = t at *
    clear hka hkb hkc hBn hBv
    go_enter Tryd.func35, Tryd.ntmps35
    go_wp2_with (first
      | (go_at_call 41; refine Rets.use (splitW_c l hB hl _) ?_; rintro v1 w1 ⟨hv, hk1⟩; rw [HSp.out] at hv; replace hv : v1 = .tuple #[.string (str n), .string (str v), .bool true] := hv; subst hv)
      | ((with_reducible refine at_ 21 rfl ?_); go_must (refine step_lit rfl 41 _ 3 rfl [.string ka, .string kb, .string kc] (by rw [HKA.out, HKB.out, HKC.out]; rfl) rfl (by decide) 9 _ 1 Tryd.underlying41 row2_str (by decide) (by decide) (by intro v hv; simp only [List.mem_cons, List.not_mem_nil, or_false] at hv; rcases hv with rfl | rfl | rfl <;> rfl) ?_); intro w2 hb2 hk2 hs2; have k0 : w2.cell? ⟨w1.heap.size, 0, none⟩ = some (.string ka) := (cell_of_row w2 _ 0 _ _ _ hb2).trans rfl; have k1 : w2.cell? ⟨w1.heap.size, 1, none⟩ = some (.string kb) := (cell_of_row w2 _ 1 _ _ _ hb2).trans rfl; have k2 : w2.cell? ⟨w1.heap.size, 2, none⟩ = some (.string kc) := (cell_of_row w2 _ 2 _ _ _ hb2).trans rfl; clear hb2))
    go_loopw [8, 9, 10, 23] (fun wh q0 q1 i wr => ∃ (k : Nat) (z : Int), ((k = 0 ∧ i = .int .i64 0) ∨ (k = 1 ∧ i = .int .i64 1) ∨ (k = 2 ∧ i = .int .i64 2) ∨ (k = 3 ∧ i = .int .i64 3)) ∧ wh = .int .i64 z ∧ Hid (z = if t < k then (t : Int) else -1) ∧ wr = w2) (fun _ _ _ i _ => 3 - (intOf i).toNat)
    case atStart => exact ⟨0, -1, .inl ⟨rfl, rfl⟩, rfl, Lib.hid (by rw [if_neg (by omega)]), rfl⟩
    case round =>
      obtain ⟨k, z, hk, rfl, HZ, hw⟩ := hrel
      subst wr
      rcases hk with ⟨rfl, rfl⟩ | ⟨rfl, rfl⟩ | ⟨rfl, rfl⟩ | ⟨rfl, rfl⟩
      · by_cases ht : t = 0
        · rw [decide_eq_true ht] at e0
          go_wp2
          go_roundw
          case rel => exact ⟨1, 0, .inr (.inl ⟨rfl, rfl⟩), rfl, Lib.hid (by rw [if_pos (by omega), ht]; rfl), by trivial⟩
          case measure => simp [intOf]
        · rw [decide_eq_false ht] at e0
          go_wp2
          go_roundw
          case rel => exact ⟨1, z, .inr (.inl ⟨rfl, rfl⟩), rfl, Lib.hid (by rw [HZ.out, if_neg (by omega), if_neg (by omega)]), by trivial⟩
          case measure => simp [intOf]
      · by_cases ht : t = 1
        · rw [decide_eq_true ht] at e1
          go_wp2
          go_roundw
          case rel => exact ⟨2, 1, .inr (.inr (.inl ⟨rfl, rfl⟩)), rfl, Lib.hid (by rw [if_pos (by omega), ht]; rfl), by trivial⟩
          case measure => simp [intOf]
        · rw [decide_eq_false ht] at e1
          go_wp2
          go_roundw
          case rel => exact ⟨2, z, .inr (.inr (.inl ⟨rfl, rfl⟩)), rfl, Lib.hid (by rw [HZ.out]; split <;> split <;> omega), by trivial⟩
          case measure => simp [intOf]
      · by_cases ht : t = 2
        · rw [decide_eq_true ht] at e2
          go_wp2
          go_roundw
          case rel => exact ⟨3, 2, .inr (.inr (.inr ⟨rfl, rfl⟩)), rfl, Lib.hid (by rw [if_pos (by omega), ht]; rfl), by trivial⟩
          case measure => simp [intOf]
        · rw [decide_eq_false ht] at e2
          go_wp2
          go_roundw
          case rel => exact ⟨3, z, .inr (.inr (.inr ⟨rfl, rfl⟩)), rfl, Lib.hid (by rw [HZ.out]; split <;> split <;> omega), by trivial⟩
          case measure => simp [intOf]
      · have hk12 : Keeps (fun _ => False) w w2 := hk1.trans hk2 (fun _ _ h => h)
        have HK12 := Lib.hid hk12
        have hp := HP.out.kept hk12 (fun _ _ h => h)
        have HP2 := Lib.hid hp
        have HB2 := Lib.hid hp.blk
        have c10 : w2.cell? ⟨g, 10, none⟩ = some (.bool s.sa) := (hp.cell 10).trans rfl
        have c11 : w2.cell? ⟨g, 11, none⟩ = some (.bool s.sl) := (hp.cell 11).trans rfl
        have c12 : w2.cell? ⟨g, 12, none⟩ = some (.bool s.se) := (hp.cell 12).trans rfl
        clear hp hk12 hk1 hk2 k0 k1 k2 e0 e1 e2 hs2
        rcases (by omega : t = 0 ∨ t = 1 ∨ t = 2 ∨ t = 3) with rfl | rfl | rfl | rfl
        · obtain rfl : z = 0 := by rw [HZ.out]; rfl
          have HQ1 := Lib.hid (HQ0.out.trans (if_pos rfl))
          clear HQ0 c11 c12
          cases hsa : s.sa with
          | true =>
            rw [hsa] at c10
            have HQ := Lib.hid (HQ1.out.trans (if_pos hsa))
            clear HQ1
            go_wp2
            go_ret
            rw [HQ.out]
            exact HP2.out.step (HK12.out.mono (fun _ _ h => h.elim))
          | false =>
            rw [hsa] at c10
            have HQ2 := Lib.hid (HQ1.out.trans (if_neg (by rw [hsa]; simp)))
            clear HQ1
            by_cases h7 : v.length < 7
            · have HQ := Lib.hid (HQ2.out.trans (if_pos (fun e => by have := congrArg List.length e; rw [List.length_take, show Wire.bearer.length = 7 from rfl] at this; omega)))
              clear HQ2
              go_wp2_with ((with_reducible refine at_store 4 (.tmp 58) (.const (.bool true)) rfl ?_); go_must (refine step_store1 rfl _ _ _ rfl g 10 (.bool true) _ _ rfl rfl rfl HB2.out (by simp [wcells]) info_boolW ?_); intro w3 hb3 hk3 hs3)
              go_ret
              rw [HQ.out]
              exact (HP2.out.stay (s' := { s with sa := true }) hk3 hb3 rfl rfl rfl).step ((HK12.out.mono (fun _ _ h => h.elim)).trans (hk3.mono (fun k _ e => by subst e; exact HP2.out.own)) (fun _ _ h => h))
            · have hs7 := slice_to (l := v) (j := 7) (by omega)
              have hs7 : ∀ w', (Instr.slice 9 (.string (str v)) none (some (.int .i64 7)) none).run Tryd.prog w' = .ok (.string (str (v.take 7))) w' := hs7
              have hf7 : ∀ w', (Instr.slice 9 (.string (str v)) (some (.int .i64 7)) none none).run Tryd.prog w' = .ok (.string (str (v.drop 7))) w' := slice_from (l := v) (i := 7) (by omega)
              have hbe := is_bearer (HBv.out.take 7)
              by_cases hbr : v.take 7 = Wire.bearer
              · rw [decide_eq_true hbr] at hbe
                have HQ := Lib.hid (HQ2.out.trans (if_neg (by simpa using hbr)))
                clear HQ2 hbr
                go_wp2_with (first
                  | ((with_reducible refine at_store 4 (.tmp 58) (.const (.bool true)) rfl ?_); go_must (refine step_store1 rfl _ _ _ rfl g 10 (.bool true) _ _ rfl rfl rfl HB2.out (by simp [wcells]) info_boolW ?_); intro w3 hb3 hk3 hs3)
                  | ((with_reducible refine at_store 9 (.tmp 75) (.tmp 72) rfl ?_); go_must (refine step_store1 rfl _ _ _ rfl g 8 (.string (str (v.drop 7))) _ _ rfl rfl rfl hb3 (by simp [wcells]) info_strW ?_); intro w4 hb4 hk4 hs4))
                go_ret
                rw [HQ.out]
                have hk34 : Keeps (fun k => k = g) w2 w4 := hk3.trans hk4 (fun _ _ h => h)
                exact (HP2.out.stay (s' := { s with sa := true, x := { s.x with token := v.drop 7 } }) hk34 hb4 rfl rfl rfl).step ((HK12.out.mono (fun _ _ h => h.elim)).trans (hk34.mono (fun k _ e => by subst e; exact HP2.out.own)) (fun _ _ h => h))
              · rw [decide_eq_false hbr] at hbe
                have HQ := Lib.hid (HQ2.out.trans (if_pos hbr))
                clear HQ2 hbr
                go_wp2_with ((with_reducible refine at_store 4 (.tmp 58) (.const (.bool true)) rfl ?_); go_must (refine step_store1 rfl _ _ _ rfl g 10 (.bool true) _ _ rfl rfl rfl HB2.out (by simp [wcells]) info_boolW ?_); intro w3 hb3 hk3 hs3)
                go_ret
                rw [HQ.out]
                exact (HP2.out.stay (s' := { s with sa := true }) hk3 hb3 rfl rfl rfl).step ((HK12.out.mono (fun _ _ h => h.elim)).trans (hk3.mono (fun k _ e => by subst e; exact HP2.out.own)) (fun _ _ h => h))
        · obtain rfl : z = 1 := by rw [HZ.out]; rfl
          have HQ1 := Lib.hid (HQ0.out.trans ((if_neg (by decide)).trans (if_pos rfl)))
          clear HQ0 c10
          cases hsl : s.sl with
          | true =>
            rw [hsl] at c11
            have HQ := Lib.hid (HQ1.out.trans (if_pos (.inl hsl)))
            clear HQ1
            go_wp2
            go_ret
            rw [HQ.out]
            exact HP2.out.step (HK12.out.mono (fun _ _ h => h.elim))
          | false =>
            rw [hsl] at c11
            cases hse : s.se with
            | true =>
              rw [hse] at c12
              have HQ := Lib.hid (HQ1.out.trans (if_pos (.inr hse)))
              clear HQ1
              go_wp2
              go_ret
              rw [HQ.out]
              exact HP2.out.step (HK12.out.mono (fun _ _ h => h.elim))
            | false =>
              rw [hse] at c12
              have HQ2 := Lib.hid (HQ1.out.trans (if_neg (by rw [hsl, hse]; simp)))
              clear HQ1
              obtain ⟨rd, hrd⟩ : ∃ p, readD v = p := ⟨_, rfl⟩
              have HRD := Lib.hid hrd
              rw [hrd] at HQ2
              clear hrd
              obtain ⟨x, b⟩ := rd
              cases b with
              | false =>
                have HQ := Lib.hid (HQ2.out.trans (if_pos rfl))
                clear HQ2
                go_wp2_with (first | ((with_reducible refine at_store 4 (.tmp 58) (.const (.bool true)) rfl ?_); go_must (refine step_store1 rfl _ _ _ rfl g 11 (.bool true) _ _ rfl rfl rfl HB2.out (by simp [wcells]) info_boolW ?_); intro w3 hb3 hk3 hs3) | (go_at_call 29; refine Rets.use (readDec_c v HBv.out hvl _) ?_; rintro v4 w4 ⟨rfl, rfl⟩; rw [HRD.out]))
                go_ret
                rw [HQ.out]
                exact (HP2.out.stay (s' := { s with sl := true }) hk3 hb3 rfl rfl rfl).step ((HK12.out.mono (fun _ _ h => h.elim)).trans (hk3.mono (fun k _ e => by subst e; exact HP2.out.own)) (fun _ _ h => h))
              | true =>
                have HQ3 := Lib.hid (HQ2.out.trans (if_neg (by simp)))
                clear HQ2
                by_cases hx : 2048 < x
                · have HQ := Lib.hid (HQ3.out.trans (if_pos hx))
                  clear HQ3
                  go_wp2_with (first | ((with_reducible refine at_store 4 (.tmp 58) (.const (.bool true)) rfl ?_); go_must (refine step_store1 rfl _ _ _ rfl g 11 (.bool true) _ _ rfl rfl rfl HB2.out (by simp [wcells]) info_boolW ?_); intro w3 hb3 hk3 hs3) | (go_at_call 29; refine Rets.use (readDec_c v HBv.out hvl _) ?_; rintro v4 w4 ⟨rfl, rfl⟩; rw [HRD.out]))
                  go_ret
                  rw [HQ.out]
                  exact (HP2.out.stay (s' := { s with sl := true }) hk3 hb3 rfl rfl rfl).step ((HK12.out.mono (fun _ _ h => h.elim)).trans (hk3.mono (fun k _ e => by subst e; exact HP2.out.own)) (fun _ _ h => h))
                · have HQ := Lib.hid (HQ3.out.trans (if_neg hx))
                  clear HQ3
                  go_wp2_with (first
                    | ((with_reducible refine at_store 4 (.tmp 58) (.const (.bool true)) rfl ?_); go_must (refine step_store1 rfl _ _ _ rfl g 11 (.bool true) _ _ rfl rfl rfl HB2.out (by simp [wcells]) info_boolW ?_); intro w3 hb3 hk3 hs3)
                    | (go_at_call 29; refine Rets.use (readDec_c v HBv.out hvl _) ?_; rintro v4 w4 ⟨rfl, rfl⟩; rw [HRD.out])
                    | ((with_reducible refine at_store 3 (.tmp 90) (.tmp 88) rfl ?_); go_must (refine step_store1 rfl _ _ _ rfl g 13 (.int .i64 x) _ _ rfl rfl rfl hb3 (by simp [wcells]) info_int ?_); intro w5 hb5 hk5 hs5))
                  go_ret
                  rw [HQ.out]
                  have hk35 : Keeps (fun k => k = g) w2 w5 := hk3.trans hk5 (fun _ _ h => h)
                  exact (HP2.out.stay (s' := { s with sl := true, left := x }) hk35 hb5 rfl rfl rfl).step ((HK12.out.mono (fun _ _ h => h.elim)).trans (hk35.mono (fun k _ e => by subst e; exact HP2.out.own)) (fun _ _ h => h))
        · obtain rfl : z = 2 := by rw [HZ.out]; rfl
          have HQ1 := Lib.hid (HQ0.out.trans ((if_neg (by decide)).trans ((if_neg (by decide)).trans (if_pos rfl))))
          clear HQ0 c10
          cases hse : s.se with
          | true =>
            rw [hse] at c12
            have HQ := Lib.hid (HQ1.out.trans (if_pos (.inl hse)))
            clear HQ1
            go_wp2
            go_ret
            rw [HQ.out]
            exact HP2.out.step (HK12.out.mono (fun _ _ h => h.elim))
          | false =>
            rw [hse] at c12
            cases hsl : s.sl with
            | true =>
              rw [hsl] at c11
              have HQ := Lib.hid (HQ1.out.trans (if_pos (.inr hsl)))
              clear HQ1
              go_wp2
              go_ret
              rw [HQ.out]
              exact HP2.out.step (HK12.out.mono (fun _ _ h => h.elim))
            | false =>
              rw [hsl] at c11
              have HQ2 := Lib.hid (HQ1.out.trans (if_neg (by rw [hsl, hse]; simp)))
              clear HQ1
              have hck := is_chunked HBv.out
              by_cases hc : v = Wire.chunked
              · rw [decide_eq_true hc] at hck
                have HQ := Lib.hid (HQ2.out.trans (if_neg (by simpa using hc)))
                clear HQ2 hc
                go_wp2_with ((with_reducible refine at_store 4 (.tmp 58) (.const (.bool true)) rfl ?_); go_must (refine step_store1 rfl _ _ _ rfl g 12 (.bool true) _ _ rfl rfl rfl HB2.out (by simp [wcells]) info_boolW ?_); intro w3 hb3 hk3 hs3)
                go_ret
                rw [HQ.out]
                exact (HP2.out.stay (s' := { s with se := true }) hk3 hb3 rfl rfl rfl).step ((HK12.out.mono (fun _ _ h => h.elim)).trans (hk3.mono (fun k _ e => by subst e; exact HP2.out.own)) (fun _ _ h => h))
              · rw [decide_eq_false hc] at hck
                have HQ := Lib.hid (HQ2.out.trans (if_pos hc))
                clear HQ2 hc
                go_wp2_with ((with_reducible refine at_store 4 (.tmp 58) (.const (.bool true)) rfl ?_); go_must (refine step_store1 rfl _ _ _ rfl g 12 (.bool true) _ _ rfl rfl rfl HB2.out (by simp [wcells]) info_boolW ?_); intro w3 hb3 hk3 hs3)
                go_ret
                rw [HQ.out]
                exact (HP2.out.stay (s' := { s with se := true }) hk3 hb3 rfl rfl rfl).step ((HK12.out.mono (fun _ _ h => h.elim)).trans (hk3.mono (fun k _ e => by subst e; exact HP2.out.own)) (fun _ _ h => h))
        · obtain rfl : z = -1 := by rw [HZ.out]; rfl
          have HQ := Lib.hid (HQ0.out.trans ((if_neg (by decide)).trans ((if_neg (by decide)).trans (if_neg (by decide)))))
          go_wp2
          go_ret
          rw [HQ.out]
          exact HP2.out.step (HK12.out.mono (fun _ _ h => h.elim))
end
end Go.Proofs.YtibegbmehpggbaaDoor
