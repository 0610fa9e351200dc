/-
  Texts: numbers in digits, the program's and the document's.
-/
import Derived.Test.YtibegbmehpggbaaDoorTxtN
namespace Go.Proofs.YtibegbmehpggbaaDoor
open Go.RowKit Go.Canon Go.Mem
set_option linter.unusedVariables false
set_option linter.unusedSimpArgs false
theorem okD_cons {x : Int} {r : List Int} (hd : (x :: r).all digC = true) (h : x ≠ 48 ∨ r = []) : okD (x :: r) = true := by
  unfold okD
  rw [hd]
  rcases h with h | h
  · simp [h]
  · subst h; simp
theorem readD_no {l : List Int} (h : okD l = false) : readD l = (0, false) := by unfold readD; rw [h]; simp
theorem okD_off {l : List Int} (h : l.all digC = false) : okD l = false := by unfold okD; rw [h]; simp
theorem readD_yes {l : List Int} (h : okD l = true) (hv : valF l ≤ 9223372036854775807) : readD l = (valF l, true) := by unfold readD; rw [if_pos ⟨h, hv⟩]
theorem readD_big {l : List Int} (hv : 9223372036854775807 < valF l) : readD l = (0, false) := by unfold readD; rw [if_neg (fun h => by omega)]
set_option maxHeartbeats 1600000 in
set_option maxRecDepth 100000 in
theorem readDec_c (l : List Int) (hB : IsB l) (hl : l.length ≤ 1000000) (w : World) : Calls Tryd.prog 29 #[.string (str l)] w (Rets (Only (.tuple #[.int .i64 (readD l).1, .bool (readD l).2]) w)) := by
  have hs := str_size l
  have HX := Lib.hid (fun (k : Nat) (h : k < l.length) (w : World) => index_str hB h w)
  by_cases hn : l = []
  · subst hn
    have hE : ((str []).toList == []) = true := by rw [ByteArray.toList_eq]; rfl
    generalize str [] = s at *
    go_enter Tryd.func29, Tryd.ntmps29
    go_wp2
    go_ret2
    exact ⟨rfl, rfl⟩
  · have hE := str_nil hn
    have hp : 0 < l.length := by cases l with | nil => exact (hn rfl).elim | cons => simp
    have h0 : (Instr.index 9 (.string (str l)) (.int .i64 0)).run Tryd.prog w = .ok (.int .u8 l[0]) w := HX.out 0 hp w
    have HO := Lib.hid (fun (hd : l.all digC = true) (h : l[0] ≠ 48 ∨ l.length ≤ 1) => show okD l = true by
      cases l with
      | nil => exact (hn rfl).elim
      | cons x r => exact okD_cons hd (h.imp (fun h => by simpa using h) (fun h => by simpa using h)))
    have HZ := Lib.hid (fun (h : l[0] = 48) (h2 : 1 < l.length) => show readD l = (0, false) by
      apply readD_no
      cases l with
      | nil => exact (hn rfl).elim
      | cons x r =>
        simp only [List.getElem_cons_zero] at h
        subst h
        unfold okD
        rw [decide_eq_false (show ¬ (48 :: r).length ≤ 1 by omega)]; simp)
    by_cases h19 : l.length ≤ 19
    · generalize str l = s at *
      generalize hx : l[0] = x at *
      by_cases h48 : x = 48 ∧ 1 < l.length
      · obtain ⟨rfl, h2⟩ := h48
        have HF := Lib.hid (HZ.out rfl h2)
        clear hx
        go_enter Tryd.func29, Tryd.ntmps29
        go_wp2
        go_ret2
        exact ⟨by rw [HF.out] <;> rfl, rfl⟩
      · have HO2 := Lib.hid (fun hd => HO.out hd (by omega))
        clear HO
        by_cases h4 : x = 48
        · subst h4
          have h2 : ¬ 1 < l.length := fun h => h48 ⟨rfl, h⟩
          clear h48 hx HZ
          go_enter Tryd.func29, Tryd.ntmps29
          go_wp2
          go_loopw [4, 5, 25] (fun u q0 i wr => ∃ (k : Nat) (v : Int), k ≤ l.length ∧ i = .int .i64 k ∧ u = .int .u64 v ∧ 0 ≤ v ∧ v < 10000000000000000000 ∧ (k < l.length → v < 1000000000000000000) ∧ wr = w ∧ Hid (v = valF (l.take k)) ∧ Hid ((l.take k).all digC = true)) (fun _ _ i _ => l.length - (intOf i).toNat)
          case atStart => exact ⟨0, 0, by omega, rfl, rfl, by decide, by decide, fun _ => by decide, rfl, Lib.hid rfl, Lib.hid rfl⟩
          case round =>
            obtain ⟨k, v, hk, rfl, rfl, v0, v1, v2, hw, HV, HT⟩ := hrel
            subst wr
            by_cases hlt : k < l.length
            · have v2 := v2 hlt
              have hx := HX.out k hlt w
              have HC := Lib.hid (show (l.take (k + 1)).all digC = digC l[k] by rw [List.take_add_one, List.getElem?_eq_getElem hlt, List.all_append, HT.out]; simp)
              have HN := Lib.hid (fun h : digC l[k] = false => show l.all digC = false from List.all_eq_false.2 ⟨l[k], List.getElem_mem _, by simp [h]⟩)
              have HW := Lib.hid (show valF (l.take (k + 1)) = 10 * v + (l[k] - 48) by rw [List.take_add_one, List.getElem?_eq_getElem hlt, Option.toList_some, valF_snoc, HV.out])
              have HM := Lib.hid (fun h : (l.take (k + 1)).all digC = true => valF_lt _ h)
              generalize l[k] = c at *
              by_cases c1 : c < 48
              · have HF := Lib.hid (readD_no (okD_off (HN.out (by simp [digC]; omega))))
                go_wp2
                go_ret2
                exact ⟨by rw [HF.out] <;> rfl, rfl⟩
              · by_cases c2 : 57 < c
                · have HF := Lib.hid (readD_no (okD_off (HN.out (by simp [digC]; omega))))
                  go_wp2
                  go_ret2
                  exact ⟨by rw [HF.out] <;> rfl, rfl⟩
                · have HC := Lib.hid (show (l.take (k + 1)).all digC = true by rw [HC.out]; simp [digC]; omega)
                  have HM := Lib.hid (fun h : k + 1 < l.length => show 10 * v + (c - 48) < 1000000000000000000 by
                    rw [← HW.out]
                    have h1 := HM.out HC.out
                    rw [List.length_take, Nat.min_eq_left (by omega)] at h1
                    have h2 : (10 : Int) ^ (k + 1) ≤ 10 ^ 18 := by exact_mod_cast Nat.pow_le_pow_right (show 0 < 10 by decide) (show k + 1 ≤ 18 by omega)
                    have h3 : (10 : Int) ^ 18 = 1000000000000000000 := by decide
                    omega)
                  go_wp2
                  go_roundw
                  case rel => exact ⟨k + 1, 10 * v + (c - 48), by omega, by go_num, by go_num, by omega, by omega, HM.out, by trivial, Lib.hid HW.out.symm, HC⟩
                  case measure => simp [intOf]; omega
            · obtain rfl : k = l.length := by omega
              clear v2
              rw [List.take_length] at HV HT
              have HK := Lib.hid (HO2.out HT.out)
              by_cases hbig : 9223372036854775807 < v
              · have HF := Lib.hid (readD_big (by rw [← HV.out]; exact hbig))
                go_wp2
                go_ret2
                exact ⟨by rw [HF.out] <;> rfl, rfl⟩
              · have HF := Lib.hid (show readD l = (v, true) by rw [readD_yes HK.out (by rw [← HV.out]; omega), HV.out])
                go_wp2
                go_ret2
                exact ⟨by rw [HF.out] <;> rfl, rfl⟩
        · have hb : (x == 48) = false := by simpa using h4
          clear h48 hx HZ h4
          go_enter Tryd.func29, Tryd.ntmps29
          go_wp2
          go_loopw [4, 5, 25] (fun u q0 i wr => ∃ (k : Nat) (v : Int), k ≤ l.length ∧ i = .int .i64 k ∧ u = .int .u64 v ∧ 0 ≤ v ∧ v < 10000000000000000000 ∧ (k < l.length → v < 1000000000000000000) ∧ wr = w ∧ Hid (v = valF (l.take k)) ∧ Hid ((l.take k).all digC = true)) (fun _ _ i _ => l.length - (intOf i).toNat)
          case atStart => exact ⟨0, 0, by omega, rfl, rfl, by decide, by decide, fun _ => by decide, rfl, Lib.hid rfl, Lib.hid rfl⟩
          case round =>
            obtain ⟨k, v, hk, rfl, rfl, v0, v1, v2, hw, HV, HT⟩ := hrel
            subst wr
            by_cases hlt : k < l.length
            · have v2 := v2 hlt
              have hx := HX.out k hlt w
              have HC := Lib.hid (show (l.take (k + 1)).all digC = digC l[k] by rw [List.take_add_one, List.getElem?_eq_getElem hlt, List.all_append, HT.out]; simp)
              have HN := Lib.hid (fun h : digC l[k] = false => show l.all digC = false from List.all_eq_false.2 ⟨l[k], List.getElem_mem _, by simp [h]⟩)
              have HW := Lib.hid (show valF (l.take (k + 1)) = 10 * v + (l[k] - 48) by rw [List.take_add_one, List.getElem?_eq_getElem hlt, Option.toList_some, valF_snoc, HV.out])
              have HM := Lib.hid (fun h : (l.take (k + 1)).all digC = true => valF_lt _ h)
              generalize l[k] = c at *
              by_cases c1 : c < 48
              · have HF := Lib.hid (readD_no (okD_off (HN.out (by simp [digC]; omega))))
                go_wp2
                go_ret2
                exact ⟨by rw [HF.out] <;> rfl, rfl⟩
              · by_cases c2 : 57 < c
                · have HF := Lib.hid (readD_no (okD_off (HN.out (by simp [digC]; omega))))
                  go_wp2
                  go_ret2
                  exact ⟨by rw [HF.out] <;> rfl, rfl⟩
                · have HC := Lib.hid (show (l.take (k + 1)).all digC = true by rw [HC.out]; simp [digC]; omega)
                  have HM := Lib.hid (fun h : k + 1 < l.length => show 10 * v + (c - 48) < 1000000000000000000 by
                    rw [← HW.out]
                    have h1 := HM.out HC.out
                    rw [List.length_take, Nat.min_eq_left (by omega)] at h1
                    have h2 : (10 : Int) ^ (k + 1) ≤ 10 ^ 18 := by exact_mod_cast Nat.pow_le_pow_right (show 0 < 10 by decide) (show k + 1 ≤ 18 by omega)
                    have h3 : (10 : Int) ^ 18 = 1000000000000000000 := by decide
                    omega)
                  go_wp2
                  go_roundw
                  case rel => exact ⟨k + 1, 10 * v + (c - 48), by omega, by go_num, by go_num, by omega, by omega, HM.out, by trivial, Lib.hid HW.out.symm, HC⟩
                  case measure => simp [intOf]; omega
            · obtain rfl : k = l.length := by omega
              clear v2
              rw [List.take_length] at HV HT
              have HK := Lib.hid (HO2.out HT.out)
              by_cases hbig : 9223372036854775807 < v
              · have HF := Lib.hid (readD_big (by rw [← HV.out]; exact hbig))
                go_wp2
                go_ret2
                exact ⟨by rw [HF.out] <;> rfl, rfl⟩
              · have HF := Lib.hid (show readD l = (v, true) by rw [readD_yes HK.out (by rw [← HV.out]; omega), HV.out])
                go_wp2
                go_ret2
                exact ⟨by rw [HF.out] <;> rfl, rfl⟩
    · have HF := Lib.hid (show readD l = (0, false) by
        by_cases ho : okD l = true ∧ valF l ≤ 9223372036854775807
        · exact absurd (okD_len ho.1 ho.2) h19
        · unfold readD; rw [if_neg ho])
      generalize str l = s at *
      go_enter Tryd.func29, Tryd.ntmps29
      go_wp2
      go_ret2
      exact ⟨by rw [HF.out] <;> rfl, rfl⟩
theorem val_more : ∀ (b a : List Int), b.all digC = true → 0 ≤ valF a → valF a ≤ valF (a ++ b) := by
  intro b
  induction b with
  | nil => intro a _ _; rw [List.append_nil]; exact Int.le_refl _
  | cons c r ih =>
    intro a h ha
    rw [List.all_cons, Bool.and_eq_true] at h
    have hc := of_decide_eq_true h.1
    have e : a ++ c :: r = (a ++ [c]) ++ r := by simp
    have h1 := valF_snoc a c
    have h2 := ih (a ++ [c]) h.2 (by omega)
    rw [e]; omega
theorem readD_over {l : List Int} {k : Nat} (h : (l.take k).all digC = true) (hv : 9223372036854775807 < valF (l.take k)) : readD l = (0, false) := by
  by_cases ha : l.all digC = true
  · apply readD_big
    have h2 : (l.drop k).all digC = true := by
      rw [← List.take_append_drop k l, List.all_append, Bool.and_eq_true] at ha
      exact ha.2
    have := val_more (l.drop k) (l.take k) h2 (valF_pos h)
    rw [List.take_append_drop] at this
    omega
  · exact readD_no (okD_off (by simpa using ha))
theorem letters (k : Nat) (h : k < 10) : (⟨#[48, 49, 50, 51, 52, 53, 54, 55, 56, 57, 97, 98, 99, 100, 101, 102]⟩ : ByteArray).extract k (k + 1) = str [48 + (k : Int)] := by
  have : ∀ k : Fin 10, (⟨#[48, 49, 50, 51, 52, 53, 54, 55, 56, 57, 97, 98, 99, 100, 101, 102]⟩ : ByteArray).extract k.val (k.val + 1) = str [48 + (k.val : Int)] := by decide
  exact this ⟨k, h⟩
theorem letter_c (k : Nat) (h : k < 10) (w : World) : Calls Tryd.prog 25 #[.int .i64 k] w (Rets (Only (.string (str [48 + (k : Int)])) w)) := by
  have HL := Lib.hid (letters k h)
  go_enter Tryd.func25, Tryd.ntmps25
  go_wp2
  go_ret
  exact ⟨by rw [← HL.out] <;> rfl, rfl⟩
theorem rdec_small (n : Int) (w : World) (h3 : -10 < n) (h4 : n < 10) : Calls Tryd.prog 19 #[.int .i64 n] w (Rets (Only (.string (str (decF n))) w)) := by
  by_cases hn : n < 0
  · obtain ⟨k, rfl⟩ : ∃ k : Nat, n = -(k : Int) := ⟨(-n).toNat, by omega⟩
    have HL := Lib.hid (fun w => letter_c k (by omega) w)
    have HE := Lib.hid (show str [45] ++ str [48 + (k : Int)] = str (decF (-(k : Int))) by rw [str_app, dec_neg1 (by omega) (by omega)]; rfl)
    have z : (str [48 + (k : Int)]).size = 1 := str_size _
    generalize str [48 + (k : Int)] = s at *
    go_enter Tryd.func19, Tryd.ntmps19
    go_wp2_with (go_at_call 25; go_loud (refine Rets.use (HL.out _) ?_); rintro _ _ ⟨rfl, rfl⟩)
    go_ret
    exact ⟨by rw [← HE.out] <;> rfl, rfl⟩
  · obtain ⟨k, rfl⟩ : ∃ k : Nat, n = (k : Int) := ⟨n.toNat, by omega⟩
    have HL := Lib.hid (fun w => letter_c k (by omega) w)
    have HE := Lib.hid (show str [48 + (k : Int)] = str (decF k) by rw [dec_small (by omega) h4])
    generalize str [48 + (k : Int)] = s at *
    go_enter Tryd.func19, Tryd.ntmps19
    go_wp2_with (go_at_call 25; go_loud (refine Rets.use (HL.out _) ?_); rintro _ _ ⟨rfl, rfl⟩)
    go_ret
    exact ⟨by rw [← HE.out] <;> rfl, rfl⟩
set_option maxHeartbeats 1600000 in
theorem rdec_c : ∀ (f : Nat) (n : Int) (w : World), -9223372036854775808 ≤ n → n ≤ 9223372036854775807 → -(10 : Int) ^ (f + 1) < n → n < (10 : Int) ^ (f + 1) → Calls Tryd.prog 19 #[.int .i64 n] w (Rets (Only (.string (str (decF n))) w)) := by
  intro f
  induction f with
  | zero =>
    intro n w h1 h2 h3 h4
    have e : (10 : Int) ^ (0 + 1) = 10 := rfl
    rw [e] at h3 h4
    exact rdec_small n w h3 h4
  | succ f ih =>
    intro n w h1 h2 h3 h4
    by_cases hs : -10 < n ∧ n < 10
    · exact rdec_small n w hs.1 hs.2
    · rw [Int.pow_succ] at h3 h4
      by_cases hn : n < 0
      · obtain ⟨k, rfl⟩ : ∃ k : Int, n = -k := ⟨-n, by omega⟩
        have k1 : 10 ≤ k := by omega
        have HD := Lib.hid (ih (-(k / 10)) w (by omega) (by omega) (by omega) (by omega))
        obtain ⟨d, hd⟩ : ∃ d : Nat, k % 10 = d := ⟨(k % 10).toNat, by omega⟩
        have e1 : (-k).tdiv 10 = -(k / 10) := by rw [Int.neg_tdiv, Int.tdiv_eq_ediv_of_nonneg (by omega)]
        have e2 : (-k).tmod 10 = -(d : Int) := by rw [Int.neg_tmod, Int.tmod_eq_emod_of_nonneg (by omega), hd]
        have HL := Lib.hid (fun w => letter_c d (by omega) w)
        have z0 := str_size (decF (-(k / 10)))
        have z1 := dec_len (-(k / 10))
        have z2 : (str [48 + (d : Int)]).size = 1 := str_size _
        have HE := Lib.hid (show str (decF (-(k / 10))) ++ str [48 + (d : Int)] = str (decF (-k)) by rw [str_app, dec_neg k1 (by rw [p29]; omega), hd])
        have hdl : d < 10 := by omega
        have q1 : 0 ≤ k / 10 ∧ k / 10 ≤ 922337203685477580 := by omega
        clear h3 h4 hs ih hd
        generalize k / 10 = q at *
        generalize str (decF (-q)) = sq at *
        generalize str [48 + (d : Int)] = sd at *
        generalize (decF (-q)).length = lq at *
        go_enter Tryd.func19, Tryd.ntmps19
        go_wp2_with (first
          | (go_at_call 25; go_loud (refine Rets.use (HL.out _) ?_); rintro _ _ ⟨rfl, rfl⟩)
          | (go_at_call 19; go_loud (refine Rets.use HD.out ?_); rintro _ _ ⟨rfl, rfl⟩))
        go_ret
        exact ⟨by rw [← HE.out] <;> rfl, rfl⟩
      · have k1 : 10 ≤ n := by omega
        have HD := Lib.hid (ih (n / 10) w (by omega) (by omega) (by omega) (by omega))
        obtain ⟨d, hd⟩ : ∃ d : Nat, n % 10 = d := ⟨(n % 10).toNat, by omega⟩
        have e1 : n.tdiv 10 = n / 10 := Int.tdiv_eq_ediv_of_nonneg (by omega)
        have e2 : n.tmod 10 = (d : Int) := by rw [Int.tmod_eq_emod_of_nonneg (by omega), hd]
        have HL := Lib.hid (fun w => letter_c d (by omega) w)
        have z0 := str_size (decF (n / 10))
        have z1 := dec_len (n / 10)
        have z2 : (str [48 + (d : Int)]).size = 1 := str_size _
        have HE := Lib.hid (show str (decF (n / 10)) ++ str [48 + (d : Int)] = str (decF n) by rw [str_app, dec_step k1 (by rw [p29]; omega), hd])
        have hdl : d < 10 := by omega
        have q1 : 0 ≤ n / 10 ∧ n / 10 ≤ 922337203685477580 := by omega
        clear h3 h4 hs ih hd
        generalize n / 10 = q at *
        generalize str (decF q) = sq at *
        generalize str [48 + (d : Int)] = sd at *
        generalize (decF q).length = lq at *
        go_enter Tryd.func19, Tryd.ntmps19
        go_wp2_with (first
          | (go_at_call 25; go_loud (refine Rets.use (HL.out _) ?_); rintro _ _ ⟨rfl, rfl⟩)
          | (go_at_call 19; go_loud (refine Rets.use HD.out ?_); rintro _ _ ⟨rfl, rfl⟩))
        go_ret
        exact ⟨by rw [← HE.out] <;> rfl, rfl⟩
theorem rdec64_c (n : Int) (h1 : -9223372036854775808 ≤ n) (h2 : n ≤ 9223372036854775807) (w : World) : Calls Tryd.prog 19 #[.int .i64 n] w (Rets (Only (.string (str (decF n))) w)) := by
  have e : (10 : Int) ^ (18 + 1) = 10000000000000000000 := by decide
  exact rdec_c 18 n w h1 h2 (by rw [e]; omega) (by rw [e]; omega)
set_option maxHeartbeats 1600000 in
set_option maxRecDepth 100000 in
theorem rreadDec_c (l : List Int) (hB : IsB l) (hl : l.length ≤ 1000000) (w : World) : Calls Tryd.prog 30 #[.string (str l)] w (Rets (Only (.tuple #[.int .i64 (readD l).1, .bool (readD l).2]) w)) := by
  have hs := str_size l
  have HX := Lib.hid (fun (k : Nat) (h : k < l.length) (w : World) => index_str hB h w)
  have HEq := Lib.hid (fun v => str_eq (dec_byte v) hB)
  have HN0 := Lib.hid (fun h : l ≠ [] => str_nil h)
  have HN1 := Lib.hid (show l = [] → ((str l).toList == []) = true by rintro rfl; rw [ByteArray.toList_eq]; rfl)
  generalize str l = s at *
  go_enter Tryd.func30, Tryd.ntmps30
  go_wp2
  go_loopw [4, 5, 6] (fun u i q0 wr => ∃ (k : Nat) (v : Int), k ≤ l.length ∧ i = .int .i64 k ∧ u = .int .i64 v ∧ 0 ≤ v ∧ v ≤ 9223372036854775807 ∧ wr = w ∧ Hid (v = valF (l.take k)) ∧ Hid ((l.take k).all digC = true)) (fun _ i _ _ => l.length - (intOf i).toNat)
  case atStart => exact ⟨0, 0, by omega, rfl, rfl, by decide, by decide, rfl, Lib.hid rfl, Lib.hid rfl⟩
  case round =>
    obtain ⟨k, v, hk, rfl, rfl, v0, v1, hw, HV, HT⟩ := hrel
    subst wr
    by_cases hlt : k < l.length
    · have hx := HX.out k hlt w
      have HC := Lib.hid (show (l.take (k + 1)).all digC = digC l[k] by rw [List.take_add_one, List.getElem?_eq_getElem hlt, List.all_append, HT.out]; simp)
      have HN := Lib.hid (fun h : digC l[k] = false => show l.all digC = false from List.all_eq_false.2 ⟨l[k], List.getElem_mem _, by simp [h]⟩)
      have HW := Lib.hid (show valF (l.take (k + 1)) = 10 * v + (l[k] - 48) by rw [List.take_add_one, List.getElem?_eq_getElem hlt, Option.toList_some, valF_snoc, HV.out])
      have hcb := hB l[k] (List.getElem_mem _)
      generalize l[k] = c at *
      by_cases c1 : c < 48
      · have HF := Lib.hid (readD_no (okD_off (HN.out (by simp [digC]; omega))))
        go_wp2
        go_ret2
        exact ⟨by rw [HF.out] <;> rfl, rfl⟩
      · by_cases c2 : 57 < c
        · have HF := Lib.hid (readD_no (okD_off (HN.out (by simp [digC]; omega))))
          go_wp2
          go_ret2
          exact ⟨by rw [HF.out] <;> rfl, rfl⟩
        · have HC := Lib.hid (show (l.take (k + 1)).all digC = true by rw [HC.out]; simp [digC]; omega)
          have e1 : (9223372036854775807 - (c - 48)).tdiv 10 = (9223372036854775807 - (c - 48)) / 10 := Int.tdiv_eq_ediv_of_nonneg (by omega)
          by_cases hbig : (9223372036854775807 - (c - 48)) / 10 < v
          · have HF := Lib.hid (readD_over HC.out (by rw [HW.out]; omega))
            go_wp2
            go_ret2
            exact ⟨by rw [HF.out] <;> rfl, rfl⟩
          · go_wp2
            go_roundw
            case rel => exact ⟨k + 1, 10 * v + (c - 48), by omega, by go_num, by go_num, by omega, by omega, by trivial, Lib.hid HW.out.symm, HC⟩
            case measure => simp [intOf]; omega
    · obtain rfl : k = l.length := by omega
      rw [List.take_length] at HV HT
      have HD := Lib.hid (fun w => rdec64_c v (by omega) v1 w)
      have he := HEq.out v
      by_cases hn : l = []
      · have h0 := HN1.out hn
        have HF := Lib.hid (show readD l = (0, false) by subst hn; rfl)
        clear HX HEq HN0 HN1 HV HT
        go_wp2
        go_ret2
        exact ⟨by rw [HF.out] <;> rfl, rfl⟩
      · have h0 := HN0.out hn
        have HI := Lib.hid (dec_iff HT.out (by rw [← HV.out]; exact v1))
        rw [← HV.out] at HI
        have HVV := HV
        generalize str (decF v) = sv at *
        by_cases hk : okD l = true
        · have HF := Lib.hid (show readD l = (v, true) by rw [readD_yes hk (by rw [← HV.out]; exact v1), HV.out])
          rw [HI.out.2 hk] at he
          simp only [decide_true] at he
          clear hk HI HX HEq HN0 HN1 HV HT
          go_wp2_with (go_at_call 19; go_loud (refine Rets.use (HD.out _) ?_); rintro _ _ ⟨rfl, rfl⟩)
          go_ret2
          exact ⟨by rw [HF.out] <;> rfl, rfl⟩
        · have HF := Lib.hid (show readD l = (0, false) from readD_no (by simpa using hk))
          rw [decide_eq_false (fun e => hk (HI.out.1 e))] at he
          clear hk HI HX HEq HN0 HN1 HV HT
          go_wp2_with (go_at_call 19; go_loud (refine Rets.use (HD.out _) ?_); rintro _ _ ⟨rfl, rfl⟩)
          go_ret2
          exact ⟨by rw [HF.out] <;> rfl, rfl⟩
end Go.Proofs.YtibegbmehpggbaaDoor
