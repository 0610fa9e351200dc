/-
  Answers that are read, the document's: the walks of Codes, counted.
-/
import Derived.Test.YtibegbmehpggbaaDoorRepW
namespace Go.Proofs.YtibegbmehpggbaaDoor
open Go.RowKit Go.Canon Go.Mem
set_option linter.unusedVariables false
set_option linter.unusedSimpArgs false
theorem row2_int9 : (Tryd.prog.info? 3).map (fun i => (i.zero, i.size)) = some (some (.int .i64 0), 1) := by kernel_rfl
def codeCells : List Value := Ans.codes.map (Value.int .i64)
set_option maxHeartbeats 1600000 in
set_option maxRecDepth 100000 in
theorem rcodes_c (w : World) : Calls Tryd.prog 23 #[] w (Rets (fun v w' => v = .slice (some ⟨w.heap.size, 0, none⟩) 12 12 ∧ w'.heap[w.heap.size]? = some (.cells codeCells.toArray 3 (0, 0)) ∧ Keeps (fun _ => False) w w')) := by
  go_enter Tryd.func23, Tryd.ntmps23
  go_wp2_with ((with_reducible refine at_ 1 rfl ?_); go_must (refine step_lit rfl 42 _ 12 rfl codeCells rfl rfl (by decide) 3 _ 1 Tryd.underlying42 row2_int9 (by decide) (by decide) (by intro v hv; unfold codeCells at hv; rw [List.mem_map] at hv; obtain ⟨f, _, rfl⟩ := hv; rfl) ?_); intro w2 hb2 hk2 hs2)
  go_ret
  exact ⟨rfl, hb2, hk2⟩
theorem byte_at {w : World} {ok : Nat → Prop} {b o c n : Nat} {l : List Int} (h : Rd w ok (.slice (some ⟨b, o, none⟩) n c) n (Disk.bytes8 l)) {k : Nat} (hk : k < l.length) : w.cell? ⟨b, o + k, none⟩ = some (.int .u8 l[k]) := by
  obtain ⟨A, c', e, _, _, h4⟩ := h
  rcases h4 with h4 | ⟨b', o', e2, _, hc⟩
  · have := congrArg List.length h4; rw [Disk.bytes8_len, List.length_nil] at this; omega
  · cases e
    cases e2
    exact hc k _ (by simp [Disk.bytes8, hk])
theorem rd_piece {w : World} {ok : Nat → Prop} {b o c n : Nat} {l : List Int} (h : Rd w ok (.slice (some ⟨b, o, none⟩) n c) n (Disk.bytes8 l)) (i m : Nat) (hm : i + m ≤ l.length) (c' : Nat) (hc : m ≤ c') : Rd w ok (.slice (some ⟨b, o + i, none⟩) m c') ((l.drop i).take m).length (Disk.bytes8 ((l.drop i).take m)) := by
  have hl : ((l.drop i).take m).length = m := by rw [List.length_take, List.length_drop]; omega
  obtain ⟨A, c0, e, _, _, h4⟩ := h
  cases e
  refine ⟨_, _, by rw [hl], by rw [hl]; omega, fun h => (by cases h), ?_⟩
  rcases h4 with h4 | ⟨b', o', e2, hb, hcell⟩
  · left
    have h5 : l = [] := by have := congrArg List.length h4; rw [Disk.bytes8_len, List.length_nil] at this; exact List.eq_nil_of_length_eq_zero this
    subst h5
    simp [Disk.bytes8]
  · cases e2
    refine .inr ⟨b, o + i, rfl, hb, fun j u hu => ?_⟩
    have := hcell (i + j) u (by
      unfold Disk.bytes8 at hu ⊢
      rw [List.getElem?_map, List.getElem?_take] at hu
      split at hu
      · rw [List.getElem?_drop] at hu; rw [List.getElem?_map]; exact hu
      · cases hu)
    rwa [Nat.add_assoc]
theorem beg_match {r : List Int} {i : Nat} (h : ∀ j, j < i → r[j]? = Ans.fin4[j]?) (hl : r.length ≤ i ∨ i = 4) : Ans.beg r Ans.fin4 = true := by
  unfold Ans.beg
  apply decide_eq_true
  have h4 : Ans.fin4.length = 4 := rfl
  apply List.ext_getElem?
  intro j
  rw [List.getElem?_take, List.getElem?_take]
  split
  · rename_i hj
    exact h j (by omega)
  · rfl
theorem beg_miss {r : List Int} {i : Nat} {x y : Int} (hx : r[i]? = some x) (hy : Ans.fin4[i]? = some y) (hn : x ≠ y) : Ans.beg r Ans.fin4 = false := by
  unfold Ans.beg
  apply decide_eq_false
  intro e
  have h1 := (List.getElem?_eq_some_iff.1 hx).1
  have h2 := (List.getElem?_eq_some_iff.1 hy).1
  have := congrArg (·[i]?) e
  simp only [List.getElem?_take] at this
  rw [if_pos (by omega), if_pos (by omega), hx, hy] at this
  exact hn (Option.some.inj this)
theorem rd_none (w : World) (b o : Nat) : Rd w (fun _ => True) (.slice (some ⟨b, o, none⟩) 0 0) ([] : List Int).length (Disk.bytes8 []) := ⟨_, _, rfl, Nat.le_refl _, fun h => (by cases h), .inl rfl⟩
def CountIs (w : World) (p : (List Int × Int) × Int) : Value → World → Prop := fun v w' => Keeps (fun _ => False) w w' ∧ ∃ u, v = .tuple #[u, .int .i64 p.1.2, .int .i64 p.2] ∧ Rd w' (fun k => w.heap.size ≤ k) u p.1.1.length (Disk.bytes8 p.1.1)
theorem count_bad {w w' : World} {e : Int} (hk : Keeps (fun _ => False) w w') : CountIs w (([], 0), e) (.tuple #[.slice none 0 0, .int .i64 0, .int .i64 e]) w' := ⟨hk, .slice none 0 0, rfl, Rd.nil _ _⟩
set_option maxHeartbeats 6400000 in
set_option maxRecDepth 100000 in
theorem rcounted_c {w : World} {ok : Nat → Prop} (l : List Int) (hne : l ≠ []) (hB : IsB l) (hl : l.length ≤ 1000000) (v : Value) (hr : Rd w ok v l.length (Disk.bytes8 l)) : Calls Tryd.prog 24 #[v] w (Rets (CountIs w (Ans.sized l))) := by
  obtain ⟨b, o, c, rfl, hlc, _, _⟩ := hr.at (by intro e; have := congrArg List.length e; rw [Disk.bytes8_len, List.length_nil] at this; exact hne (List.eq_nil_of_length_eq_zero this))
  have HR := Lib.hid hr
  have HRD := Lib.hid (fun (k : Nat) (w : World) => rreadDec_c (l.take k) (hB.take k) (by rw [List.length_take]; omega) w)
  have HB := Lib.hid hB
  have HIf := Lib.hid (show ∀ (i : Nat) (h : i < Ans.fin4.length) (w' : World), (Instr.index 9 (.string ⟨#[13, 10, 13, 10]⟩) (.int .i64 i)).run Tryd.prog w' = .ok (.int .u8 Ans.fin4[i]) w' from fun i h w' => index_str fin4_b h w')
  clear hB hr hne
  go_enter Tryd.func24, Tryd.ntmps24
  go_wp2
  go_loopw [6] (fun i wr => ∃ k : Nat, k ≤ l.length ∧ i = .int .i64 k ∧ wr = w ∧ Hid ((l.take k).all digC = true)) (fun i _ => l.length - (intOf i).toNat)
  case atStart => exact ⟨0, Nat.zero_le _, rfl, rfl, Lib.hid rfl⟩
  case round =>
    obtain ⟨k, hk, rfl, hw, HT⟩ := hrel
    subst wr
    by_cases hlt : k < l.length
    · have hx := byte_at HR.out hlt
      have HC := Lib.hid (show (l.take (k + 1)).all digC = digC l[k] by rw [List.take_add_one, List.getElem?_eq_getElem hlt, List.all_append, HT.out]; simp)
      have HSt := Lib.hid (fun h : digC l[k] = false => digs_stop hk HT.out (fun c hc => by rw [List.getElem?_eq_getElem hlt] at hc; rw [← Option.some.inj hc]; exact h))
      generalize l[k] = ch at *
      by_cases c1 : ch < 48
      · have HDg := Lib.hid (HSt.out (decide_eq_false (by omega)))
        clear HSt HC
        have HRk := Lib.hid (HRD.out k)
        have htk : (l.take k).length = k := by rw [List.length_take]; omega
        have hsz : Ans.sized l = if (readD (l.take k)).2 = false ∨ 8192 < (readD (l.take k)).1 ∨ Ans.beg (l.drop k) Ans.fin4 = false then (([], 0), 4) else if (l.length : Int) - k - 4 < (readD (l.take k)).1 then (([], 0), 3) else (((l.drop (k + 4)).take (readD (l.take k)).1.toNat, (k : Int) + 4 + (readD (l.take k)).1), 0) := by
          unfold Ans.sized; rw [HDg.out, htk]
        have hn0 := Wire.readD_pos (l.take k)
        have HFr := Lib.hid (by have := Rd.front HR.out k 1 hk (by rw [Disk.bytes8_len, Nat.mul_one]); rw [Nat.mul_one] at this; rw [htk]; unfold Disk.bytes8 at *; rw [List.map_take]; exact this : Rd w ok (.slice (some ⟨b, o, none⟩) k c) (l.take k).length (Disk.bytes8 (l.take k)))
        have HBt := Lib.hid (HB.out.take k)
        obtain ⟨lt, hlt2⟩ : ∃ lt, l.take k = lt := ⟨_, rfl⟩
        rw [hlt2] at hsz hn0 HRk HFr HBt htk
        obtain ⟨stk, hstk⟩ : ∃ s, s = str lt := ⟨_, rfl⟩
        have HSt := Lib.hid hstk
        rw [← hstk] at HRk
        generalize readD lt = q at *
        obtain ⟨n, okk⟩ := q
        simp only at hsz hn0 HRk
        clear HRD HDg HT hlt2 hstk
        cases okk with
        | false =>
          have HZ := Lib.hid (show Ans.sized l = (([], 0), 4) by rw [hsz, if_pos (.inl rfl)])
          clear hsz
          go_wp2_with (first
            | ((with_reducible refine at_ 34 rfl ?_); go_must (refine step_bytes_str rfl _ _ _ rfl 5 Tryd.underlying22 Tryd.underlying5 Tryd.underlying9 (.slice (some ⟨b, o, none⟩) k c) lt rfl HFr.out HBt.out ?_); rw [← HSt.out])
            | (go_at_call 30; refine Rets.use (HRk.out _) ?_; rintro _ _ ⟨rfl, rfl⟩))
          go_ret3
          rw [HZ.out]
          exact count_bad (Keeps.refl _ _)
        | true =>
          by_cases hn : 8192 < n
          · have HZ := Lib.hid (show Ans.sized l = (([], 0), 4) by rw [hsz, if_pos (.inr (.inl hn))])
            clear hsz
            go_wp2_with (first
              | ((with_reducible refine at_ 34 rfl ?_); go_must (refine step_bytes_str rfl _ _ _ rfl 5 Tryd.underlying22 Tryd.underlying5 Tryd.underlying9 (.slice (some ⟨b, o, none⟩) k c) lt rfl HFr.out HBt.out ?_); rw [← HSt.out])
              | (go_at_call 30; refine Rets.use (HRk.out _) ?_; rintro _ _ ⟨rfl, rfl⟩))
            go_ret3
            rw [HZ.out]
            exact count_bad (Keeps.refl _ _)
          · have HSZ := Lib.hid (show Ans.beg (l.drop k) Ans.fin4 = false → Ans.sized l = (([], 0), 4) from fun h => by rw [hsz, if_pos (.inr (.inr h))])
            have HSZ2 := Lib.hid (show Ans.beg (l.drop k) Ans.fin4 = true → Ans.sized l = if (l.length : Int) - k - 4 < n then (([], 0), 3) else (((l.drop (k + 4)).take n.toNat, (k : Int) + 4 + n), 0) from fun h => by rw [hsz, if_neg (by rintro (h' | h' | h'); cases h'; exact hn h'; rw [h] at h'; cases h')])
            clear hsz
            go_wp2_with (first
              | ((with_reducible refine at_ 34 rfl ?_); go_must (refine step_bytes_str rfl _ _ _ rfl 5 Tryd.underlying22 Tryd.underlying5 Tryd.underlying9 (.slice (some ⟨b, o, none⟩) k c) lt rfl HFr.out HBt.out ?_); rw [← HSt.out])
              | (go_at_call 30; refine Rets.use (HRk.out _) ?_; rintro _ _ ⟨rfl, rfl⟩))
            go_loopw [9] (fun q wr => ∃ i : Nat, i ≤ 4 ∧ q = .int .i64 i ∧ Keeps (fun _ => False) w wr ∧ Hid (∀ j, j < i → (l.drop k)[j]? = Ans.fin4[j]?)) (fun q _ => 4 - (intOf q).toNat)
            case atStart => exact ⟨0, Nat.zero_le _, rfl, Keeps.refl _ _, Lib.hid (fun j h => by omega)⟩
            case round =>
              obtain ⟨i, hi, rfl, hkr, HM⟩ := hrel
              have HKr := Lib.hid hkr
              by_cases hi4 : i < 4
              · by_cases hend : l.length ≤ k + i
                · have HZ := Lib.hid (show Ans.sized l = (([], 0), 3) by rw [HSZ2.out (beg_match HM.out (.inl (by rw [List.length_drop]; omega))), if_pos (by omega)])
                  clear hkr
                  go_wp2
                  go_ret3
                  rw [HZ.out]
                  exact count_bad HKr.out
                · first
                  | (exfalso; omega)
                  | (
                    have hki : k + i < l.length := by omega
                    have hx := hkr.cell (byte_at HR.out hki) (fun h => h)
                    have hfi := HIf.out i (show i < Ans.fin4.length from hi4)
                    have HX := Lib.hid (show (l.drop k)[i]? = some l[k + i] by rw [List.getElem?_drop, List.getElem?_eq_getElem hki])
                    have HY := Lib.hid (List.getElem?_eq_getElem (show i < Ans.fin4.length from hi4))
                    generalize Ans.fin4[i] = y at *
                    generalize l[k + i] = x at *
                    clear hkr
                    by_cases hxy : x = y
                    · subst hxy
                      have hq : (x != x) = false := by simp
                      have HM2 := Lib.hid (show ∀ j, j < i + 1 → (l.drop k)[j]? = Ans.fin4[j]? by
                        intro j hj
                        by_cases h : j < i
                        · exact HM.out j h
                        · obtain rfl : j = i := by omega
                          rw [HX.out, HY.out])
                      go_wp2
                      refine Canon.row [0, 1, 2, 3, 4, 6, 7, 8, 5, 9] (by kernel_rfl) (by kernel_rfl) (by repeat (first | (with_reducible exact Safe.body) | (with_reducible apply Safe.then) | (with_reducible apply Safe.inBlock) | (dsimp +zetaDelta only))) ?_
                      simp only [Canon.pick, Canon.wpPlan, List.getElem?_toArray, List.getElem?_cons_zero, List.getElem?_cons_succ]
                      have KD := HKr.out.trans ((Keeps.refl _ wr).drew) (fun _ _ h => h)
                      have hx2 := ((Keeps.refl (fun _ => False) wr).drew).cell hx (fun h => h)
                      generalize wr.drew = wd at *
                      go_wp2
                      refine ⟨by rfl, trivial, ?_⟩
                      go_wp2
                      go_roundw
                      case rel => exact ⟨i + 1, by omega, by go_num, KD, HM2⟩
                      case measure => simp [intOf]; omega
                    · have hq : (x != y) = true := by simpa using hxy
                      have HZ := Lib.hid (HSZ.out (beg_miss HX.out HY.out hxy))
                      clear hxy
                      go_wp2
                      refine Canon.row [0, 1, 2, 3, 4, 6, 7, 8, 5, 9] (by kernel_rfl) (by kernel_rfl) (by repeat (first | (with_reducible exact Safe.body) | (with_reducible apply Safe.then) | (with_reducible apply Safe.inBlock) | (dsimp +zetaDelta only))) ?_
                      simp only [Canon.pick, Canon.wpPlan, List.getElem?_toArray, List.getElem?_cons_zero, List.getElem?_cons_succ]
                      have KD := HKr.out.trans ((Keeps.refl _ wr).drew) (fun _ _ h => h)
                      have hx2 := ((Keeps.refl (fun _ => False) wr).drew).cell hx (fun h => h)
                      generalize wr.drew = wd at *
                      go_wp2
                      refine ⟨by rfl, trivial, ?_⟩
                      go_wp2
                      go_ret3
                      rw [HZ.out]
                      exact count_bad KD
                    )
              · obtain rfl : i = 4 := by omega
                have hZ := HSZ2.out (beg_match HM.out (.inr rfl))
                clear hkr
                by_cases hs : (l.length : Int) - k - 4 < n
                · have HZ := Lib.hid (show Ans.sized l = (([], 0), 3) by rw [hZ, if_pos hs])
                  clear hZ
                  go_wp2
                  go_ret3
                  rw [HZ.out]
                  exact count_bad HKr.out
                · first
                  | (exfalso; omega)
                  | (
                    rw [if_neg hs] at hZ
                    obtain ⟨m, rfl⟩ : ∃ m : Nat, n = (m : Int) := ⟨n.toNat, by omega⟩
                    rw [Int.toNat_natCast] at hZ
                    have HZ := Lib.hid hZ
                    have hm4 : k + 4 + m ≤ l.length := by omega
                    have HPc := Lib.hid (rd_piece HR.out (k + 4) m hm4 (c - (k + 4)) (by omega))
                    have hFl : ((l.drop (k + 4)).take m).length = m := by rw [List.length_take, List.length_drop]; omega
                    obtain ⟨F, hF⟩ : ∃ F, (l.drop (k + 4)).take m = F := ⟨_, rfl⟩
                    rw [hF] at HPc HZ hFl
                    clear hZ hF
                    by_cases hac : k + 4 < c
                    · go_wp2_with (go_at_call 7; refine Rets.use (copy_c _ F (HPc.out.kept HKr.out (fun _ _ h => h)) (by omega)) ?_; rintro u5 w5 ⟨hO5, hk5⟩)
                      go_ret3
                      rw [HZ.out]
                      exact ⟨HKr.out.trans hk5 (fun _ _ h => h), u5, by rfl, hO5.rd.mono (fun k h => by have := HKr.out.size; omega)⟩
                    · have hc4 : c = k + 4 := by omega
                      obtain rfl : m = 0 := by omega
                      have hF0 : F = [] := List.eq_nil_of_length_eq_zero hFl
                      subst hF0
                      clear hFl HPc
                      go_wp2_with (go_at_call 7; go_loud (refine Rets.use (copy_c _ [] (rd_none wr b o) (by decide)) ?_); rintro u5 w5 ⟨hO5, hk5⟩)
                      go_ret3
                      rw [HZ.out]
                      exact ⟨HKr.out.trans hk5 (fun _ _ h => h), u5, by rfl, hO5.rd.mono (fun k h => by have := HKr.out.size; omega)⟩
                    )
      · by_cases c2 : 57 < ch
        · have HDg := Lib.hid (HSt.out (decide_eq_false (by omega)))
          clear HSt HC
          have HRk := Lib.hid (HRD.out k)
          have htk : (l.take k).length = k := by rw [List.length_take]; omega
          have hsz : Ans.sized l = if (readD (l.take k)).2 = false ∨ 8192 < (readD (l.take k)).1 ∨ Ans.beg (l.drop k) Ans.fin4 = false then (([], 0), 4) else if (l.length : Int) - k - 4 < (readD (l.take k)).1 then (([], 0), 3) else (((l.drop (k + 4)).take (readD (l.take k)).1.toNat, (k : Int) + 4 + (readD (l.take k)).1), 0) := by
            unfold Ans.sized; rw [HDg.out, htk]
          have hn0 := Wire.readD_pos (l.take k)
          have HFr := Lib.hid (by have := Rd.front HR.out k 1 hk (by rw [Disk.bytes8_len, Nat.mul_one]); rw [Nat.mul_one] at this; rw [htk]; unfold Disk.bytes8 at *; rw [List.map_take]; exact this : Rd w ok (.slice (some ⟨b, o, none⟩) k c) (l.take k).length (Disk.bytes8 (l.take k)))
          have HBt := Lib.hid (HB.out.take k)
          obtain ⟨lt, hlt2⟩ : ∃ lt, l.take k = lt := ⟨_, rfl⟩
          rw [hlt2] at hsz hn0 HRk HFr HBt htk
          obtain ⟨stk, hstk⟩ : ∃ s, s = str lt := ⟨_, rfl⟩
          have HSt := Lib.hid hstk
          rw [← hstk] at HRk
          generalize readD lt = q at *
          obtain ⟨n, okk⟩ := q
          simp only at hsz hn0 HRk
          clear HRD HDg HT hlt2 hstk
          cases okk with
          | false =>
            have HZ := Lib.hid (show Ans.sized l = (([], 0), 4) by rw [hsz, if_pos (.inl rfl)])
            clear hsz
            go_wp2_with (first
              | ((with_reducible refine at_ 34 rfl ?_); go_must (refine step_bytes_str rfl _ _ _ rfl 5 Tryd.underlying22 Tryd.underlying5 Tryd.underlying9 (.slice (some ⟨b, o, none⟩) k c) lt rfl HFr.out HBt.out ?_); rw [← HSt.out])
              | (go_at_call 30; refine Rets.use (HRk.out _) ?_; rintro _ _ ⟨rfl, rfl⟩))
            go_ret3
            rw [HZ.out]
            exact count_bad (Keeps.refl _ _)
          | true =>
            by_cases hn : 8192 < n
            · have HZ := Lib.hid (show Ans.sized l = (([], 0), 4) by rw [hsz, if_pos (.inr (.inl hn))])
              clear hsz
              go_wp2_with (first
                | ((with_reducible refine at_ 34 rfl ?_); go_must (refine step_bytes_str rfl _ _ _ rfl 5 Tryd.underlying22 Tryd.underlying5 Tryd.underlying9 (.slice (some ⟨b, o, none⟩) k c) lt rfl HFr.out HBt.out ?_); rw [← HSt.out])
                | (go_at_call 30; refine Rets.use (HRk.out _) ?_; rintro _ _ ⟨rfl, rfl⟩))
              go_ret3
              rw [HZ.out]
              exact count_bad (Keeps.refl _ _)
            · have HSZ := Lib.hid (show Ans.beg (l.drop k) Ans.fin4 = false → Ans.sized l = (([], 0), 4) from fun h => by rw [hsz, if_pos (.inr (.inr h))])
              have HSZ2 := Lib.hid (show Ans.beg (l.drop k) Ans.fin4 = true → Ans.sized l = if (l.length : Int) - k - 4 < n then (([], 0), 3) else (((l.drop (k + 4)).take n.toNat, (k : Int) + 4 + n), 0) from fun h => by rw [hsz, if_neg (by rintro (h' | h' | h'); cases h'; exact hn h'; rw [h] at h'; cases h')])
              clear hsz
              go_wp2_with (first
                | ((with_reducible refine at_ 34 rfl ?_); go_must (refine step_bytes_str rfl _ _ _ rfl 5 Tryd.underlying22 Tryd.underlying5 Tryd.underlying9 (.slice (some ⟨b, o, none⟩) k c) lt rfl HFr.out HBt.out ?_); rw [← HSt.out])
                | (go_at_call 30; refine Rets.use (HRk.out _) ?_; rintro _ _ ⟨rfl, rfl⟩))
              go_loopw [9] (fun q wr => ∃ i : Nat, i ≤ 4 ∧ q = .int .i64 i ∧ Keeps (fun _ => False) w wr ∧ Hid (∀ j, j < i → (l.drop k)[j]? = Ans.fin4[j]?)) (fun q _ => 4 - (intOf q).toNat)
              case atStart => exact ⟨0, Nat.zero_le _, rfl, Keeps.refl _ _, Lib.hid (fun j h => by omega)⟩
              case round =>
                obtain ⟨i, hi, rfl, hkr, HM⟩ := hrel
                have HKr := Lib.hid hkr
                by_cases hi4 : i < 4
                · by_cases hend : l.length ≤ k + i
                  · have HZ := Lib.hid (show Ans.sized l = (([], 0), 3) by rw [HSZ2.out (beg_match HM.out (.inl (by rw [List.length_drop]; omega))), if_pos (by omega)])
                    clear hkr
                    go_wp2
                    go_ret3
                    rw [HZ.out]
                    exact count_bad HKr.out
                  · first
                    | (exfalso; omega)
                    | (
                      have hki : k + i < l.length := by omega
                      have hx := hkr.cell (byte_at HR.out hki) (fun h => h)
                      have hfi := HIf.out i (show i < Ans.fin4.length from hi4)
                      have HX := Lib.hid (show (l.drop k)[i]? = some l[k + i] by rw [List.getElem?_drop, List.getElem?_eq_getElem hki])
                      have HY := Lib.hid (List.getElem?_eq_getElem (show i < Ans.fin4.length from hi4))
                      generalize Ans.fin4[i] = y at *
                      generalize l[k + i] = x at *
                      clear hkr
                      by_cases hxy : x = y
                      · subst hxy
                        have hq : (x != x) = false := by simp
                        have HM2 := Lib.hid (show ∀ j, j < i + 1 → (l.drop k)[j]? = Ans.fin4[j]? by
                          intro j hj
                          by_cases h : j < i
                          · exact HM.out j h
                          · obtain rfl : j = i := by omega
                            rw [HX.out, HY.out])
                        go_wp2
                        refine Canon.row [0, 1, 2, 3, 4, 6, 7, 8, 5, 9] (by kernel_rfl) (by kernel_rfl) (by repeat (first | (with_reducible exact Safe.body) | (with_reducible apply Safe.then) | (with_reducible apply Safe.inBlock) | (dsimp +zetaDelta only))) ?_
                        simp only [Canon.pick, Canon.wpPlan, List.getElem?_toArray, List.getElem?_cons_zero, List.getElem?_cons_succ]
                        have KD := HKr.out.trans ((Keeps.refl _ wr).drew) (fun _ _ h => h)
                        have hx2 := ((Keeps.refl (fun _ => False) wr).drew).cell hx (fun h => h)
                        generalize wr.drew = wd at *
                        go_wp2
                        refine ⟨by rfl, trivial, ?_⟩
                        go_wp2
                        go_roundw
                        case rel => exact ⟨i + 1, by omega, by go_num, KD, HM2⟩
                        case measure => simp [intOf]; omega
                      · have hq : (x != y) = true := by simpa using hxy
                        have HZ := Lib.hid (HSZ.out (beg_miss HX.out HY.out hxy))
                        clear hxy
                        go_wp2
                        refine Canon.row [0, 1, 2, 3, 4, 6, 7, 8, 5, 9] (by kernel_rfl) (by kernel_rfl) (by repeat (first | (with_reducible exact Safe.body) | (with_reducible apply Safe.then) | (with_reducible apply Safe.inBlock) | (dsimp +zetaDelta only))) ?_
                        simp only [Canon.pick, Canon.wpPlan, List.getElem?_toArray, List.getElem?_cons_zero, List.getElem?_cons_succ]
                        have KD := HKr.out.trans ((Keeps.refl _ wr).drew) (fun _ _ h => h)
                        have hx2 := ((Keeps.refl (fun _ => False) wr).drew).cell hx (fun h => h)
                        generalize wr.drew = wd at *
                        go_wp2
                        refine ⟨by rfl, trivial, ?_⟩
                        go_wp2
                        go_ret3
                        rw [HZ.out]
                        exact count_bad KD
                      )
                · obtain rfl : i = 4 := by omega
                  have hZ := HSZ2.out (beg_match HM.out (.inr rfl))
                  clear hkr
                  by_cases hs : (l.length : Int) - k - 4 < n
                  · have HZ := Lib.hid (show Ans.sized l = (([], 0), 3) by rw [hZ, if_pos hs])
                    clear hZ
                    go_wp2
                    go_ret3
                    rw [HZ.out]
                    exact count_bad HKr.out
                  · first
                    | (exfalso; omega)
                    | (
                      rw [if_neg hs] at hZ
                      obtain ⟨m, rfl⟩ : ∃ m : Nat, n = (m : Int) := ⟨n.toNat, by omega⟩
                      rw [Int.toNat_natCast] at hZ
                      have HZ := Lib.hid hZ
                      have hm4 : k + 4 + m ≤ l.length := by omega
                      have HPc := Lib.hid (rd_piece HR.out (k + 4) m hm4 (c - (k + 4)) (by omega))
                      have hFl : ((l.drop (k + 4)).take m).length = m := by rw [List.length_take, List.length_drop]; omega
                      obtain ⟨F, hF⟩ : ∃ F, (l.drop (k + 4)).take m = F := ⟨_, rfl⟩
                      rw [hF] at HPc HZ hFl
                      clear hZ hF
                      by_cases hac : k + 4 < c
                      · go_wp2_with (go_at_call 7; refine Rets.use (copy_c _ F (HPc.out.kept HKr.out (fun _ _ h => h)) (by omega)) ?_; rintro u5 w5 ⟨hO5, hk5⟩)
                        go_ret3
                        rw [HZ.out]
                        exact ⟨HKr.out.trans hk5 (fun _ _ h => h), u5, by rfl, hO5.rd.mono (fun k h => by have := HKr.out.size; omega)⟩
                      · have hc4 : c = k + 4 := by omega
                        obtain rfl : m = 0 := by omega
                        have hF0 : F = [] := List.eq_nil_of_length_eq_zero hFl
                        subst hF0
                        clear hFl HPc
                        go_wp2_with (go_at_call 7; go_loud (refine Rets.use (copy_c _ [] (rd_none wr b o) (by decide)) ?_); rintro u5 w5 ⟨hO5, hk5⟩)
                        go_ret3
                        rw [HZ.out]
                        exact ⟨HKr.out.trans hk5 (fun _ _ h => h), u5, by rfl, hO5.rd.mono (fun k h => by have := HKr.out.size; omega)⟩
                      )
        · have HT2 := Lib.hid (show (l.take (k + 1)).all digC = true by rw [HC.out]; exact decide_eq_true (by omega))
          go_wp2
          go_roundw
          case rel => exact ⟨k + 1, by omega, by go_num, by trivial, HT2⟩
          case measure => simp [intOf]; omega
    · have HDg := Lib.hid (digs_stop hk HT.out (fun c hc => by rw [List.getElem?_eq_none (by omega)] at hc; cases hc))
      have HRk := Lib.hid (HRD.out k)
      have htk : (l.take k).length = k := by rw [List.length_take]; omega
      have hsz : Ans.sized l = if (readD (l.take k)).2 = false ∨ 8192 < (readD (l.take k)).1 ∨ Ans.beg (l.drop k) Ans.fin4 = false then (([], 0), 4) else if (l.length : Int) - k - 4 < (readD (l.take k)).1 then (([], 0), 3) else (((l.drop (k + 4)).take (readD (l.take k)).1.toNat, (k : Int) + 4 + (readD (l.take k)).1), 0) := by
        unfold Ans.sized; rw [HDg.out, htk]
      have hn0 := Wire.readD_pos (l.take k)
      have HFr := Lib.hid (by have := Rd.front HR.out k 1 hk (by rw [Disk.bytes8_len, Nat.mul_one]); rw [Nat.mul_one] at this; rw [htk]; unfold Disk.bytes8 at *; rw [List.map_take]; exact this : Rd w ok (.slice (some ⟨b, o, none⟩) k c) (l.take k).length (Disk.bytes8 (l.take k)))
      have HBt := Lib.hid (HB.out.take k)
      obtain ⟨lt, hlt2⟩ : ∃ lt, l.take k = lt := ⟨_, rfl⟩
      rw [hlt2] at hsz hn0 HRk HFr HBt htk
      obtain ⟨stk, hstk⟩ : ∃ s, s = str lt := ⟨_, rfl⟩
      have HSt := Lib.hid hstk
      rw [← hstk] at HRk
      generalize readD lt = q at *
      obtain ⟨n, okk⟩ := q
      simp only at hsz hn0 HRk
      clear HRD HDg HT hlt2 hstk
      cases okk with
      | false =>
        have HZ := Lib.hid (show Ans.sized l = (([], 0), 4) by rw [hsz, if_pos (.inl rfl)])
        clear hsz
        go_wp2_with (first
          | ((with_reducible refine at_ 34 rfl ?_); go_must (refine step_bytes_str rfl _ _ _ rfl 5 Tryd.underlying22 Tryd.underlying5 Tryd.underlying9 (.slice (some ⟨b, o, none⟩) k c) lt rfl HFr.out HBt.out ?_); rw [← HSt.out])
          | (go_at_call 30; refine Rets.use (HRk.out _) ?_; rintro _ _ ⟨rfl, rfl⟩))
        go_ret3
        rw [HZ.out]
        exact count_bad (Keeps.refl _ _)
      | true =>
        by_cases hn : 8192 < n
        · have HZ := Lib.hid (show Ans.sized l = (([], 0), 4) by rw [hsz, if_pos (.inr (.inl hn))])
          clear hsz
          go_wp2_with (first
            | ((with_reducible refine at_ 34 rfl ?_); go_must (refine step_bytes_str rfl _ _ _ rfl 5 Tryd.underlying22 Tryd.underlying5 Tryd.underlying9 (.slice (some ⟨b, o, none⟩) k c) lt rfl HFr.out HBt.out ?_); rw [← HSt.out])
            | (go_at_call 30; refine Rets.use (HRk.out _) ?_; rintro _ _ ⟨rfl, rfl⟩))
          go_ret3
          rw [HZ.out]
          exact count_bad (Keeps.refl _ _)
        · have HSZ := Lib.hid (show Ans.beg (l.drop k) Ans.fin4 = false → Ans.sized l = (([], 0), 4) from fun h => by rw [hsz, if_pos (.inr (.inr h))])
          have HSZ2 := Lib.hid (show Ans.beg (l.drop k) Ans.fin4 = true → Ans.sized l = if (l.length : Int) - k - 4 < n then (([], 0), 3) else (((l.drop (k + 4)).take n.toNat, (k : Int) + 4 + n), 0) from fun h => by rw [hsz, if_neg (by rintro (h' | h' | h'); cases h'; exact hn h'; rw [h] at h'; cases h')])
          clear hsz
          go_wp2_with (first
            | ((with_reducible refine at_ 34 rfl ?_); go_must (refine step_bytes_str rfl _ _ _ rfl 5 Tryd.underlying22 Tryd.underlying5 Tryd.underlying9 (.slice (some ⟨b, o, none⟩) k c) lt rfl HFr.out HBt.out ?_); rw [← HSt.out])
            | (go_at_call 30; refine Rets.use (HRk.out _) ?_; rintro _ _ ⟨rfl, rfl⟩))
          go_loopw [9] (fun q wr => ∃ i : Nat, i ≤ 4 ∧ q = .int .i64 i ∧ Keeps (fun _ => False) w wr ∧ Hid (∀ j, j < i → (l.drop k)[j]? = Ans.fin4[j]?)) (fun q _ => 4 - (intOf q).toNat)
          case atStart => exact ⟨0, Nat.zero_le _, rfl, Keeps.refl _ _, Lib.hid (fun j h => by omega)⟩
          case round =>
            obtain ⟨i, hi, rfl, hkr, HM⟩ := hrel
            have HKr := Lib.hid hkr
            by_cases hi4 : i < 4
            · by_cases hend : l.length ≤ k + i
              · have HZ := Lib.hid (show Ans.sized l = (([], 0), 3) by rw [HSZ2.out (beg_match HM.out (.inl (by rw [List.length_drop]; omega))), if_pos (by omega)])
                clear hkr
                go_wp2
                go_ret3
                rw [HZ.out]
                exact count_bad HKr.out
              · first
                | (exfalso; omega)
                | (
                  have hki : k + i < l.length := by omega
                  have hx := hkr.cell (byte_at HR.out hki) (fun h => h)
                  have hfi := HIf.out i (show i < Ans.fin4.length from hi4)
                  have HX := Lib.hid (show (l.drop k)[i]? = some l[k + i] by rw [List.getElem?_drop, List.getElem?_eq_getElem hki])
                  have HY := Lib.hid (List.getElem?_eq_getElem (show i < Ans.fin4.length from hi4))
                  generalize Ans.fin4[i] = y at *
                  generalize l[k + i] = x at *
                  clear hkr
                  by_cases hxy : x = y
                  · subst hxy
                    have hq : (x != x) = false := by simp
                    have HM2 := Lib.hid (show ∀ j, j < i + 1 → (l.drop k)[j]? = Ans.fin4[j]? by
                      intro j hj
                      by_cases h : j < i
                      · exact HM.out j h
                      · obtain rfl : j = i := by omega
                        rw [HX.out, HY.out])
                    go_wp2
                    refine Canon.row [0, 1, 2, 3, 4, 6, 7, 8, 5, 9] (by kernel_rfl) (by kernel_rfl) (by repeat (first | (with_reducible exact Safe.body) | (with_reducible apply Safe.then) | (with_reducible apply Safe.inBlock) | (dsimp +zetaDelta only))) ?_
                    simp only [Canon.pick, Canon.wpPlan, List.getElem?_toArray, List.getElem?_cons_zero, List.getElem?_cons_succ]
                    have KD := HKr.out.trans ((Keeps.refl _ wr).drew) (fun _ _ h => h)
                    have hx2 := ((Keeps.refl (fun _ => False) wr).drew).cell hx (fun h => h)
                    generalize wr.drew = wd at *
                    go_wp2
                    refine ⟨by rfl, trivial, ?_⟩
                    go_wp2
                    go_roundw
                    case rel => exact ⟨i + 1, by omega, by go_num, KD, HM2⟩
                    case measure => simp [intOf]; omega
                  · have hq : (x != y) = true := by simpa using hxy
                    have HZ := Lib.hid (HSZ.out (beg_miss HX.out HY.out hxy))
                    clear hxy
                    go_wp2
                    refine Canon.row [0, 1, 2, 3, 4, 6, 7, 8, 5, 9] (by kernel_rfl) (by kernel_rfl) (by repeat (first | (with_reducible exact Safe.body) | (with_reducible apply Safe.then) | (with_reducible apply Safe.inBlock) | (dsimp +zetaDelta only))) ?_
                    simp only [Canon.pick, Canon.wpPlan, List.getElem?_toArray, List.getElem?_cons_zero, List.getElem?_cons_succ]
                    have KD := HKr.out.trans ((Keeps.refl _ wr).drew) (fun _ _ h => h)
                    have hx2 := ((Keeps.refl (fun _ => False) wr).drew).cell hx (fun h => h)
                    generalize wr.drew = wd at *
                    go_wp2
                    refine ⟨by rfl, trivial, ?_⟩
                    go_wp2
                    go_ret3
                    rw [HZ.out]
                    exact count_bad KD
                  )
            · obtain rfl : i = 4 := by omega
              have hZ := HSZ2.out (beg_match HM.out (.inr rfl))
              clear hkr
              by_cases hs : (l.length : Int) - k - 4 < n
              · have HZ := Lib.hid (show Ans.sized l = (([], 0), 3) by rw [hZ, if_pos hs])
                clear hZ
                go_wp2
                go_ret3
                rw [HZ.out]
                exact count_bad HKr.out
              · first
                | (exfalso; omega)
                | (
                  rw [if_neg hs] at hZ
                  obtain ⟨m, rfl⟩ : ∃ m : Nat, n = (m : Int) := ⟨n.toNat, by omega⟩
                  rw [Int.toNat_natCast] at hZ
                  have HZ := Lib.hid hZ
                  have hm4 : k + 4 + m ≤ l.length := by omega
                  have HPc := Lib.hid (rd_piece HR.out (k + 4) m hm4 (c - (k + 4)) (by omega))
                  have hFl : ((l.drop (k + 4)).take m).length = m := by rw [List.length_take, List.length_drop]; omega
                  obtain ⟨F, hF⟩ : ∃ F, (l.drop (k + 4)).take m = F := ⟨_, rfl⟩
                  rw [hF] at HPc HZ hFl
                  clear hZ hF
                  by_cases hac : k + 4 < c
                  · go_wp2_with (go_at_call 7; refine Rets.use (copy_c _ F (HPc.out.kept HKr.out (fun _ _ h => h)) (by omega)) ?_; rintro u5 w5 ⟨hO5, hk5⟩)
                    go_ret3
                    rw [HZ.out]
                    exact ⟨HKr.out.trans hk5 (fun _ _ h => h), u5, by rfl, hO5.rd.mono (fun k h => by have := HKr.out.size; omega)⟩
                  · have hc4 : c = k + 4 := by omega
                    obtain rfl : m = 0 := by omega
                    have hF0 : F = [] := List.eq_nil_of_length_eq_zero hFl
                    subst hF0
                    clear hFl HPc
                    go_wp2_with (go_at_call 7; go_loud (refine Rets.use (copy_c _ [] (rd_none wr b o) (by decide)) ?_); rintro u5 w5 ⟨hO5, hk5⟩)
                    go_ret3
                    rw [HZ.out]
                    exact ⟨HKr.out.trans hk5 (fun _ _ h => h), u5, by rfl, hO5.rd.mono (fun k h => by have := HKr.out.size; omega)⟩
                  )
end Go.Proofs.YtibegbmehpggbaaDoor
