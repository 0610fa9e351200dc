/-
  Answers that are read: the walks of begins, sized.
-/
import Derived.Test.YtibegbmehpggbaaDoorAnsW
namespace Go.Proofs.YtibegbmehpggbaaDoor
open Go.RowKit Go.Canon Go.Mem
set_option linter.unusedVariables false
set_option linter.unusedSimpArgs false
set_option maxHeartbeats 1600000 in
set_option maxRecDepth 100000 in
theorem beginsW_c (a b : List Int) (ha : IsB a) (hb : IsB b) (la : a.length ≤ 1000000) (lb : b.length ≤ 1000000) (w : World) : Calls Tryd.prog 21 #[.string (str a), .string (str b)] w (Rets (Still (.bool (Ans.beg a b)) w)) := by
  have za := str_size a
  have zb := str_size b
  obtain ⟨m, hm⟩ : ∃ m, min a.length b.length = m := ⟨_, rfl⟩
  have hma : m ≤ a.length := by omega
  have hmb : m ≤ b.length := by omega
  have sa : ∀ w', (Instr.slice 9 (.string (str a)) none (some (.int .i64 m)) none).run Tryd.prog w' = .ok (.string (str (a.take m))) w' := fun w' => slice_to hma w'
  have sb : ∀ w', (Instr.slice 9 (.string (str b)) none (some (.int .i64 m)) none).run Tryd.prog w' = .ok (.string (str (b.take m))) w' := fun w' => slice_to hmb w'
  have he := str_eq (ha.take m) (hb.take m)
  have HB := Lib.hid (show Ans.beg a b = decide (a.take m = b.take m) by unfold Ans.beg; rw [hm])
  rw [← HB.out] at he
  generalize str (a.take m) = ta at *
  generalize str (b.take m) = tb at *
  generalize str a = ssa at *
  generalize str b = ssb at *
  generalize Ans.beg a b = r at *
  clear HB
  by_cases hle : a.length ≤ b.length
  · obtain rfl : a.length = m := by omega
    clear hm
    go_enter Tryd.func21, Tryd.ntmps21
    go_wp2
    refine Canon.row [0, 1, 2, 3, 4, 5, 6, 7] (by kernel_rfl) (by kernel_rfl) (by repeat (first | (with_reducible exact Safe.body) | (with_reducible apply Safe.then) | (with_reducible apply Safe.inBlock) | (dsimp +zetaDelta only))) ?_
    simp only [Canon.pick, Canon.wpPlan, List.getElem?_toArray, List.getElem?_cons_zero, List.getElem?_cons_succ]
    go_wp2
    refine ⟨by rfl, trivial, ?_⟩
    go_wp2
    go_ret
    exact ⟨rfl, (Keeps.refl _ _).drew⟩
  · obtain rfl : b.length = m := by omega
    clear hm
    go_enter Tryd.func21, Tryd.ntmps21
    go_wp2
    refine Canon.row [0, 1, 2, 3, 4, 5, 6, 7] (by kernel_rfl) (by kernel_rfl) (by repeat (first | (with_reducible exact Safe.body) | (with_reducible apply Safe.then) | (with_reducible apply Safe.inBlock) | (dsimp +zetaDelta only))) ?_
    simp only [Canon.pick, Canon.wpPlan, List.getElem?_toArray, List.getElem?_cons_zero, List.getElem?_cons_succ]
    go_wp2
    refine ⟨by rfl, trivial, ?_⟩
    go_wp2
    go_ret
    exact ⟨rfl, (Keeps.refl _ _).drew⟩
theorem digs_stop {l : List Int} {k : Nat} (hk : k ≤ l.length) (h : (l.take k).all digC = true) (h2 : ∀ c, l[k]? = some c → digC c = false) : Ans.digs l = l.take k := by
  unfold Ans.digs
  conv => lhs; rw [← List.take_append_drop k l]
  rw [List.takeWhile_append_of_pos (fun c hc => List.all_eq_true.1 h c hc)]
  have : (l.drop k).takeWhile digC = [] := by
    cases hd : l.drop k with
    | nil => rfl
    | cons c r =>
      have hc : l[k]? = some c := by
        have := congrArg (·[0]?) hd
        simpa [List.getElem?_drop] using this
      rw [List.takeWhile_cons_of_neg (by rw [h2 c hc]; simp)]
  rw [this, List.append_nil]
theorem results_tmp4 {fn : Func} {t u v x : Tmp} (h : fn.results = #[.tmp t, .tmp u, .tmp v, .tmp x]) (tmps : Array Value) (P : Program) (w : World) :
    (results fn tmps).run P w = .ok (.tuple #[tmps.getD t undef, tmps.getD u undef, tmps.getD v undef, tmps.getD x undef]) w := by
  simp [results, h]
/-- What a reader of answers answers. -/
def ReadIs (w : World) (p : (Int × List Int) × (Int × Int)) : Value → World → Prop := fun v w' => Keeps (fun _ => False) w w' ∧ ∃ u, v = .tuple #[.int .i64 p.1.1, u, .int .i64 p.2.1, .int .i64 p.2.2] ∧ Rd w' (fun k => w.heap.size ≤ k) u p.1.2.length (Disk.bytes8 p.1.2)
def sizedAt (x a : Int) (l : List Int) : (Int × List Int) × (Int × Int) := if (Ans.sized l).2 ≠ 0 then ((0, []), (0, (Ans.sized l).2)) else ((x, (Ans.sized l).1.1), (a + (Ans.sized l).1.2, 0))
theorem sizedAt_bad {x a e : Int} {l : List Int} (h : Ans.sized l = (([], 0), e)) (he : e ≠ 0) : sizedAt x a l = ((0, []), (0, e)) := by unfold sizedAt; rw [h, if_pos he]
theorem sizedAt_ok {x a n : Int} {l b : List Int} (h : Ans.sized l = ((b, n), 0)) : sizedAt x a l = ((x, b), (a + n, 0)) := by unfold sizedAt; rw [h]; rfl
set_option maxHeartbeats 6400000 in
set_option maxRecDepth 100000 in
theorem sizedW_c (x a : Int) (ha : 0 ≤ a ∧ a ≤ 1000) (l : List Int) (hB : IsB l) (hl : l.length ≤ 1000000) (w : World) : Calls Tryd.prog 22 #[.int .i64 x, .string (str l), .int .i64 a] w (Rets (ReadIs w (sizedAt x a l))) := by
  have zl := str_size l
  have HIx := Lib.hid (fun (k : Nat) (h : k < l.length) (w : World) => index_str hB h w)
  have HTo := Lib.hid (fun (k : Nat) (h : k ≤ l.length) => fun w' => slice_to h w')
  have HFr := Lib.hid (fun (k : Nat) (h : k ≤ l.length) => fun w' => slice_from h w')
  have HMid := Lib.hid (fun (i j : Nat) (h : i ≤ j) (hj : j ≤ l.length) => fun w' => slice_str h hj w')
  have HRD := Lib.hid (fun (k : Nat) (w : World) => readDec_c (l.take k) (hB.take k) (by rw [List.length_take]; omega) w)
  have HBg := Lib.hid (fun (k : Nat) (w : World) => beginsW_c (l.drop k) Ans.fin4 (hB.drop k) fin4_b (by rw [List.length_drop]; omega) (by decide) w)
  have HB := Lib.hid hB
  generalize str l = sl at *
  clear hB
  go_enter Tryd.func22, Tryd.ntmps22
  go_wp2
  go_loopw [10] (fun i wr => ∃ k : Nat, k ≤ l.length ∧ i = .int .i64 k ∧ wr = w ∧ Hid ((l.take k).all digC = true)) (fun i _ => l.length - (intOf i).toNat)
  case atStart => exact ⟨0, Nat.zero_le _, rfl, rfl, Lib.hid rfl⟩
  case round =>
    obtain ⟨k, hk, rfl, hw, HT⟩ := hrel
    subst wr
    by_cases hlt : k < l.length
    · have hx := HIx.out k hlt w
      have HC := Lib.hid (show (l.take (k + 1)).all digC = digC l[k] by rw [List.take_add_one, List.getElem?_eq_getElem hlt, List.all_append, HT.out]; simp)
      have HSt := Lib.hid (fun h : digC l[k] = false => digs_stop hk HT.out (fun c hc => by rw [List.getElem?_eq_getElem hlt] at hc; rw [← Option.some.inj hc]; exact h))
      generalize l[k] = c at *
      by_cases c1 : c < 48
      · have HDg := Lib.hid (HSt.out (decide_eq_false (by omega)))
        clear HSt HC HIx
        have hto := HTo.out _ hk
        have hfr := HFr.out _ hk
        have HRk := Lib.hid (HRD.out k)
        have HBk := Lib.hid (HBg.out k)
        have htk : (l.take k).length = k := by rw [List.length_take]; omega
        have hsz : Ans.sized l = if (readD (l.take k)).2 = false ∨ 8192 < (readD (l.take k)).1 ∨ Ans.beg (l.drop k) Ans.fin4 = false then (([], 0), 4) else if (l.length : Int) - k - 4 < (readD (l.take k)).1 then (([], 0), 3) else (((l.drop (k + 4)).take (readD (l.take k)).1.toNat, (k : Int) + 4 + (readD (l.take k)).1), 0) := by
          unfold Ans.sized; rw [HDg.out, htk]
        have hn0 := Wire.readD_pos (l.take k)
        generalize readD (l.take k) = q at *
        obtain ⟨n, okk⟩ := q
        simp only at hsz hn0 HRk
        generalize str (l.take k) = stk at *
        generalize str (l.drop k) = sdk at *
        generalize Ans.beg (l.drop k) Ans.fin4 = bg at *
        clear HTo HFr HRD HBg HDg htk HT
        cases okk with
        | false =>
          have HZ := Lib.hid (sizedAt_bad (x := x) (a := a) (l := l) (e := 4) (by rw [hsz, if_pos (.inl rfl)]) (by decide))
          clear hsz HMid
          go_wp2_with (first
            | (go_at_call 29; refine Rets.use (HRk.out _) ?_; rintro _ _ ⟨rfl, rfl⟩)
            | (go_at_call 21; refine Rets.use (HBk.out _) ?_; rintro _ w2 ⟨rfl, hk2⟩))
          (try simp only [Exit.inBlock, Exit.then])
          refine bodyPost_ret (results_tmp4 rfl _ _ _) rfl ?_
          rw [HZ.out]
          exact ⟨by first | exact hk2 | exact Keeps.refl _ _, .slice none 0 0, rfl, Rd.nil _ _⟩
        | true =>
          by_cases hn : 8192 < n
          · have HZ := Lib.hid (sizedAt_bad (x := x) (a := a) (l := l) (e := 4) (by rw [hsz, if_pos (.inr (.inl hn))]) (by decide))
            clear hsz HMid
            go_wp2_with (first
              | (go_at_call 29; refine Rets.use (HRk.out _) ?_; rintro _ _ ⟨rfl, rfl⟩)
              | (go_at_call 21; refine Rets.use (HBk.out _) ?_; rintro _ w2 ⟨rfl, hk2⟩))
            (try simp only [Exit.inBlock, Exit.then])
            refine bodyPost_ret (results_tmp4 rfl _ _ _) rfl ?_
            rw [HZ.out]
            exact ⟨by first | exact hk2 | exact Keeps.refl _ _, .slice none 0 0, rfl, Rd.nil _ _⟩
          · cases bg with
            | false =>
              have HZ := Lib.hid (sizedAt_bad (x := x) (a := a) (l := l) (e := 4) (by rw [hsz, if_pos (.inr (.inr rfl))]) (by decide))
              clear hsz HMid
              go_wp2_with (first
                | (go_at_call 29; refine Rets.use (HRk.out _) ?_; rintro _ _ ⟨rfl, rfl⟩)
                | (go_at_call 21; refine Rets.use (HBk.out _) ?_; rintro _ w2 ⟨rfl, hk2⟩))
              (try simp only [Exit.inBlock, Exit.then])
              refine bodyPost_ret (results_tmp4 rfl _ _ _) rfl ?_
              rw [HZ.out]
              exact ⟨by first | exact hk2 | exact Keeps.refl _ _, .slice none 0 0, rfl, Rd.nil _ _⟩
            | true =>
              rw [if_neg (by rintro (h | h | h); cases h; exact hn h; cases h)] at hsz
              by_cases hs : (l.length : Int) - k - 4 < n
              · have HZ := Lib.hid (sizedAt_bad (x := x) (a := a) (l := l) (e := 3) (by rw [hsz, if_pos hs]) (by decide))
                clear hsz HMid
                go_wp2_with (first
                  | (go_at_call 29; refine Rets.use (HRk.out _) ?_; rintro _ _ ⟨rfl, rfl⟩)
                  | (go_at_call 21; refine Rets.use (HBk.out _) ?_; rintro _ w2 ⟨rfl, hk2⟩))
                (try simp only [Exit.inBlock, Exit.then])
                refine bodyPost_ret (results_tmp4 rfl _ _ _) rfl ?_
                rw [HZ.out]
                exact ⟨by first | exact hk2 | exact Keeps.refl _ _, .slice none 0 0, rfl, Rd.nil _ _⟩
              · rw [if_neg hs] at hsz
                obtain ⟨m, rfl⟩ : ∃ m : Nat, n = (m : Int) := ⟨n.toNat, by omega⟩
                rw [Int.toNat_natCast] at hsz
                have HZ := Lib.hid (sizedAt_ok (x := x) (a := a) hsz)
                rw [show a + ((k : Int) + 4 + m) = a + k + 4 + m by omega] at HZ
                have hmid := HMid.out (k + 4) (k + 4 + m) (by omega) (by omega)
                rw [show k + 4 + m - (k + 4) = m by omega] at hmid
                have HFb := Lib.hid ((HB.out.drop (k + 4)).take m)
                have hfl : ((l.drop (k + 4)).take m).length ≤ 8192 := by rw [List.length_take]; omega
                obtain ⟨F, hF⟩ : ∃ F, (l.drop (k + 4)).take m = F := ⟨_, rfl⟩
                rw [hF] at HFb hfl hmid HZ
                obtain ⟨sF, hsF⟩ : ∃ s, s = str F := ⟨_, rfl⟩
                rw [← hsF] at hmid
                have HS := Lib.hid hsF
                clear hsz HMid hF hsF
                rw [show ((k + 4 + m : Nat) : Int) = (k : Int) + 4 + m by omega, show ((k + 4 : Nat) : Int) = (k : Int) + 4 by omega] at hmid
                go_wp2_with (first
                  | (go_at_call 29; refine Rets.use (HRk.out _) ?_; rintro _ _ ⟨rfl, rfl⟩)
                  | (go_at_call 21; refine Rets.use (HBk.out _) ?_; rintro _ w2 ⟨rfl, hk2⟩))
                all_goals
                  refine Canon.row [0, 1, 2, 3, 4, 5, 6, 7, 8, 10, 11, 12, 13, 14, 15, 16, 9, 17, 18, 19] (by kernel_rfl) (by kernel_rfl) (by repeat (first | (with_reducible exact Safe.body) | (with_reducible apply Safe.then) | (with_reducible apply Safe.inBlock) | (dsimp +zetaDelta only))) ?_
                  simp only [Canon.pick, Canon.wpPlan, List.getElem?_toArray, List.getElem?_cons_zero, List.getElem?_cons_succ]
                  have KD := hk2.trans ((Keeps.refl _ w2).drew) (fun _ _ h => h)
                  generalize w2.drew = wd at *
                  go_wp2_with ((with_reducible refine at_ 67 rfl ?_); go_must (refine step_str_mrow rfl _ _ _ rfl Tryd.underlying9 Tryd.underlying22 Tryd.underlying5 F HFb.out (by rw [← HS.out]; rfl) ?_); intro ce w5 hce hm5 hk5)
                  refine ⟨by rfl, trivial, ?_⟩
                  go_wp2
                  (try simp only [Exit.inBlock, Exit.then])
                  refine bodyPost_ret (results_tmp4 rfl _ _ _) rfl ?_
                  rw [HZ.out]
                  exact ⟨KD.trans hk5 (fun _ _ h => h), .slice (some ⟨wd.heap.size, 0, none⟩) F.length ce, by rfl, hm5.rd hce (by have := KD.size; omega)⟩
      · by_cases c2 : 57 < c
        · have HDg := Lib.hid (HSt.out (decide_eq_false (by omega)))
          clear HSt HC HIx
          have hto := HTo.out _ hk
          have hfr := HFr.out _ hk
          have HRk := Lib.hid (HRD.out k)
          have HBk := Lib.hid (HBg.out k)
          have htk : (l.take k).length = k := by rw [List.length_take]; omega
          have hsz : Ans.sized l = if (readD (l.take k)).2 = false ∨ 8192 < (readD (l.take k)).1 ∨ Ans.beg (l.drop k) Ans.fin4 = false then (([], 0), 4) else if (l.length : Int) - k - 4 < (readD (l.take k)).1 then (([], 0), 3) else (((l.drop (k + 4)).take (readD (l.take k)).1.toNat, (k : Int) + 4 + (readD (l.take k)).1), 0) := by
            unfold Ans.sized; rw [HDg.out, htk]
          have hn0 := Wire.readD_pos (l.take k)
          generalize readD (l.take k) = q at *
          obtain ⟨n, okk⟩ := q
          simp only at hsz hn0 HRk
          generalize str (l.take k) = stk at *
          generalize str (l.drop k) = sdk at *
          generalize Ans.beg (l.drop k) Ans.fin4 = bg at *
          clear HTo HFr HRD HBg HDg htk HT
          cases okk with
          | false =>
            have HZ := Lib.hid (sizedAt_bad (x := x) (a := a) (l := l) (e := 4) (by rw [hsz, if_pos (.inl rfl)]) (by decide))
            clear hsz HMid
            go_wp2_with (first
              | (go_at_call 29; refine Rets.use (HRk.out _) ?_; rintro _ _ ⟨rfl, rfl⟩)
              | (go_at_call 21; refine Rets.use (HBk.out _) ?_; rintro _ w2 ⟨rfl, hk2⟩))
            (try simp only [Exit.inBlock, Exit.then])
            refine bodyPost_ret (results_tmp4 rfl _ _ _) rfl ?_
            rw [HZ.out]
            exact ⟨by first | exact hk2 | exact Keeps.refl _ _, .slice none 0 0, rfl, Rd.nil _ _⟩
          | true =>
            by_cases hn : 8192 < n
            · have HZ := Lib.hid (sizedAt_bad (x := x) (a := a) (l := l) (e := 4) (by rw [hsz, if_pos (.inr (.inl hn))]) (by decide))
              clear hsz HMid
              go_wp2_with (first
                | (go_at_call 29; refine Rets.use (HRk.out _) ?_; rintro _ _ ⟨rfl, rfl⟩)
                | (go_at_call 21; refine Rets.use (HBk.out _) ?_; rintro _ w2 ⟨rfl, hk2⟩))
              (try simp only [Exit.inBlock, Exit.then])
              refine bodyPost_ret (results_tmp4 rfl _ _ _) rfl ?_
              rw [HZ.out]
              exact ⟨by first | exact hk2 | exact Keeps.refl _ _, .slice none 0 0, rfl, Rd.nil _ _⟩
            · cases bg with
              | false =>
                have HZ := Lib.hid (sizedAt_bad (x := x) (a := a) (l := l) (e := 4) (by rw [hsz, if_pos (.inr (.inr rfl))]) (by decide))
                clear hsz HMid
                go_wp2_with (first
                  | (go_at_call 29; refine Rets.use (HRk.out _) ?_; rintro _ _ ⟨rfl, rfl⟩)
                  | (go_at_call 21; refine Rets.use (HBk.out _) ?_; rintro _ w2 ⟨rfl, hk2⟩))
                (try simp only [Exit.inBlock, Exit.then])
                refine bodyPost_ret (results_tmp4 rfl _ _ _) rfl ?_
                rw [HZ.out]
                exact ⟨by first | exact hk2 | exact Keeps.refl _ _, .slice none 0 0, rfl, Rd.nil _ _⟩
              | true =>
                rw [if_neg (by rintro (h | h | h); cases h; exact hn h; cases h)] at hsz
                by_cases hs : (l.length : Int) - k - 4 < n
                · have HZ := Lib.hid (sizedAt_bad (x := x) (a := a) (l := l) (e := 3) (by rw [hsz, if_pos hs]) (by decide))
                  clear hsz HMid
                  go_wp2_with (first
                    | (go_at_call 29; refine Rets.use (HRk.out _) ?_; rintro _ _ ⟨rfl, rfl⟩)
                    | (go_at_call 21; refine Rets.use (HBk.out _) ?_; rintro _ w2 ⟨rfl, hk2⟩))
                  (try simp only [Exit.inBlock, Exit.then])
                  refine bodyPost_ret (results_tmp4 rfl _ _ _) rfl ?_
                  rw [HZ.out]
                  exact ⟨by first | exact hk2 | exact Keeps.refl _ _, .slice none 0 0, rfl, Rd.nil _ _⟩
                · rw [if_neg hs] at hsz
                  obtain ⟨m, rfl⟩ : ∃ m : Nat, n = (m : Int) := ⟨n.toNat, by omega⟩
                  rw [Int.toNat_natCast] at hsz
                  have HZ := Lib.hid (sizedAt_ok (x := x) (a := a) hsz)
                  rw [show a + ((k : Int) + 4 + m) = a + k + 4 + m by omega] at HZ
                  have hmid := HMid.out (k + 4) (k + 4 + m) (by omega) (by omega)
                  rw [show k + 4 + m - (k + 4) = m by omega] at hmid
                  have HFb := Lib.hid ((HB.out.drop (k + 4)).take m)
                  have hfl : ((l.drop (k + 4)).take m).length ≤ 8192 := by rw [List.length_take]; omega
                  obtain ⟨F, hF⟩ : ∃ F, (l.drop (k + 4)).take m = F := ⟨_, rfl⟩
                  rw [hF] at HFb hfl hmid HZ
                  obtain ⟨sF, hsF⟩ : ∃ s, s = str F := ⟨_, rfl⟩
                  rw [← hsF] at hmid
                  have HS := Lib.hid hsF
                  clear hsz HMid hF hsF
                  rw [show ((k + 4 + m : Nat) : Int) = (k : Int) + 4 + m by omega, show ((k + 4 : Nat) : Int) = (k : Int) + 4 by omega] at hmid
                  go_wp2_with (first
                    | (go_at_call 29; refine Rets.use (HRk.out _) ?_; rintro _ _ ⟨rfl, rfl⟩)
                    | (go_at_call 21; refine Rets.use (HBk.out _) ?_; rintro _ w2 ⟨rfl, hk2⟩))
                  all_goals
                    refine Canon.row [0, 1, 2, 3, 4, 5, 6, 7, 8, 10, 11, 12, 13, 14, 15, 16, 9, 17, 18, 19] (by kernel_rfl) (by kernel_rfl) (by repeat (first | (with_reducible exact Safe.body) | (with_reducible apply Safe.then) | (with_reducible apply Safe.inBlock) | (dsimp +zetaDelta only))) ?_
                    simp only [Canon.pick, Canon.wpPlan, List.getElem?_toArray, List.getElem?_cons_zero, List.getElem?_cons_succ]
                    have KD := hk2.trans ((Keeps.refl _ w2).drew) (fun _ _ h => h)
                    generalize w2.drew = wd at *
                    go_wp2_with ((with_reducible refine at_ 67 rfl ?_); go_must (refine step_str_mrow rfl _ _ _ rfl Tryd.underlying9 Tryd.underlying22 Tryd.underlying5 F HFb.out (by rw [← HS.out]; rfl) ?_); intro ce w5 hce hm5 hk5)
                    refine ⟨by rfl, trivial, ?_⟩
                    go_wp2
                    (try simp only [Exit.inBlock, Exit.then])
                    refine bodyPost_ret (results_tmp4 rfl _ _ _) rfl ?_
                    rw [HZ.out]
                    exact ⟨KD.trans hk5 (fun _ _ h => h), .slice (some ⟨wd.heap.size, 0, none⟩) F.length ce, by rfl, hm5.rd hce (by have := KD.size; omega)⟩
        · have HT2 := Lib.hid (show (l.take (k + 1)).all digC = true by rw [HC.out]; exact decide_eq_true (by omega))
          go_wp2
          go_roundw
          case rel => exact ⟨k + 1, by omega, by go_num, by trivial, HT2⟩
          case measure => simp [intOf]; omega
    · have HDg := Lib.hid (digs_stop hk HT.out (fun c hc => by rw [List.getElem?_eq_none (by omega)] at hc; cases hc))
      clear HIx
      have hto := HTo.out _ hk
      have hfr := HFr.out _ hk
      have HRk := Lib.hid (HRD.out k)
      have HBk := Lib.hid (HBg.out k)
      have htk : (l.take k).length = k := by rw [List.length_take]; omega
      have hsz : Ans.sized l = if (readD (l.take k)).2 = false ∨ 8192 < (readD (l.take k)).1 ∨ Ans.beg (l.drop k) Ans.fin4 = false then (([], 0), 4) else if (l.length : Int) - k - 4 < (readD (l.take k)).1 then (([], 0), 3) else (((l.drop (k + 4)).take (readD (l.take k)).1.toNat, (k : Int) + 4 + (readD (l.take k)).1), 0) := by
        unfold Ans.sized; rw [HDg.out, htk]
      have hn0 := Wire.readD_pos (l.take k)
      generalize readD (l.take k) = q at *
      obtain ⟨n, okk⟩ := q
      simp only at hsz hn0 HRk
      generalize str (l.take k) = stk at *
      generalize str (l.drop k) = sdk at *
      generalize Ans.beg (l.drop k) Ans.fin4 = bg at *
      clear HTo HFr HRD HBg HDg htk HT
      cases okk with
      | false =>
        have HZ := Lib.hid (sizedAt_bad (x := x) (a := a) (l := l) (e := 4) (by rw [hsz, if_pos (.inl rfl)]) (by decide))
        clear hsz HMid
        go_wp2_with (first
          | (go_at_call 29; refine Rets.use (HRk.out _) ?_; rintro _ _ ⟨rfl, rfl⟩)
          | (go_at_call 21; refine Rets.use (HBk.out _) ?_; rintro _ w2 ⟨rfl, hk2⟩))
        (try simp only [Exit.inBlock, Exit.then])
        refine bodyPost_ret (results_tmp4 rfl _ _ _) rfl ?_
        rw [HZ.out]
        exact ⟨by first | exact hk2 | exact Keeps.refl _ _, .slice none 0 0, rfl, Rd.nil _ _⟩
      | true =>
        by_cases hn : 8192 < n
        · have HZ := Lib.hid (sizedAt_bad (x := x) (a := a) (l := l) (e := 4) (by rw [hsz, if_pos (.inr (.inl hn))]) (by decide))
          clear hsz HMid
          go_wp2_with (first
            | (go_at_call 29; refine Rets.use (HRk.out _) ?_; rintro _ _ ⟨rfl, rfl⟩)
            | (go_at_call 21; refine Rets.use (HBk.out _) ?_; rintro _ w2 ⟨rfl, hk2⟩))
          (try simp only [Exit.inBlock, Exit.then])
          refine bodyPost_ret (results_tmp4 rfl _ _ _) rfl ?_
          rw [HZ.out]
          exact ⟨by first | exact hk2 | exact Keeps.refl _ _, .slice none 0 0, rfl, Rd.nil _ _⟩
        · cases bg with
          | false =>
            have HZ := Lib.hid (sizedAt_bad (x := x) (a := a) (l := l) (e := 4) (by rw [hsz, if_pos (.inr (.inr rfl))]) (by decide))
            clear hsz HMid
            go_wp2_with (first
              | (go_at_call 29; refine Rets.use (HRk.out _) ?_; rintro _ _ ⟨rfl, rfl⟩)
              | (go_at_call 21; refine Rets.use (HBk.out _) ?_; rintro _ w2 ⟨rfl, hk2⟩))
            (try simp only [Exit.inBlock, Exit.then])
            refine bodyPost_ret (results_tmp4 rfl _ _ _) rfl ?_
            rw [HZ.out]
            exact ⟨by first | exact hk2 | exact Keeps.refl _ _, .slice none 0 0, rfl, Rd.nil _ _⟩
          | true =>
            rw [if_neg (by rintro (h | h | h); cases h; exact hn h; cases h)] at hsz
            by_cases hs : (l.length : Int) - k - 4 < n
            · have HZ := Lib.hid (sizedAt_bad (x := x) (a := a) (l := l) (e := 3) (by rw [hsz, if_pos hs]) (by decide))
              clear hsz HMid
              go_wp2_with (first
                | (go_at_call 29; refine Rets.use (HRk.out _) ?_; rintro _ _ ⟨rfl, rfl⟩)
                | (go_at_call 21; refine Rets.use (HBk.out _) ?_; rintro _ w2 ⟨rfl, hk2⟩))
              (try simp only [Exit.inBlock, Exit.then])
              refine bodyPost_ret (results_tmp4 rfl _ _ _) rfl ?_
              rw [HZ.out]
              exact ⟨by first | exact hk2 | exact Keeps.refl _ _, .slice none 0 0, rfl, Rd.nil _ _⟩
            · rw [if_neg hs] at hsz
              obtain ⟨m, rfl⟩ : ∃ m : Nat, n = (m : Int) := ⟨n.toNat, by omega⟩
              rw [Int.toNat_natCast] at hsz
              have HZ := Lib.hid (sizedAt_ok (x := x) (a := a) hsz)
              rw [show a + ((k : Int) + 4 + m) = a + k + 4 + m by omega] at HZ
              have hmid := HMid.out (k + 4) (k + 4 + m) (by omega) (by omega)
              rw [show k + 4 + m - (k + 4) = m by omega] at hmid
              have HFb := Lib.hid ((HB.out.drop (k + 4)).take m)
              have hfl : ((l.drop (k + 4)).take m).length ≤ 8192 := by rw [List.length_take]; omega
              obtain ⟨F, hF⟩ : ∃ F, (l.drop (k + 4)).take m = F := ⟨_, rfl⟩
              rw [hF] at HFb hfl hmid HZ
              obtain ⟨sF, hsF⟩ : ∃ s, s = str F := ⟨_, rfl⟩
              rw [← hsF] at hmid
              have HS := Lib.hid hsF
              clear hsz HMid hF hsF
              rw [show ((k + 4 + m : Nat) : Int) = (k : Int) + 4 + m by omega, show ((k + 4 : Nat) : Int) = (k : Int) + 4 by omega] at hmid
              go_wp2_with (first
                | (go_at_call 29; refine Rets.use (HRk.out _) ?_; rintro _ _ ⟨rfl, rfl⟩)
                | (go_at_call 21; refine Rets.use (HBk.out _) ?_; rintro _ w2 ⟨rfl, hk2⟩))
              all_goals
                refine Canon.row [0, 1, 2, 3, 4, 5, 6, 7, 8, 10, 11, 12, 13, 14, 15, 16, 9, 17, 18, 19] (by kernel_rfl) (by kernel_rfl) (by repeat (first | (with_reducible exact Safe.body) | (with_reducible apply Safe.then) | (with_reducible apply Safe.inBlock) | (dsimp +zetaDelta only))) ?_
                simp only [Canon.pick, Canon.wpPlan, List.getElem?_toArray, List.getElem?_cons_zero, List.getElem?_cons_succ]
                have KD := hk2.trans ((Keeps.refl _ w2).drew) (fun _ _ h => h)
                generalize w2.drew = wd at *
                go_wp2_with ((with_reducible refine at_ 67 rfl ?_); go_must (refine step_str_mrow rfl _ _ _ rfl Tryd.underlying9 Tryd.underlying22 Tryd.underlying5 F HFb.out (by rw [← HS.out]; rfl) ?_); intro ce w5 hce hm5 hk5)
                refine ⟨by rfl, trivial, ?_⟩
                go_wp2
                (try simp only [Exit.inBlock, Exit.then])
                refine bodyPost_ret (results_tmp4 rfl _ _ _) rfl ?_
                rw [HZ.out]
                exact ⟨KD.trans hk5 (fun _ _ h => h), .slice (some ⟨wd.heap.size, 0, none⟩) F.length ce, by rfl, hm5.rd hce (by have := KD.size; omega)⟩
end Go.Proofs.YtibegbmehpggbaaDoor
