/-
  Answers that are read, the document's: the walk of ReadAnswer.
-/
import Derived.Test.YtibegbmehpggbaaDoorRepD
import Derived.Test.YtibegbmehpggbaaDoorRepR
namespace Go.Proofs.YtibegbmehpggbaaDoor
open Go.RowKit Go.Canon Go.Mem
set_option linter.unusedVariables false
set_option linter.unusedSimpArgs false
theorem lead_pos (x : Int) : 9 ≤ (Ans.lead x).length := by
  have hl1 : Ans.h1.length = 9 := rfl
  unfold Ans.lead
  simp only [List.length_append, hl1]
  omega
theorem docFrom_step (c : Int) (cs : List Int) (sh : Bool) (l : List Int) : Ans.docFrom (c :: cs) sh l = if l.length ≤ (Ans.lead c).length then Ans.docFrom cs (sh || decide ((Ans.lead c).take l.length = l)) l else if l.take (Ans.lead c).length ≠ Ans.lead c then Ans.docFrom cs sh l else sizedAt c (Ans.lead c).length (l.drop (Ans.lead c).length) := by
  rw [Ans.docFrom, Ans.counted_sized]; rfl
theorem sized_num (l : List Int) : 0 ≤ (Ans.sized l).1.2 ∧ (Ans.sized l).1.2 ≤ l.length + 8200 := by
  have h1 := Ans.digs_le l
  have h2 := Wire.readD_pos (Ans.digs l)
  unfold Ans.sized
  split
  · exact ⟨Int.le_refl _, by show (0 : Int) ≤ _; omega⟩
  · rename_i h
    split
    · exact ⟨Int.le_refl _, by show (0 : Int) ≤ _; omega⟩
    · have h3 : ¬ 8192 < (readD (Ans.digs l)).1 := fun e => h (.inr (.inl e))
      simp only
      omega
set_option maxHeartbeats 12800000 in
set_option maxRecDepth 100000 in
theorem rreadA_c {w : World} {ok : Nat → Prop} (l : List Int) (hB : IsB l) (hl : l.length ≤ 1000000) (v : Value) (hr : Rd w ok v l.length (Disk.bytes8 l)) : Calls Tryd.prog 15 #[v] w (Rets (ReadIs w (Ans.doc l))) := by
  obtain ⟨A, cc, rfl, _⟩ := hr.slice
  have HR := Lib.hid hr
  have HB := Lib.hid hB
  clear hr hB
  go_enter Tryd.func15, Tryd.ntmps15
  go_wp2_with (go_at_call 23; refine Rets.use (rcodes_c _) ?_; rintro _ w1 ⟨rfl, hb1, hk1⟩)
  have HB1 := Lib.hid hb1
  have HK1 := Lib.hid hk1
  have hW1 := lt_of hb1
  generalize w.heap.size = W0 at *
  clear hb1 hk1
  go_loopw [7, 8, 9, 10, 11, 12] (fun q7 i q9 q10 q11 q12 wr => ∃ (k : Nat) (sh : Bool), k ≤ 12 ∧ q7 = .bool sh ∧ i = .int .i64 k ∧ Keeps (fun _ => False) w1 wr ∧ Hid (Ans.doc l = Ans.docFrom (Ans.codes.drop k) sh l)) (fun _ i _ _ _ _ _ => 12 - (intOf i).toNat)
  case atStart => exact ⟨0, false, Nat.zero_le _, rfl, rfl, Keeps.refl _ _, Lib.hid rfl⟩
  case round =>
    obtain ⟨k, sh, hk, rfl, rfl, hkr, HF⟩ := hrel
    have HKr := Lib.hid hkr
    by_cases hlt : k < 12
    · have hlt2 : k < Ans.codes.length := hlt
      have cx : wr.cell? ⟨W0, k, none⟩ = some (.int .i64 Ans.codes[k]) := (cell_of_row wr _ k _ _ _ (hkr.heap HB1.out (fun h => h))).trans (by rw [List.getElem?_toArray]; unfold codeCells; rw [List.getElem?_map, List.getElem?_eq_getElem hlt2]; rfl)
      have HF2 := Lib.hid (HF.out.trans (by rw [codes_drop hlt2, docFrom_step]))
      obtain ⟨hx0, hx1⟩ := codes_range (List.getElem_mem hlt2)
      generalize Ans.codes[k] = x at *
      have hdx := dec_len x
      have hrl := reason_len x
      have hll := lead_len x
      have hlp := lead_pos x
      have zh := str_size (Ans.lead x)
      have hl1 : Ans.h1.length = 9 := rfl
      have hl2 : Ans.h2.length = 18 := rfl
      have HDx := Lib.hid (fun w => rdec64_c x (by omega) (by omega) w)
      have HRs := Lib.hid (fun w => rreason_c x w)
      obtain ⟨sx, hsx⟩ : ∃ s, s = str (decF x) := ⟨_, rfl⟩
      obtain ⟨sr, hsr⟩ : ∃ s, s = str (Ans.reason x) := ⟨_, rfl⟩
      obtain ⟨u1, hu1⟩ : ∃ s, s = str (Ans.h1 ++ decF x) := ⟨_, rfl⟩
      obtain ⟨u2, hu2⟩ : ∃ s, s = str (Ans.h1 ++ decF x ++ [32]) := ⟨_, rfl⟩
      obtain ⟨u3, hu3⟩ : ∃ s, s = str (Ans.h1 ++ decF x ++ [32] ++ Ans.reason x) := ⟨_, rfl⟩
      obtain ⟨sl, hsl⟩ : ∃ s, s = str (Ans.lead x) := ⟨_, rfl⟩
      have b1 : ∀ w', (Op.stringOp .add ⟨#[72, 84, 84, 80, 47, 49, 46, 49, 32]⟩ sx).run Tryd.prog w' = .ok (.string u1) w' := fun w' => by rw [hu1, hsx]; exact add_str (a := Ans.h1) (by omega) w'
      have b2 : ∀ w', (Op.stringOp .add u1 ⟨#[32]⟩).run Tryd.prog w' = .ok (.string u2) w' := fun w' => by rw [hu1, hu2]; exact add_str (b := [32]) (by simp only [List.length_append, List.length_cons, List.length_nil]; omega) w'
      have b3 : ∀ w', (Op.stringOp .add u2 sr).run Tryd.prog w' = .ok (.string u3) w' := fun w' => by rw [hu2, hu3, hsr]; exact add_str (by simp only [List.length_append, List.length_cons, List.length_nil]; omega) w'
      have b4 : ∀ w', (Op.stringOp .add u3 ⟨#[13, 10, 67, 111, 110, 116, 101, 110, 116, 45, 76, 101, 110, 103, 116, 104, 58, 32]⟩).run Tryd.prog w' = .ok (.string sl) w' := fun w' => by rw [hu3, hsl]; exact add_str (b := Ans.h2) (by simp only [List.length_append, List.length_cons, List.length_nil]; omega) w'
      rw [← hsx] at HDx
      rw [← hsr] at HRs
      rw [← hsl] at zh
      have HSL := Lib.hid hsl
      clear hsx hsr hu1 hu2 hu3 hsl hdx hrl hl1 hl2 hkr HF
      go_wp2
      refine Canon.region [4] [(⟨W0, k, none⟩, .int .i64 x)] [(10, 0)] (.hold [0, 1, 2, 7, 8, 9, 3, 10] (.loud 4 (.seg [5, 6, 11, 12, 13, 14] .stop))) (by kernel_rfl) (by kernel_rfl) (by repeat (first | (with_reducible exact Safe.body) | (with_reducible apply Safe.then) | (with_reducible apply Safe.inBlock) | (dsimp +zetaDelta only))) ?_
      simp only [Canon.pick, Canon.wpPlan, List.getElem?_toArray, List.getElem?_cons_zero, List.getElem?_cons_succ]
      have KD : Keeps (fun _ => False) w1 wr.drew := HKr.out.trans ((Keeps.refl _ wr).drew) (fun _ _ h => h)
      have cx := ((Keeps.refl (fun _ => False) wr).drew).cell cx (fun h => h)
      generalize wr.drew = wd at *
      have HKd := Lib.hid KD
      have HL := Lib.hid (show Cells [(⟨W0, k, none⟩, Value.int .i64 x)] wd by
        intro p hp
        rw [List.mem_singleton] at hp
        subst hp
        exact cx)
      clear KD HKr
      refine ⟨HL.out, ?_⟩
      go_wp2_with (go_at_call 19; go_loud (refine Rets.use (HDx.out _) ?_); rintro _ _ ⟨rfl, rfl⟩)
      refine ⟨HL.out, ?_⟩
      go_wp2_with (go_at_call 12; go_loud (refine Rets.use (HRs.out _) ?_); rintro _ _ ⟨rfl, rfl⟩)
      refine ⟨by rfl, ⟨fun _ => rfl, trivial⟩, ?_⟩
      have hRd := HR.out.kept (HK1.out.trans HKd.out (fun _ _ h => h)) (fun _ _ h => h)
      clear b1 b2 b3 b4 HDx HRs HL
      by_cases hle : l.length ≤ (Ans.lead x).length
      · have HF3 := Lib.hid (HF2.out.trans (if_pos hle))
        have hto : ∀ w', (Instr.slice 9 (.string sl) none (some (.int .i64 l.length)) none).run Tryd.prog w' = .ok (.string (str ((Ans.lead x).take l.length))) w' := fun w' => by rw [HSL.out]; exact slice_to hle w'
        have heq := str_eq ((lead_b x).take l.length) HB.out
        generalize str ((Ans.lead x).take l.length) = st at *
        obtain ⟨sb, hsb⟩ : ∃ s, s = str l := ⟨_, rfl⟩
        rw [← hsb] at heq
        have HSB := Lib.hid hsb
        generalize decide ((Ans.lead x).take l.length = l) = dq at *
        have HRd := Lib.hid hRd
        clear HF2 hsb hRd
        by_cases hl3 : l.length < (Ans.lead x).length
        · cases sh with
          | true =>
            have HF4 := Lib.hid (show Ans.doc l = Ans.docFrom (Ans.codes.drop (k + 1)) true l by rw [HF3.out, Bool.true_or])
            go_wp2
            refine Canon.row [0, 1, 2, 3, 4, 5, 6, 7, 8, 9, 10] (by kernel_rfl) (by kernel_rfl) (by repeat (first | (with_reducible exact Safe.body) | (with_reducible apply Safe.then) | (with_reducible apply Safe.inBlock) | (dsimp +zetaDelta only))) ?_
            simp only [Canon.pick, Canon.wpPlan, List.getElem?_toArray, List.getElem?_cons_zero, List.getElem?_cons_succ]
            have KE := HKd.out.trans ((Keeps.refl _ wd).drew) (fun _ _ h => h)
            have HRe := Lib.hid (HRd.out.kept ((Keeps.refl (fun _ => False) wd).drew) (fun _ _ h => h))
            generalize wd.drew = we at *
            go_wp2_with ((with_reducible refine at_ 53 rfl ?_); go_must (refine step_bytes_str rfl _ _ _ rfl 5 Tryd.underlying22 Tryd.underlying5 Tryd.underlying9 _ l rfl HRe.out HB.out ?_); rw [← HSB.out])
            refine ⟨by rfl, trivial, ?_⟩
            go_wp2
            go_roundw
            case rel => exact ⟨k + 1, true, by omega, rfl, by go_num, KE, HF4⟩
            case measure => simp [intOf]; omega
          | false =>
            have HF4 := Lib.hid (show Ans.doc l = Ans.docFrom (Ans.codes.drop (k + 1)) dq l by rw [HF3.out, Bool.false_or])
            go_wp2
            refine Canon.row [0, 1, 2, 3, 4, 5, 6, 7, 8, 9, 10] (by kernel_rfl) (by kernel_rfl) (by repeat (first | (with_reducible exact Safe.body) | (with_reducible apply Safe.then) | (with_reducible apply Safe.inBlock) | (dsimp +zetaDelta only))) ?_
            simp only [Canon.pick, Canon.wpPlan, List.getElem?_toArray, List.getElem?_cons_zero, List.getElem?_cons_succ]
            have KE := HKd.out.trans ((Keeps.refl _ wd).drew) (fun _ _ h => h)
            have HRe := Lib.hid (HRd.out.kept ((Keeps.refl (fun _ => False) wd).drew) (fun _ _ h => h))
            generalize wd.drew = we at *
            go_wp2_with ((with_reducible refine at_ 53 rfl ?_); go_must (refine step_bytes_str rfl _ _ _ rfl 5 Tryd.underlying22 Tryd.underlying5 Tryd.underlying9 _ l rfl HRe.out HB.out ?_); rw [← HSB.out])
            refine ⟨by rfl, trivial, ?_⟩
            go_wp2
            go_roundw
            case rel => exact ⟨k + 1, dq, by omega, rfl, by go_num, KE, HF4⟩
            case measure => simp [intOf]; omega
        · have hq : ((l.length : Int) == ((Ans.lead x).length : Int)) = true := by rw [beq_iff_eq]; omega
          cases sh with
          | true =>
            have HF4 := Lib.hid (show Ans.doc l = Ans.docFrom (Ans.codes.drop (k + 1)) true l by rw [HF3.out, Bool.true_or])
            go_wp2
            refine Canon.row [0, 1, 2, 3, 4, 5, 6, 7, 8, 9, 10] (by kernel_rfl) (by kernel_rfl) (by repeat (first | (with_reducible exact Safe.body) | (with_reducible apply Safe.then) | (with_reducible apply Safe.inBlock) | (dsimp +zetaDelta only))) ?_
            simp only [Canon.pick, Canon.wpPlan, List.getElem?_toArray, List.getElem?_cons_zero, List.getElem?_cons_succ]
            have KE := HKd.out.trans ((Keeps.refl _ wd).drew) (fun _ _ h => h)
            have HRe := Lib.hid (HRd.out.kept ((Keeps.refl (fun _ => False) wd).drew) (fun _ _ h => h))
            generalize wd.drew = we at *
            go_wp2_with ((with_reducible refine at_ 53 rfl ?_); go_must (refine step_bytes_str rfl _ _ _ rfl 5 Tryd.underlying22 Tryd.underlying5 Tryd.underlying9 _ l rfl HRe.out HB.out ?_); rw [← HSB.out])
            refine ⟨by rfl, trivial, ?_⟩
            go_wp2
            go_roundw
            case rel => exact ⟨k + 1, true, by omega, rfl, by go_num, KE, HF4⟩
            case measure => simp [intOf]; omega
          | false =>
            have HF4 := Lib.hid (show Ans.doc l = Ans.docFrom (Ans.codes.drop (k + 1)) dq l by rw [HF3.out, Bool.false_or])
            go_wp2
            refine Canon.row [0, 1, 2, 3, 4, 5, 6, 7, 8, 9, 10] (by kernel_rfl) (by kernel_rfl) (by repeat (first | (with_reducible exact Safe.body) | (with_reducible apply Safe.then) | (with_reducible apply Safe.inBlock) | (dsimp +zetaDelta only))) ?_
            simp only [Canon.pick, Canon.wpPlan, List.getElem?_toArray, List.getElem?_cons_zero, List.getElem?_cons_succ]
            have KE := HKd.out.trans ((Keeps.refl _ wd).drew) (fun _ _ h => h)
            have HRe := Lib.hid (HRd.out.kept ((Keeps.refl (fun _ => False) wd).drew) (fun _ _ h => h))
            generalize wd.drew = we at *
            go_wp2_with ((with_reducible refine at_ 53 rfl ?_); go_must (refine step_bytes_str rfl _ _ _ rfl 5 Tryd.underlying22 Tryd.underlying5 Tryd.underlying9 _ l rfl HRe.out HB.out ?_); rw [← HSB.out])
            refine ⟨by rfl, trivial, ?_⟩
            go_wp2
            go_roundw
            case rel => exact ⟨k + 1, dq, by omega, rfl, by go_num, KE, HF4⟩
            case measure => simp [intOf]; omega
      · have HF3 := Lib.hid (HF2.out.trans (if_neg hle))
        have hq : ((l.length : Int) == ((Ans.lead x).length : Int)) = false := by rw [beq_eq_false_iff_ne]; omega
        obtain ⟨b, o, c, e, hlc, _, _⟩ := hRd.at (by intro e; have := congrArg List.length e; rw [Disk.bytes8_len, List.length_nil] at this; omega)
        cases e
        have hac : (Ans.lead x).length < cc := by omega
        have HFt := Lib.hid (by have := Rd.front hRd (Ans.lead x).length 1 (by omega) (by rw [Disk.bytes8_len, Nat.mul_one]); rw [Nat.mul_one] at this; unfold Disk.bytes8 at *; rw [← List.map_take] at this; rw [List.length_take, Nat.min_eq_left (by omega)]; exact this : Rd wd ok (.slice (some ⟨b, o, none⟩) (Ans.lead x).length cc) (l.take (Ans.lead x).length).length (Disk.bytes8 (l.take (Ans.lead x).length)))
        have HTl := Lib.hid (by have := rd_piece hRd (Ans.lead x).length (l.length - (Ans.lead x).length) (by omega) (cc - (Ans.lead x).length) (by omega); rw [List.take_of_length_le (by rw [List.length_drop]; omega)] at this; exact this : Rd wd ok (.slice (some ⟨b, o + (Ans.lead x).length, none⟩) (l.length - (Ans.lead x).length) (cc - (Ans.lead x).length)) (l.drop (Ans.lead x).length).length (Disk.bytes8 (l.drop (Ans.lead x).length)))
        have HBt := Lib.hid (HB.out.take (Ans.lead x).length)
        have HBd := Lib.hid (HB.out.drop (Ans.lead x).length)
        have hdl : 0 < (l.drop (Ans.lead x).length).length := by rw [List.length_drop]; omega
        have hdl2 : (l.drop (Ans.lead x).length).length ≤ 1000000 := by rw [List.length_drop]; omega
        have heq := str_eq HBt.out (lead_b x)
        rw [← HSL.out] at heq
        generalize hlt' : l.take (Ans.lead x).length = lt at *
        generalize l.drop (Ans.lead x).length = ld at *
        obtain ⟨st, hst⟩ : ∃ s, s = str lt := ⟨_, rfl⟩
        rw [← hst] at heq
        have HST := Lib.hid hst
        have HRd := Lib.hid hRd
        clear HF2 hlt' hst hRd
        by_cases hd : lt = Ans.lead x
        · have HF4 := Lib.hid (show Ans.doc l = sizedAt x (Ans.lead x).length ld by rw [HF3.out, if_neg (fun h => h hd)])
          rw [decide_eq_true hd] at heq
          have hne : (st.toList != sl.toList) = false := by rw [bne, heq]; rfl
          have HCt := Lib.hid (rcounted_c (w := wd) ld (fun e => by rw [e] at hdl; simp at hdl) HBd.out hdl2 (.slice (some ⟨b, o + (Ans.lead x).length, none⟩) (l.length - (Ans.lead x).length) (cc - (Ans.lead x).length)) HTl.out)
          obtain ⟨p, hp⟩ : ∃ p, Ans.sized ld = p := ⟨_, rfl⟩
          obtain ⟨hn1, hn2⟩ := sized_num ld
          rw [hp] at HCt hn1 hn2
          obtain ⟨⟨F, n2⟩, e⟩ := p
          simp only at hn1 hn2
          have HSp := Lib.hid hp
          clear hp
          clear HF3 hd
          by_cases he : e = 0
          · have hee : (e != 0) = false := by simp [he]
            have HZ := Lib.hid (show Ans.doc l = ((x, F), ((Ans.lead x).length + n2, 0)) by rw [HF4.out]; subst he; exact sizedAt_ok HSp.out)
            clear HF4
            go_wp2_with (first
              | ((with_reducible refine at_ 60 rfl ?_); go_must (refine step_bytes_str rfl _ _ _ rfl 5 Tryd.underlying22 Tryd.underlying5 Tryd.underlying9 (.slice (some ⟨b, o, none⟩) (Ans.lead x).length cc) lt rfl HFt.out HBt.out ?_); rw [← HST.out])
              | (go_at_call 24; refine Rets.use HCt.out ?_; rintro _ w5 ⟨hk5, u5, rfl, hr5⟩; have cx5 := hk5.cell cx (fun h => h)))
            (try simp only [Exit.inBlock, Exit.then])
            refine bodyPost_ret (results_tmp4 rfl _ _ _) rfl ?_
            rw [HZ.out]
            exact ⟨(HK1.out.trans HKd.out (fun _ _ h => h)).trans hk5 (fun _ _ h => h), u5, rfl, hr5.mono (fun k h => by have := HK1.out.size; have := HKd.out.size; omega)⟩
          · have hee : (e != 0) = true := by simpa using he
            have HZ := Lib.hid (show Ans.doc l = ((0, []), (0, e)) by rw [HF4.out]; unfold sizedAt; rw [HSp.out, if_pos he])
            clear he HF4
            go_wp2_with (first
              | ((with_reducible refine at_ 60 rfl ?_); go_must (refine step_bytes_str rfl _ _ _ rfl 5 Tryd.underlying22 Tryd.underlying5 Tryd.underlying9 (.slice (some ⟨b, o, none⟩) (Ans.lead x).length cc) lt rfl HFt.out HBt.out ?_); rw [← HST.out])
              | (go_at_call 24; refine Rets.use HCt.out ?_; rintro _ w5 ⟨hk5, u5, rfl, hr5⟩; have cx5 := hk5.cell cx (fun h => h)))
            (try simp only [Exit.inBlock, Exit.then])
            refine bodyPost_ret (results_tmp4 rfl _ _ _) rfl ?_
            rw [HZ.out]
            exact ⟨(HK1.out.trans HKd.out (fun _ _ h => h)).trans hk5 (fun _ _ h => h), .slice none 0 0, rfl, Rd.nil _ _⟩
        · have HF4 := Lib.hid (show Ans.doc l = Ans.docFrom (Ans.codes.drop (k + 1)) sh l by rw [HF3.out, if_pos hd])
          rw [decide_eq_false hd] at heq
          have hne : (st.toList != sl.toList) = true := by rw [bne, heq]; rfl
          clear HF3 hd
          go_wp2_with (first
            | ((with_reducible refine at_ 60 rfl ?_); go_must (refine step_bytes_str rfl _ _ _ rfl 5 Tryd.underlying22 Tryd.underlying5 Tryd.underlying9 (.slice (some ⟨b, o, none⟩) (Ans.lead x).length cc) lt rfl HFt.out HBt.out ?_); rw [← HST.out])
            | (go_at_call 24; refine Rets.use HCt.out ?_; rintro _ w5 ⟨hk5, u5, rfl, hr5⟩; have cx5 := hk5.cell cx (fun h => h)))
          go_roundw
          case rel => exact ⟨k + 1, sh, by omega, rfl, by go_num, HKd.out, HF4⟩
          case measure => simp [intOf]; omega
    · obtain rfl : k = 12 := by omega
      clear hkr
      cases sh with
      | true =>
        have HZ := Lib.hid (show Ans.doc l = ((0, []), (0, 3)) from HF.out)
        go_wp2
        (try simp only [Exit.inBlock, Exit.then])
        refine bodyPost_ret (results_tmp4 rfl _ _ _) rfl ?_
        rw [HZ.out]
        exact ⟨HK1.out.trans HKr.out (fun _ _ h => h), .slice none 0 0, rfl, Rd.nil _ _⟩
      | false =>
        have HZ := Lib.hid (show Ans.doc l = ((0, []), (0, 4)) from HF.out)
        go_wp2
        (try simp only [Exit.inBlock, Exit.then])
        refine bodyPost_ret (results_tmp4 rfl _ _ _) rfl ?_
        rw [HZ.out]
        exact ⟨HK1.out.trans HKr.out (fun _ _ h => h), .slice none 0 0, rfl, Rd.nil _ _⟩
end Go.Proofs.YtibegbmehpggbaaDoor
