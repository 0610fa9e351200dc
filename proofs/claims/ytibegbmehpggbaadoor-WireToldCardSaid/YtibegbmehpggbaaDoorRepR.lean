/-
  Answers that are read: the walk of ReadAnswer.
-/
import Derived.Test.YtibegbmehpggbaaDoorRepW
namespace Go.Proofs.YtibegbmehpggbaaDoor
open Go.RowKit Go.Canon Go.Mem
set_option linter.unusedVariables false
set_option linter.unusedSimpArgs false
theorem codes_range {x : Int} (h : x ∈ Ans.codes) : 0 ≤ x ∧ x ≤ 1000 := by
  have : (Ans.codes.all fun c => decide (0 ≤ c ∧ c ≤ 1000)) = true := by decide
  exact of_decide_eq_true (List.all_eq_true.1 this x h)
theorem codes_drop {k : Nat} (h : k < Ans.codes.length) : Ans.codes.drop k = Ans.codes[k] :: Ans.codes.drop (k + 1) := List.drop_eq_getElem_cons h
set_option maxHeartbeats 6400000 in
set_option maxRecDepth 100000 in
theorem readAW_c {w : World} {ok : Nat → Prop} {b o c : Nat} (hc : CodesIn w b o c) (l : List Int) (hB : IsB l) (hl : l.length ≤ 1000000) (v : Value) (hr : Rd w ok v l.length (Disk.bytes8 l)) : Calls Tryd.prog 14 #[v] w (Rets (ReadIs w (Ans.read l))) := by
  obtain ⟨A, cc, rfl, _⟩ := hr.slice
  have zl := str_size l
  have HC := Lib.hid hc
  have cg := hc.1
  have HR := Lib.hid hr
  have HB := Lib.hid hB
  have HFr := Lib.hid (fun (k : Nat) (h : k ≤ l.length) => fun w' => slice_from h w')
  have HBg := Lib.hid (fun (x : Int) (w : World) => beginsW_c l (Ans.lead x) hB (lead_b x) hl (by have := lead_len x; omega) w)
  obtain ⟨sl, hsl⟩ : ∃ s, s = str l := ⟨_, rfl⟩
  have HSL := Lib.hid hsl
  rw [← hsl] at zl HFr HBg
  clear hc hr hB hsl
  go_enter Tryd.func14, Tryd.ntmps14
  go_wp2_with ((with_reducible refine at_ 11 rfl ?_); go_must (refine step_bytes_str rfl _ _ _ rfl 5 Tryd.underlying22 Tryd.underlying5 Tryd.underlying9 _ l rfl HR.out HB.out ?_); rw [← HSL.out])
  go_loopw [8, 9, 14] (fun q1 q2 i wr => ∃ k : Nat, k ≤ 12 ∧ i = .int .i64 k ∧ Keeps (fun _ => False) w wr ∧ Hid (Ans.read l = Ans.readFrom (Ans.codes.drop k) l)) (fun _ _ i _ => 12 - (intOf i).toNat)
  case atStart => exact ⟨0, Nat.zero_le _, rfl, Keeps.refl _ _, Lib.hid rfl⟩
  case round =>
    obtain ⟨k, hk, rfl, hkr, HF⟩ := hrel
    have HKr := Lib.hid hkr
    by_cases hlt : k < 12
    · have hlt2 : k < Ans.codes.length := hlt
      have HCr := Lib.hid (HC.out.kept hkr)
      have cx := HCr.out.2 k _ (List.getElem?_eq_getElem hlt2)
      have HF2 := Lib.hid (HF.out.trans (by rw [codes_drop hlt2]))
      obtain ⟨hx0, hx1⟩ := codes_range (List.getElem_mem hlt2)
      generalize Ans.codes[k] = x at *
      have HLd := Lib.hid (fun w' (hk : Keeps (fun _ => False) wr w') => leadW_c (HCr.out.kept hk) x hx0 hx1)
      have zh := str_size (Ans.lead x)
      have hh := lead_len x
      have HBx := Lib.hid (HBg.out x)
      have HSz := Lib.hid (fun w => sizedW_c x (Ans.lead x).length (by omega) (l.drop (Ans.lead x).length) (HB.out.drop _) (by rw [List.length_drop]; omega) w)
      unfold SayIs at HLd
      generalize str (Ans.lead x) = sh at *
      clear hkr HF HBg
      cases hbg : Ans.beg l (Ans.lead x) with
      | false =>
        have HF3 := Lib.hid (show Ans.read l = Ans.readFrom (Ans.codes.drop (k + 1)) l by rw [HF2.out, Ans.readFrom, if_pos hbg])
        rw [hbg] at HBx
        clear hbg HSz HFr
        go_wp2_with (first
          | (go_at_call 17; refine Rets.use (HLd.out _ (Keeps.refl _ _)) ?_; rintro _ w3 ⟨rfl, hk3⟩)
          | (go_at_call 21; refine Rets.use (HBx.out _) ?_; rintro _ w4 ⟨rfl, hk4⟩))
        go_roundw
        case rel => exact ⟨k + 1, by omega, by go_num, (HKr.out.trans hk3 (fun _ _ h => h)).trans hk4 (fun _ _ h => h), HF3⟩
        case measure => simp [intOf]; omega
      | true =>
        rw [hbg] at HBx
        by_cases hle : l.length ≤ (Ans.lead x).length
        · have HZ := Lib.hid (show Ans.read l = ((0, []), (0, 3)) by rw [HF2.out, Ans.readFrom, if_neg (by rw [hbg]; simp), if_pos hle])
          clear hbg HSz HFr
          go_wp2_with (first
            | (go_at_call 17; refine Rets.use (HLd.out _ (Keeps.refl _ _)) ?_; rintro _ w3 ⟨rfl, hk3⟩)
            | (go_at_call 21; refine Rets.use (HBx.out _) ?_; rintro _ w4 ⟨rfl, hk4⟩))
          (try simp only [Exit.inBlock, Exit.then])
          refine bodyPost_ret (results_tmp4 rfl _ _ _) rfl ?_
          rw [HZ.out]
          exact ⟨(HKr.out.trans hk3 (fun _ _ h => h)).trans hk4 (fun _ _ h => h), .slice none 0 0, rfl, Rd.nil _ _⟩
        · have HZ := Lib.hid (show Ans.read l = sizedAt x (Ans.lead x).length (l.drop (Ans.lead x).length) by rw [HF2.out, Ans.readFrom, if_neg (by rw [hbg]; simp), if_neg hle]; rfl)
          have hfr := HFr.out (Ans.lead x).length (by omega)
          generalize sizedAt x (Ans.lead x).length (l.drop (Ans.lead x).length) = p at *
          generalize str (l.drop (Ans.lead x).length) = sd at *
          obtain ⟨⟨p1, p2⟩, p3, p4⟩ := p
          clear hbg HFr
          go_wp2_with (first
            | (go_at_call 17; refine Rets.use (HLd.out _ (Keeps.refl _ _)) ?_; rintro _ w3 ⟨rfl, hk3⟩)
            | (go_at_call 21; refine Rets.use (HBx.out _) ?_; rintro _ w4 ⟨rfl, hk4⟩)
            | (go_at_call 22; refine Rets.use (HSz.out _) ?_; rintro _ w5 ⟨hk5, u5, rfl, hr5⟩))
          (try simp only [Exit.inBlock, Exit.then])
          refine bodyPost_ret (results_tmp4 rfl _ _ _) rfl ?_
          rw [HZ.out]
          refine ⟨((HKr.out.trans hk3 (fun _ _ h => h)).trans hk4 (fun _ _ h => h)).trans hk5 (fun _ _ h => h), u5, rfl, hr5.mono (fun k h => ?_)⟩
          have := HKr.out.size
          have := hk3.size
          have := hk4.size
          omega
    · obtain rfl : k = 12 := by omega
      have HZ := Lib.hid (show Ans.read l = ((0, []), (0, 4)) from HF.out)
      clear hkr
      go_wp2
      (try simp only [Exit.inBlock, Exit.then])
      refine bodyPost_ret (results_tmp4 rfl _ _ _) rfl ?_
      rw [HZ.out]
      exact ⟨HKr.out, .slice none 0 0, rfl, Rd.nil _ _⟩
end Go.Proofs.YtibegbmehpggbaaDoor
