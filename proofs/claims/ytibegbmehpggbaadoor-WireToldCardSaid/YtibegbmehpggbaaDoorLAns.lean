/-
  WireAnswers: the walk.
-/
import Derived.Test.YtibegbmehpggbaaDoorAnsW
import Derived.Test.YtibegbmehpggbaaDoorArgs
namespace Go.Proofs.YtibegbmehpggbaaDoor
open Go.RowKit Go.Canon Go.Mem Go.Args
set_option linter.unusedVariables false
set_option linter.unusedSimpArgs false
theorem same_one {w : World} {ok ok2 : Nat → Prop} (v v2 : Value) (xs : List Int) (hr : Rd w ok v xs.length (Disk.bytes8 xs)) (hr2 : Rd w ok2 v2 xs.length (Disk.bytes8 xs)) (hl : xs.length ≤ 1000000) : Calls Tryd.prog 10 #[v, v2] w (Rets (Still (.bool true) w)) := by
  have h := same_c v v2 xs xs hr hr2 (by omega)
  rw [decide_eq_true rfl] at h
  exact h
theorem bytes_in {w : World} {v : Value} {l : List Int} (h : Has w (.slice (.int .u8)) [v] l) : IsB l := by
  obtain ⟨A, c, _, _, _, _, h5⟩ := h
  intro x hx
  obtain ⟨i, hi, rfl⟩ := List.getElem_of_mem hx
  obtain ⟨a, es, _, _, _, h6⟩ := h5 i l[i] (List.getElem?_eq_getElem hi)
  have := h6.2
  simp [Lit.wf, IntKind.min, IntKind.max, IntKind.signed, IntKind.bits] at this
  omega
theorem ans_len (x : Int) (l : List Int) : (Ans.answer x l).1.length ≤ l.length + 200 := by
  have h1 := lead_len x
  have h2 := dec_len (l.length : Int)
  have h3 : Ans.fin4.length = 4 := rfl
  unfold Ans.answer
  split
  · simp
  · split
    · simp
    · simp only
      unfold Ans.text
      simp only [List.length_append]
      omega
set_option maxHeartbeats 3200000 in
set_option maxRecDepth 100000 in
theorem answers_in (W : World) {b o c : Nat} (hc : CodesIn W b o c) (x : Int) (l : List Int) (hB : IsB l) (v : Value) (h : Rd W (fun k => k < W.heap.size) v l.length (Disk.bytes8 l)) : Calls Tryd.prog 3 #[.int .i64 x, v] W (Rets (Yes W)) := by
  have HCut := Lib.hid (cut_c v l h 9000)
  have HC := Lib.hid hc
  obtain ⟨bb, hbb⟩ : ∃ bb, l.take 9000 = bb := ⟨_, rfl⟩
  rw [hbb] at HCut
  have HBb := Lib.hid (show IsB bb by rw [← hbb]; exact hB.take _)
  have hbl : bb.length ≤ 9000 := by rw [← hbb, List.length_take]; omega
  have htl := ans_len x bb
  obtain ⟨p, hp⟩ : ∃ p, Ans.answer x bb = p := ⟨_, rfl⟩
  rw [hp] at htl
  have HP := Lib.hid hp
  obtain ⟨t, e⟩ := p
  simp only at htl
  have hee : (e == e) = true := by simp
  obtain ⟨sr, hsr⟩ : ∃ s, s = str (Ans.reason x) := ⟨_, rfl⟩
  have hss : (sr.toList == sr.toList) = true := by simp
  have HRW := Lib.hid (fun w' (hk : Keeps (fun _ => False) W w') => reasonW_c (HC.out.kept hk) x)
  unfold SayIs at HRW
  have HRR := Lib.hid (fun w => rreason_c x w)
  rw [← hsr] at HRW HRR
  clear hp hbb hsr hc h
  go_enter Tryd.func3, Tryd.ntmps3
  go_wp2_with (first
    | (go_at_call 6; refine Rets.use HCut.out ?_; rintro vc _ ⟨hrc, rfl⟩; have HRc := Lib.hid hrc; clear hrc)
    | (go_at_call 7; refine Rets.use (copy_c vc bb HRc.out (by omega)) ?_; rintro vm w1 ⟨hO1, hk1⟩; have HO1 := Lib.hid hO1; have HK1 := Lib.hid hk1; clear hO1 hk1)
    | (go_at_call 8; refine Rets.use (answerW_c (HC.out.kept HK1.out) x bb HBb.out (by omega) vm HO1.out.rd) ?_; rw [HP.out]; rintro v2 w2 ⟨hk2, u2, rfl, hr2⟩; obtain ⟨A2, c2, rfl, _⟩ := hr2.slice; have HR2 := Lib.hid hr2; have HK2 := Lib.hid hk2; clear hr2 hk2)
    | (go_at_call 9; refine Rets.use (ranswer_c x bb HBb.out (by omega) vc ((HRc.out.kept HK1.out (fun _ _ h => h)).kept HK2.out (fun _ _ h => h))) ?_; rw [HP.out]; rintro v3 w3 ⟨hk3, u3, rfl, hr3⟩; obtain ⟨A3, c3, rfl, _⟩ := hr3.slice; have HR3 := Lib.hid hr3; have HS2 := Lib.hid (HR2.out.kept hk3 (fun _ _ h => h)); have HM3 := Lib.hid ((HO1.out.rd.kept HK2.out (fun _ _ h => h)).kept hk3 (fun _ _ h => h)); have HC3 := Lib.hid (((HRc.out.kept HK1.out (fun _ _ h => h)).kept HK2.out (fun _ _ h => h)).kept hk3 (fun _ _ h => h)); have HK3 := Lib.hid ((HK1.out.trans HK2.out (fun _ _ h => h)).trans hk3 (fun _ _ h => h)); clear hr3 hk3)
    | (go_at_call 10; refine Rets.use (same_one _ _ t (by exact HS2.out) (by exact HR3.out) (by omega)) ?_; rintro _ w4 ⟨rfl, hk4⟩; have HM4 := Lib.hid (HM3.out.kept hk4 (fun _ _ h => h)); have HC4 := Lib.hid (HC3.out.kept hk4 (fun _ _ h => h)); have HK4 := Lib.hid (HK3.out.trans hk4 (fun _ _ h => h)); clear hk4)
    | (go_at_call 10; refine Rets.use (same_one _ _ bb (by exact HM4.out) (by exact HC4.out) (by omega)) ?_; rintro _ w5 ⟨rfl, hk5⟩; have HK5 := Lib.hid (HK4.out.trans hk5 (fun _ _ h => h)); clear hk5)
    | (go_at_call 11; refine Rets.use (HRW.out _ HK5.out) ?_; rintro v6 w6 ⟨rfl, hk6⟩)
    | (go_at_call 12; refine Rets.use (HRR.out _) ?_; rintro _ _ ⟨rfl, rfl⟩)
    | (go_at_call 13; refine Rets.use (lives13_c _) ?_; rintro v14 w14 ⟨rfl, hk14⟩))
  go_ret
  exact ⟨rfl, (HK5.out.trans hk6 (fun _ _ h => h)).trans hk14 (fun _ _ h => h)⟩
theorem wireAnswers_walk (W : World) {b o c : Nat} (hc : CodesIn W b o c) (x0 : Int) (w0 : (Lit.int .i64 x0).wf = true) (a1 : Option Addr) (n1 c1 : Nat) (x1 : (Kd.slice (.int .u8)).Dat) (H1 : Has W (.slice (.int .u8)) [.slice a1 n1 c1] x1) : Calls Tryd.prog 3 #[.int .i64 x0, .slice a1 n1 c1] W (Rets (Yes W)) :=
  answers_in W hc x0 x1 (bytes_in H1) _ H1.bytes.1
end Go.Proofs.YtibegbmehpggbaaDoor
