/-
  WireTold: the walk.
-/
import Derived.Test.YtibegbmehpggbaaDoorRepR
import Derived.Test.YtibegbmehpggbaaDoorLAns
namespace Go.Proofs.YtibegbmehpggbaaDoor
open Go.RowKit Go.Canon Go.Mem Go.Args
set_option linter.unusedVariables false
set_option linter.unusedSimpArgs false
theorem text_byte (x : Int) {l : List Int} (h : IsB l) : IsB (Ans.text x l) := (((lead_b x).app (dec_byte _)).app fin4_b).app h
set_option maxHeartbeats 6400000 in
set_option maxRecDepth 100000 in
theorem told_in (W : World) {b o c : Nat} (hc : CodesIn W b o c) (x : Int) (l : List Int) (hB : IsB l) (v : Value) (h : Rd W (fun k => k < W.heap.size) v l.length (Disk.bytes8 l)) (l2 : List Int) (hB2 : IsB l2) (v2 : Value) (h2 : Rd W (fun k => k < W.heap.size) v2 l2.length (Disk.bytes8 l2)) (k : Int) : Calls Tryd.prog 5 #[.int .i64 x, v, v2, .int .i64 k] W (Rets (Yes W)) := by
  have HCut := Lib.hid (cut_c v l h 8192)
  have HCu2 := Lib.hid (cut_c v2 l2 h2 100)
  have HC := Lib.hid hc
  obtain ⟨A, ca, rfl, _⟩ := h.slice
  obtain ⟨A0, ca0, rfl, _⟩ := h2.slice
  obtain ⟨bb, hbb⟩ : ∃ bb, l.take 8192 = bb := ⟨_, rfl⟩
  rw [hbb] at HCut
  have HBb := Lib.hid (show IsB bb by rw [← hbb]; exact hB.take _)
  have hbl : bb.length ≤ 8192 := by rw [← hbb, List.length_take]; omega
  obtain ⟨be, hbe⟩ : ∃ be, l2.take 100 = be := ⟨_, rfl⟩
  rw [hbe] at HCu2
  have HBe := Lib.hid (show IsB be by rw [← hbe]; exact hB2.take _)
  have hel : be.length ≤ 100 := by rw [← hbe, List.length_take]; omega
  have HCj := Lib.hid (show ∀ (v : Value) (n : Int) (xs : List Int), ((v = .slice A l.length ca ∧ n = 8192 ∧ xs = bb) ∨ (v = .slice A0 l2.length ca0 ∧ n = 100 ∧ xs = be)) → Calls Tryd.prog 6 #[v, .int .i64 n] W (Rets (Reads (fun k => k < W.heap.size) xs.length (Disk.bytes8 xs) W)) by
    rintro v n xs (⟨rfl, rfl, rfl⟩ | ⟨rfl, rfl, rfl⟩)
    · exact HCut.out
    · exact HCu2.out)
  clear hbb hbe hc h h2 HCut HCu2
  by_cases h0 : Ans.reason x = []
  · have HP := Lib.hid (show Ans.answer x bb = ([], 2) by unfold Ans.answer; rw [if_pos h0])
    have HRW := Lib.hid (fun w' (hk : Keeps (fun _ => False) W w') => reasonW_c (HC.out.kept hk) x)
    unfold SayIs at HRW
    rw [h0] at HRW
    have hE : ((str []).toList == []) = true := by rw [ByteArray.toList_eq]; rfl
    generalize str [] = s0 at *
    clear h0
    go_enter Tryd.func5, Tryd.ntmps5
    go_wp2_with (first
      | (go_at_call 6; refine Rets.use (HCj.out _ _ bb (by exact .inl ⟨rfl, rfl, rfl⟩)) ?_; rintro vc _ ⟨hrc, rfl⟩; have HRc := Lib.hid hrc; clear hrc)
      | (go_at_call 6; refine Rets.use (HCj.out _ _ be (by exact .inr ⟨rfl, rfl, rfl⟩)) ?_; rintro ve _ ⟨hre, rfl⟩; have HRe := Lib.hid hre; clear hre)
      | (go_at_call 8; refine Rets.use (answerW_c HC.out x bb HBb.out (by omega) vc HRc.out) ?_; rw [HP.out]; rintro v2 w2 ⟨hk2, u2, rfl, hr2⟩; obtain ⟨A2, c2, rfl, _⟩ := hr2.slice; have HK2 := Lib.hid hk2; clear hr2 hk2)
      | (go_at_call 11; refine Rets.use (HRW.out _ HK2.out) ?_; rintro v6 w6 ⟨rfl, hk6⟩)
      | (go_at_call 13; refine Rets.use (lives13_c _) ?_; rintro v14 w14 ⟨rfl, hk14⟩))
    go_ret
    exact ⟨rfl, (HK2.out.trans hk6 (fun _ _ h => h)).trans hk14 (fun _ _ h => h)⟩
  · have HP := Lib.hid (show Ans.answer x bb = (Ans.text x bb, 0) by unfold Ans.answer; rw [if_neg h0, if_neg (by omega)])
    have hT1 := Ans.told h0 hbl be
    have hT2 := fun k hk => Ans.told_front h0 hbl (k := k) hk
    have htl := ans_len x bb
    rw [HP.out] at htl
    have htp : 0 < (Ans.text x bb).length := by
      have h3 : Ans.fin4.length = 4 := rfl
      unfold Ans.text
      simp only [List.length_append, h3]
      omega
    have HTb := Lib.hid (text_byte x HBb.out)
    simp only at htl
    generalize Ans.text x bb = T at *
    obtain ⟨j, hj1, hj2⟩ : ∃ j : Nat, least k 0 ((T.length : Int) - 1) = (j : Int) ∧ j < T.length := by
      refine ⟨(least k 0 ((T.length : Int) - 1)).toNat, ?_, ?_⟩ <;> (unfold least; split <;> (try split) <;> omega)
    have HJ := Lib.hid hj1
    have HT1 := Lib.hid hT1
    have HT2 := Lib.hid (hT2 j hj2)
    have hTj : (T.take j).length = j := by rw [List.length_take]; omega
    have HTj := Lib.hid hTj
    have hxx : (x != x) = false := by simp
    have hnn : ((T.length : Int) != (T.length : Int)) = false := by simp
    clear hT1 hT2 hj1 hTj h0
    go_enter Tryd.func5, Tryd.ntmps5
    go_wp2_with (first
      | (go_at_call 6; refine Rets.use (HCj.out _ _ bb (by exact .inl ⟨rfl, rfl, rfl⟩)) ?_; rintro vc _ ⟨hrc, rfl⟩; have HRc := Lib.hid hrc; clear hrc)
      | (go_at_call 6; refine Rets.use (HCj.out _ _ be (by exact .inr ⟨rfl, rfl, rfl⟩)) ?_; rintro ve _ ⟨hre, rfl⟩; have HRe := Lib.hid hre; clear hre)
      | (go_at_call 8; refine Rets.use (answerW_c HC.out x bb HBb.out (by omega) vc HRc.out) ?_; rw [HP.out]; rintro v2 w2 ⟨hk2, u2, rfl, hr2⟩; obtain ⟨A2, c2, rfl, _⟩ := hr2.slice; have HR2 := Lib.hid hr2; have HK2 := Lib.hid hk2; clear hr2 hk2)
      | (go_at_call 7; refine Rets.use (copy_c (.slice A2 T.length c2) T HR2.out (by omega)) ?_; rintro v5 w5 ⟨hO5, hk5⟩; have HO5 := Lib.hid hO5; have HK5 := Lib.hid hk5; have HRe5 := Lib.hid ((HRe.out.kept HK2.out (fun _ _ h => h)).kept hk5 (fun _ _ h => h)); clear hO5 hk5)
      | ((with_reducible refine at_ 46 rfl ?_); go_must (refine step_append_rd (ok2 := fun k => k < W.heap.size) rfl _ _ _ rfl 5 _ 1 1 Tryd.underlying22 row_byte rfl (by decide) v5 T.length (Disk.bytes8 T) rfl HO5.out ve be.length (Disk.bytes8 be) rfl HRe5.out (by rw [Disk.bytes8_len, Nat.mul_one]) (Disk.bytes8_one be) (by simp only [maxLen]; omega) (by omega) ?_); intro v6 w6 hO6 hk6; have HO6 := Lib.hid hO6; have HOb := HO5.out; have HK6 := Lib.hid (hk6.mono (S' := fun k => w2.heap.size ≤ k) (fun k _ h => HOb.2 k h)); clear hO6 hk6 HOb; have HK26 := Lib.hid (((HK5.out.mono (S' := fun k => w2.heap.size ≤ k) (fun _ _ h => h.elim)).trans HK6.out (fun _ _ h => h)).mono (S' := fun _ => False) (fun k hk h => by omega)); have HC6 := Lib.hid (HC.out.kept (HK2.out.trans HK26.out (fun _ _ h => h))))
      | (go_at_call 14; refine Rets.use (readAW_c HC6.out (T ++ be) (HTb.out.app HBe.out) (by rw [List.length_append]; omega) _ (by have := HO6.out.rd; rw [← Disk.bytes8_append, ← List.length_append] at this; exact this)) ?_; rw [HT1.out]; rintro _ w7 ⟨hk7, u7, rfl, hr7⟩; obtain ⟨A7, c7, rfl, _⟩ := hr7.slice; have HR7 := Lib.hid hr7; have HK27 := Lib.hid (HK26.out.trans hk7 (fun _ _ h => h)); have HRc7 := Lib.hid ((HRc.out.kept HK2.out (fun _ _ h => h)).kept HK27.out (fun _ _ h => h)); have HR27 := Lib.hid (HR2.out.kept HK27.out (fun _ _ h => h)); clear hr7 hk7 HC6)
      | (go_at_call 10; refine Rets.use (same_one _ _ bb (by exact HR7.out) (by exact HRc7.out) (by omega)) ?_; rintro _ w8 ⟨rfl, hk8⟩; have HK8 := Lib.hid ((HK2.out.trans HK27.out (fun _ _ h => h)).trans hk8 (fun _ _ h => h)); have HR28 := Lib.hid (HR27.out.kept hk8 (fun _ _ h => h)); have HC8 := Lib.hid (HC.out.kept HK8.out); clear hk8)
      | (go_at_call 16; refine Rets.use (least_c k 0 ((T.length : Int) - 1) _) ?_; rw [HJ.out]; rintro _ _ ⟨rfl, rfl⟩)
      | (go_at_call 14; refine Rets.use (readAW_c HC8.out (T.take j) (HTb.out.take j) (by rw [HTj.out]; omega) (.slice A2 j c2) (by have := Rd.front HR28.out j 1 (by omega) (by rw [Disk.bytes8_len, Nat.mul_one]); rw [Nat.mul_one] at this; rw [HTj.out]; unfold Disk.bytes8 at *; rw [List.map_take]; exact this)) ?_; rw [HT2.out]; rintro _ w11 ⟨hk11, u11, rfl, hr11⟩; obtain ⟨A11, c11, rfl, _⟩ := hr11.slice)
      | (go_at_call 13; refine Rets.use (lives13_c _) ?_; rintro v14 w14 ⟨rfl, hk14⟩))
    go_ret
    exact ⟨rfl, (HK8.out.trans hk11 (fun _ _ h => h)).trans hk14 (fun _ _ h => h)⟩
theorem wireTold_walk (W : World) {b o c : Nat} (hc : CodesIn W b o c) (x0 : Int) (w0 : (Lit.int .i64 x0).wf = true) (a1 : Option Addr) (n1 c1 : Nat) (x1 : (Kd.slice (.int .u8)).Dat) (H1 : Has W (.slice (.int .u8)) [.slice a1 n1 c1] x1) (a2 : Option Addr) (n2 c2 : Nat) (x2 : (Kd.slice (.int .u8)).Dat) (H2 : Has W (.slice (.int .u8)) [.slice a2 n2 c2] x2) (x3 : Int) (w3 : (Lit.int .i64 x3).wf = true) : Calls Tryd.prog 5 #[.int .i64 x0, .slice a1 n1 c1, .slice a2 n2 c2, .int .i64 x3] W (Rets (Yes W)) :=
  told_in W hc x0 x1 (bytes_in H1) _ H1.bytes.1 x2 (bytes_in H2) _ H2.bytes.1 x3
end Go.Proofs.YtibegbmehpggbaaDoor
