/-
  WireReplies: the walk.
-/
import Derived.Test.YtibegbmehpggbaaDoorRepE
import Derived.Test.YtibegbmehpggbaaDoorLAns
namespace Go.Proofs.YtibegbmehpggbaaDoor
open Go.RowKit Go.Canon Go.Mem Go.Args
set_option linter.unusedVariables false
set_option linter.unusedSimpArgs false
theorem sized_len (l : List Int) : (Ans.sized l).1.1.length ≤ l.length := by
  unfold Ans.sized
  split
  · simp
  · split
    · simp
    · simp only [List.length_take, List.length_drop]; omega
theorem read_len (l : List Int) : (Ans.read l).1.2.length ≤ l.length := by
  have h : ∀ cs, (Ans.readFrom cs l).1.2.length ≤ l.length := by
    intro cs
    induction cs with
    | nil => simp [Ans.readFrom]
    | cons c cs ih =>
      rw [Ans.readFrom]
      split
      · exact ih
      · split
        · simp
        · split
          · simp
          · have := sized_len (l.drop (Ans.lead c).length)
            rw [List.length_drop] at this
            simp only
            omega
  exact h _
set_option maxHeartbeats 3200000 in
set_option maxRecDepth 100000 in
theorem replies_in (W : World) {b o c : Nat} (hc : CodesIn W b o c) (l : List Int) (hB : IsB l) (v : Value) (h : Rd W (fun k => k < W.heap.size) v l.length (Disk.bytes8 l)) : Calls Tryd.prog 4 #[v] W (Rets (Yes W)) := by
  have HCut := Lib.hid (cut_c v l h 9000)
  have HC := Lib.hid hc
  obtain ⟨bb, hbb⟩ : ∃ bb, l.take 9000 = bb := ⟨_, rfl⟩
  rw [hbb] at HCut
  have HBb := Lib.hid (show IsB bb by rw [← hbb]; exact hB.take _)
  have hbl : bb.length ≤ 9000 := by rw [← hbb, List.length_take]; omega
  have htl := read_len bb
  have HD := Lib.hid (Ans.doc_read bb)
  obtain ⟨p, hp⟩ : ∃ p, Ans.read bb = p := ⟨_, rfl⟩
  rw [hp] at htl HD
  have HP := Lib.hid hp
  obtain ⟨⟨x, t⟩, n, e⟩ := p
  simp only at htl
  have hxx : (x == x) = true := by simp
  have hnn : (n == n) = true := by simp
  have hee : (e == e) = true := by simp
  clear hp hbb hc h
  go_enter Tryd.func4, Tryd.ntmps4
  go_wp2_with (first
    | (go_at_call 6; refine Rets.use HCut.out ?_; rintro vc _ ⟨hrc, rfl⟩; have HRc := Lib.hid hrc; clear hrc)
    | (go_at_call 7; refine Rets.use (copy_c vc bb HRc.out (by omega)) ?_; rintro vm w1 ⟨hO1, hk1⟩; have HO1 := Lib.hid hO1; have HK1 := Lib.hid hk1; clear hO1 hk1)
    | (go_at_call 14; refine Rets.use (readAW_c (HC.out.kept HK1.out) bb HBb.out (by omega) vm HO1.out.rd) ?_; rw [HP.out]; rintro v2 w2 ⟨hk2, u2, rfl, hr2⟩; obtain ⟨A2, c2, rfl, _⟩ := hr2.slice; have HR2 := Lib.hid hr2; have HK2 := Lib.hid hk2; clear hr2 hk2)
    | (go_at_call 15; refine Rets.use (rreadA_c bb HBb.out (by omega) vc ((HRc.out.kept HK1.out (fun _ _ h => h)).kept HK2.out (fun _ _ h => h))) ?_; rw [HD.out]; rintro v3 w3 ⟨hk3, u3, rfl, hr3⟩; obtain ⟨A3, c3, rfl, _⟩ := hr3.slice; have HR3 := Lib.hid hr3; have HS2 := Lib.hid (HR2.out.kept hk3 (fun _ _ h => h)); have HM3 := Lib.hid ((HO1.out.rd.kept HK2.out (fun _ _ h => h)).kept hk3 (fun _ _ h => h)); have HC3 := Lib.hid (((HRc.out.kept HK1.out (fun _ _ h => h)).kept HK2.out (fun _ _ h => h)).kept hk3 (fun _ _ h => h)); have HK3 := Lib.hid ((HK1.out.trans HK2.out (fun _ _ h => h)).trans hk3 (fun _ _ h => h)); clear hr3 hk3)
    | (go_at_call 10; refine Rets.use (same_one _ _ t (by exact HS2.out) (by exact HR3.out) (by omega)) ?_; rintro _ w4 ⟨rfl, hk4⟩; have HM4 := Lib.hid (HM3.out.kept hk4 (fun _ _ h => h)); have HC4 := Lib.hid (HC3.out.kept hk4 (fun _ _ h => h)); have HK4 := Lib.hid (HK3.out.trans hk4 (fun _ _ h => h)); clear hk4)
    | (go_at_call 10; refine Rets.use (same_one _ _ bb (by exact HM4.out) (by exact HC4.out) (by omega)) ?_; rintro _ w5 ⟨rfl, hk5⟩; have HK5 := Lib.hid (HK4.out.trans hk5 (fun _ _ h => h)); clear hk5)
    | (go_at_call 13; refine Rets.use (lives13_c _) ?_; rintro v14 w14 ⟨rfl, hk14⟩))
  go_ret
  exact ⟨rfl, HK5.out.trans hk14 (fun _ _ h => h)⟩
theorem wireReplies_walk (W : World) {b o c : Nat} (hc : CodesIn W b o c) (a1 : Option Addr) (n1 c1 : Nat) (x1 : (Kd.slice (.int .u8)).Dat) (H1 : Has W (.slice (.int .u8)) [.slice a1 n1 c1] x1) : Calls Tryd.prog 4 #[.slice a1 n1 c1] W (Rets (Yes W)) :=
  replies_in W hc x1 (bytes_in H1) _ H1.bytes.1
end Go.Proofs.YtibegbmehpggbaaDoor
