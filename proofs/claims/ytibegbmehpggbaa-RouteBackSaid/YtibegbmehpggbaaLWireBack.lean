/-
  WireBack: what is printed is read, whatever stands behind; a beginning ends too early.
-/
import Derived.Test.YtibegbmehpggbaaWireQ
namespace Go.Proofs.Ytibegbmehpggbaa
open Go.RowKit Go.Canon Go.Mem Go.Args
set_option linter.unusedVariables false
set_option linter.unusedSimpArgs false
/-- Read just to the end: read too, whatever stands behind; a beginning is too short. -/
theorem go_just : ∀ (l : List Int) (r : Wire.S) (i : Int) (x : ReqP), Wire.go r l i = (x, i + (l.length : Int), 0) → (∀ l2, Wire.go r (l ++ l2) i = (x, i + (l.length : Int), 0)) ∧ ∀ k, k < l.length → Wire.go r (l.take k) i = (Wire.zeroR, 0, 3) := by
  intro l
  induction l with
  | nil => intro r i x h; simp [Wire.go] at h
  | cons b l ih =>
    intro r i x h
    rw [go_cons] at h
    by_cases he : (Wire.put r b).1.2 = 0
    · rw [if_neg (by simpa using he)] at h
      by_cases hd : (Wire.put r b).1.1 = true
      · rw [if_pos hd] at h
        have h2 := (Prod.mk.inj (Prod.mk.inj h).2).1
        have hl : l = [] := List.eq_nil_of_length_eq_zero (by rw [List.length_cons] at h2; omega)
        subst hl
        refine ⟨fun l2 => ?_, fun k hk => ?_⟩
        · rw [List.cons_append, go_cons, if_neg (by simpa using he), if_pos hd]
          exact h
        · have : k = 0 := by simp at hk; omega
          subst this
          rfl
      · rw [if_neg hd] at h
        have e : i + ((b :: l).length : Int) = (i + 1) + (l.length : Int) := by rw [List.length_cons]; omega
        rw [e] at h ⊢
        obtain ⟨h1, h2⟩ := ih _ _ _ h
        refine ⟨fun l2 => ?_, fun k hk => ?_⟩
        · rw [List.cons_append, go_cons, if_neg (by simpa using he), if_neg hd]
          exact h1 l2
        · cases k with
          | zero => rfl
          | succ k =>
            rw [List.take_succ_cons, go_cons, if_neg (by simpa using he), if_neg hd]
            exact h2 k (by simpa using hk)
    · rw [if_pos he] at h
      exact (he (Prod.mk.inj (Prod.mk.inj h).2).2).elim
theorem whole_just {l : List Int} {x : ReqP} (h : Wire.whole l = (x, (l.length : Int), 0)) : (∀ l2, Wire.whole (l ++ l2) = (x, (l.length : Int), 0)) ∧ ∀ k, k < l.length → Wire.whole (l.take k) = (Wire.zeroR, 0, 3) := by
  have h' : Wire.go Wire.new l 0 = (x, (0 : Int) + (l.length : Int), 0) := by rw [Int.zero_add]; exact h
  have := go_just l Wire.new 0 x h'
  rw [Int.zero_add] at this
  exact this
theorem text_pos (x : ReqP) : 0 < (Wire.text x).length := by unfold Wire.text Wire.front Wire.crlf; simp only [List.length_append, List.length_cons]; omega
theorem printF_cases (x : ReqP) : Wire.printF x = ([], 4) ∨ (Wire.printF x = (Wire.text x, 0) ∧ Wire.whole (Wire.text x) = (x, ((Wire.text x).length : Int), 0)) := by
  unfold Wire.printF
  split
  · exact .inl rfl
  · split
    · rename_i h; exact .inr ⟨rfl, h⟩
    · exact .inl rfl
theorem ReqP.cut_few (r : ReqP) : r.cut.Few := by unfold ReqP.cut; exact ⟨List.length_take_le _ _, List.length_take_le _ _, List.length_take_le _ _, List.length_take_le _ _⟩
theorem zeroR_ok : Wire.zeroR.Ok := ⟨IsB.nil, IsB.nil, IsB.nil, IsB.nil⟩
theorem same13_of {w : World} {ok ok2 : Nat → Prop} (r : ReqP) (hr : r.Ok) (v u : Value) {va vb : Value} (ha : va = reqV r v) (hb : vb = reqV r u) (h1 : Rd w ok v r.body.length (Disk.bytes8 r.body)) (h2 : Rd w ok2 u r.body.length (Disk.bytes8 r.body)) (hl : r.body.length ≤ 1000000) : Calls Try.prog 15 #[va, vb] w (Rets (Still (.bool true) w)) := by
  subst ha
  subst hb
  exact same13_self r hr v u h1 h2 hl
set_option maxHeartbeats 800000 in
set_option maxRecDepth 100000 in
theorem back_in (W : World) (r : ReqP) (hr : r.Ok) (v : Value) (h1 : Rd W (fun k => k < W.heap.size) v r.body.length (Disk.bytes8 r.body)) (vb : Value) (bh : List Int) (hbh : IsB bh) (h2 : Rd W (fun k => k < W.heap.size) vb bh.length (Disk.bytes8 bh)) (k : Int) : Calls Try.prog 8 #[reqV r v, vb, .int .i64 k] W (Rets (Yes W)) := by
  obtain ⟨A, c, rfl, _⟩ := h1.slice
  obtain ⟨w1, hw1⟩ : ∃ w1, w1 = W.alloc (.cells #[.string (str r.method), .string (str r.target), .string (str r.token), .slice A r.body.length c] 26) := ⟨_, rfl⟩
  obtain ⟨hb1, hk1, hs1⟩ := alloc1 hw1
  have HW := Lib.hid hw1
  have HB1 := Lib.hid (show w1.heap[W.heap.size]? = some (.cells (reqC r (.slice A r.body.length c)).toArray 26 (0, 0)) from hb1)
  have HK1 := Lib.hid hk1
  have HCu := Lib.hid (cut13_c (w := w1) r (.slice A r.body.length c) (h1.kept hk1 (fun _ _ h => h)))
  have HCb := Lib.hid (fun (x : World) (hx : Keeps (fun _ => False) w1 x) => cut_c (w := x) vb bh ((h2.kept hk1 (fun _ _ h => h)).kept hx (fun _ _ h => h)) 100)
  have hRo := hr.cut
  have hRf := r.cut_few
  generalize hR : r.cut = R at *
  have HRo := Lib.hid hRo
  have HRf := Lib.hid hRf
  obtain ⟨bb, hbb⟩ : ∃ bb, bh.take 100 = bb := ⟨_, rfl⟩
  rw [hbb] at HCb
  have hbl : bb.length ≤ 100 := by rw [← hbb, List.length_take]; omega
  have HBb := Lib.hid (show IsB bb by rw [← hbb]; exact hbh.take _)
  have hfb := hRf.b
  clear hw1 hb1 h1 h2 hk1 hbb hRo hRf hR
  unfold reqV
  rcases printF_cases R with hp | ⟨hp, hwh⟩
  · have HP := Lib.hid hp
    clear hp
    go_enter Try.func8, Try.ntmps8
    go_wp2_with (first
      | (first | ((with_reducible refine at_ 12 rfl ?_); rw [← HW.out]; go_must (refine step_load rfl _ _ rfl W.heap.size 0 (reqC r (.slice A r.body.length c)) _ _ (0, 0) _ rfl HB1.out rfl Try.underlying26 rfl (info_reqC _ _) ?_)) | (go_at_call 24; refine Rets.use HCu.out ?_; rintro _ w2 ⟨hk2, u2, rfl, hO2⟩; obtain ⟨A2, c2, rfl, _⟩ := hO2.slice; have HO2 := Lib.hid hO2; have HK2 := Lib.hid hk2; clear hO2) | (go_at_call 11; refine Rets.use (HCb.out _ HK2.out) ?_; rintro vc _ ⟨hrc, rfl⟩; have HRc := Lib.hid hrc; clear hrc) | ((with_reducible refine at_store 26 (.tmp 3) (.tmp 13) rfl ?_); go_must (refine step_store rfl _ _ _ rfl W.heap.size 0 (reqC R (.slice A2 R.body.length c2)) _ _ rfl rfl (HK2.out.heap HB1.out (fun h => h)) (by simp [reqC]) (info_reqC _ _) (by simp [reqC, Value.oneCell']) ?_); intro w3 hb3 hk3 hs3; rw [put_whole (by rfl)] at hb3; have HB3 := Lib.hid hb3; have HK3 := Lib.hid hk3; clear hb3) | ((with_reducible refine at_ 17 rfl ?_); go_must (refine step_load rfl _ _ rfl W.heap.size 0 (reqC R (.slice A2 R.body.length c2)) _ _ (0, 0) _ rfl HB3.out rfl Try.underlying26 rfl (info_reqC _ _) ?_)) | (go_at_call 25; refine Rets.use (printW_c R HRo.out HRf.out (.slice A2 R.body.length c2) (HO2.out.kept HK3.out (fun k h h' => by omega)).rd) ?_; rw [HP.out]; rintro _ w4 ⟨hk4, u4, rfl, hr4⟩; obtain ⟨A4, c4, rfl, _⟩ := hr4.slice; have HR4 := Lib.hid hr4; have HK4 := Lib.hid hk4; have HK24 := Lib.hid ((HK3.out.mono (S' := fun k => W.heap.size ≤ k) (fun k _ h => Nat.le_of_eq (Eq.symm h))).trans hk4 (fun _ _ h => h.elim)); have HKW := Lib.hid ((((HK1.out.trans HK2.out (fun _ _ h => h)).mono (S' := fun k => W.heap.size ≤ k) (fun _ _ h => h.elim)).trans HK3.out (fun k _ h => by omega)).trans hk4 (fun _ _ h => h.elim) |>.mono (S' := fun _ => False) (fun k hk h => by omega)); clear hr4))
      | (go_at_call 17; refine Rets.use (lives13_c _) ?_; rintro v14 w14 ⟨rfl, hk14⟩))
    go_ret
    exact ⟨rfl, HKW.out.trans hk14 (fun _ _ h => h)⟩
  · have HP := Lib.hid hp
    obtain ⟨hw2, hw3⟩ := whole_just hwh
    have htp := text_pos R
    have htl : (Wire.text R).length ≤ 4100 := by have := front_len HRf.out; unfold Wire.text; rw [List.length_append]; omega
    have HTb := Lib.hid (text_b HRo.out)
    obtain ⟨T, hT⟩ : ∃ T, Wire.text R = T := ⟨_, rfl⟩
    rw [hT] at HP hw2 hw3 htp htl HTb
    have HW2 := Lib.hid (hw2 bb)
    have hnn : ((T.length : Int) != (T.length : Int)) = false := by simp
    obtain ⟨j, hj1, hj2⟩ : ∃ j : Nat, least k 0 ((T.length : Int) - 1) = (j : Int) ∧ j < T.length := by
      refine ⟨(least k 0 ((T.length : Int) - 1)).toNat, ?_, ?_⟩ <;> (unfold least; split <;> (try split) <;> omega)
    have HJ := Lib.hid hj1
    have HW3 := Lib.hid (hw3 j hj2)
    have hTj : (T.take j).length = j := by rw [List.length_take]; omega
    have HTj := Lib.hid hTj
    clear hp hwh hw2 hw3 hT hj1 hTj
    go_enter Try.func8, Try.ntmps8
    go_wp2_with (first
      | (first | ((with_reducible refine at_ 12 rfl ?_); rw [← HW.out]; go_must (refine step_load rfl _ _ rfl W.heap.size 0 (reqC r (.slice A r.body.length c)) _ _ (0, 0) _ rfl HB1.out rfl Try.underlying26 rfl (info_reqC _ _) ?_)) | (go_at_call 24; refine Rets.use HCu.out ?_; rintro _ w2 ⟨hk2, u2, rfl, hO2⟩; obtain ⟨A2, c2, rfl, _⟩ := hO2.slice; have HO2 := Lib.hid hO2; have HK2 := Lib.hid hk2; clear hO2) | (go_at_call 11; refine Rets.use (HCb.out _ HK2.out) ?_; rintro vc _ ⟨hrc, rfl⟩; have HRc := Lib.hid hrc; clear hrc) | ((with_reducible refine at_store 26 (.tmp 3) (.tmp 13) rfl ?_); go_must (refine step_store rfl _ _ _ rfl W.heap.size 0 (reqC R (.slice A2 R.body.length c2)) _ _ rfl rfl (HK2.out.heap HB1.out (fun h => h)) (by simp [reqC]) (info_reqC _ _) (by simp [reqC, Value.oneCell']) ?_); intro w3 hb3 hk3 hs3; rw [put_whole (by rfl)] at hb3; have HB3 := Lib.hid hb3; have HK3 := Lib.hid hk3; clear hb3) | ((with_reducible refine at_ 17 rfl ?_); go_must (refine step_load rfl _ _ rfl W.heap.size 0 (reqC R (.slice A2 R.body.length c2)) _ _ (0, 0) _ rfl HB3.out rfl Try.underlying26 rfl (info_reqC _ _) ?_)) | (go_at_call 25; refine Rets.use (printW_c R HRo.out HRf.out (.slice A2 R.body.length c2) (HO2.out.kept HK3.out (fun k h h' => by omega)).rd) ?_; rw [HP.out]; rintro _ w4 ⟨hk4, u4, rfl, hr4⟩; obtain ⟨A4, c4, rfl, _⟩ := hr4.slice; have HR4 := Lib.hid hr4; have HK4 := Lib.hid hk4; have HK24 := Lib.hid ((HK3.out.mono (S' := fun k => W.heap.size ≤ k) (fun k _ h => Nat.le_of_eq (Eq.symm h))).trans hk4 (fun _ _ h => h.elim)); have HKW := Lib.hid ((((HK1.out.trans HK2.out (fun _ _ h => h)).mono (S' := fun k => W.heap.size ≤ k) (fun _ _ h => h.elim)).trans HK3.out (fun k _ h => by omega)).trans hk4 (fun _ _ h => h.elim) |>.mono (S' := fun _ => False) (fun k hk h => by omega)); clear hr4))
      | (go_at_call 12; refine Rets.use (copy_c (.slice A4 T.length c4) T HR4.out (by omega)) ?_; rintro v5 w5 ⟨hO5, hk5⟩; have HO5 := Lib.hid hO5; have HK5 := Lib.hid hk5; have HRc5 := Lib.hid (HRc.out.kept (HK24.out.trans hk5 (fun _ _ h => h.elim)) (fun k h h' => by omega)); clear hO5)
      | ((with_reducible refine at_ 37 rfl ?_); go_must (refine step_append_rd (ok2 := fun k => k < W.heap.size) rfl _ _ _ rfl 5 _ 1 1 Try.underlying22 row_byte rfl (by decide) v5 T.length (Disk.bytes8 T) rfl HO5.out vc bb.length (Disk.bytes8 bb) rfl HRc5.out (by rw [Disk.bytes8_len, Nat.mul_one]) (Disk.bytes8_one bb) (by simp only [maxLen]; omega) (by omega) ?_); intro v6 w6 hO6 hk6; have HO6 := Lib.hid hO6; have HOb := HO5.out; have HK6 := Lib.hid (hk6.mono (S' := fun k => w4.heap.size ≤ k) (fun k _ h => HOb.2 k h)); clear hO6 hk6 HOb)
      | (go_at_call 13; refine Rets.use (wholeW_c _ (T ++ bb) (by have := HO6.out.rd; rw [← Disk.bytes8_append, ← List.length_append] at this; exact this) (by rw [List.length_append]; omega) (HTb.out.app HBb.out)) ?_; rw [HW2.out]; rintro _ w7 ⟨hk7, u7, rfl, hO7⟩; obtain ⟨A7, c7, rfl, _⟩ := hO7.slice; have HO7 := Lib.hid hO7; have HK7 := Lib.hid hk7; clear hO7)
      | ((with_reducible refine at_ 9 rfl ?_); go_must (refine step_alloc rfl _ rfl _ zq row_req rfl ?_); intro w8 hb8 hk8 hs8)
      | ((with_reducible refine at_store 26 (.tmp 9) (.tmp 39) rfl ?_); go_must (refine step_store rfl _ _ _ rfl w7.heap.size 0 (reqC R (.slice A7 R.body.length c7)) _ _ rfl rfl hb8 (by simp [zq, reqC]) (info_reqC _ _) (by simp [reqC, Value.oneCell']) ?_); intro w9 hb9 hk9 hs9; rw [put_whole (by rfl)] at hb9; have HK9 := Lib.hid (fresh_set (Keeps.refl _ w7) hk8 hk9); have HB9 := Lib.hid hb9; have HK49 := Lib.hid (((HK5.out.mono (S' := fun k => w4.heap.size ≤ k) (fun _ _ h => h.elim)).trans HK6.out (fun _ _ h => h)).trans (HK7.out.trans HK9.out (fun _ _ h => h)) (fun _ _ h => h.elim)); have HB39 := Lib.hid (HK49.out.heap (HK4.out.heap HB3.out (fun h => h)) (fun h => by have := HKW.out.size; have := lt_of HB3.out; have := HK4.out.size; omega)); have HR49 := Lib.hid (HR4.out.lt.kept HK49.out (fun k h h' => by have := h.2; omega)); have HO29 := Lib.hid ((((HO2.out.kept HK3.out (fun k h h' => by omega)).kept HK4.out (fun _ _ h => h)).rd.lt).kept HK49.out (fun k h h' => by have := h.2; omega)); clear hb9 hb8 hk8 hk9)
      | ((with_reducible refine at_ 51 rfl ?_); go_must (refine step_load rfl _ _ rfl W.heap.size 0 (reqC R (.slice A2 R.body.length c2)) _ _ (0, 0) _ rfl HB39.out rfl Try.underlying26 rfl (info_reqC _ _) ?_))
      | ((with_reducible refine at_ 52 rfl ?_); go_must (refine step_load rfl _ _ rfl w7.heap.size 0 (reqC R (.slice A7 R.body.length c7)) _ _ (0, 0) _ rfl HB9.out rfl Try.underlying26 rfl (info_reqC _ _) ?_))
      | (go_at_call 15; first | (refine Rets.use (same13_of R HRo.out (.slice A2 R.body.length c2) (.slice A7 R.body.length c7) (by rfl) (by rfl) HO29.out (HO7.out.kept HK9.out (fun _ _ h => h)).rd (by omega)) ?_; rintro _ w10 ⟨rfl, hk10⟩; have HK10 := Lib.hid hk10; have HR10 := Lib.hid (HR49.out.kept hk10 (fun _ _ h => h))) | (refine Rets.use (same13_of Wire.zeroR zeroR_ok (.slice A11 Wire.zeroR.body.length c11) (.slice none 0 0) (by rfl) (by rfl) (HO11.out.kept HK12.out (fun k h h' => by have := lt_of HB9.out; have := HK10.out.size; omega)).rd (Rd.nil _ (fun _ => True)) (by decide)) ?_; rintro _ w13 ⟨rfl, hk13⟩; have HK13 := Lib.hid hk13))
      | (go_at_call 27; refine Rets.use (least_c k 0 ((T.length : Int) - 1) _) ?_; rw [HJ.out]; rintro _ _ ⟨rfl, rfl⟩)
      | (go_at_call 13; refine Rets.use (wholeW_c (.slice A4 j c4) (T.take j) (by have := Rd.front HR10.out j 1 (by omega) (by rw [Disk.bytes8_len, Nat.mul_one]); rw [Nat.mul_one] at this; rw [HTj.out]; unfold Disk.bytes8 at *; rw [List.map_take]; exact this) (by rw [HTj.out]; omega) (HTb.out.take j)) ?_; rw [HW3.out]; rintro _ w11 ⟨hk11, u11, rfl, hO11⟩; obtain ⟨A11, c11, rfl, _⟩ := hO11.slice; have HO11 := Lib.hid hO11; have HK11 := Lib.hid hk11; have HB11 := Lib.hid (hk11.heap (HK10.out.heap HB9.out (fun h => h)) (fun h => h)); clear hO11)
      | ((with_reducible refine at_store 26 (.tmp 9) (.tmp 65) rfl ?_); go_must (refine step_store rfl _ _ _ rfl w7.heap.size 0 (reqC Wire.zeroR (.slice A11 Wire.zeroR.body.length c11)) _ _ rfl rfl HB11.out (by simp [reqC]) (info_reqC _ _) (by simp [reqC, Value.oneCell']) ?_); intro w12 hb12 hk12 hs12; rw [put_whole (by rfl)] at hb12; have HK12 := Lib.hid hk12; have HB12 := Lib.hid hb12; clear hb12 hk12)
      | ((with_reducible refine at_ 75 rfl ?_); go_must (refine step_load rfl _ _ rfl w7.heap.size 0 (reqC Wire.zeroR (.slice A11 Wire.zeroR.body.length c11)) _ _ (0, 0) _ rfl HB12.out rfl Try.underlying26 rfl (info_reqC _ _) ?_))
      | (go_at_call 17; refine Rets.use (lives13_c _) ?_; rintro v14 w14 ⟨rfl, hk14⟩))
    go_ret
    have z1 := HKW.out.size
    have z2 := HK49.out.size
    have z3 := HK9.out.size
    have z4 := HK7.out.size
    have z5 := HK6.out.size
    have z6 := HK5.out.size
    have HKf := ((((((HKW.out.mono (S' := fun k => W.heap.size ≤ k) (fun _ _ h => h.elim)).trans HK49.out (fun k _ h => by omega)).trans HK10.out (fun _ _ h => h.elim)).trans HK11.out (fun _ _ h => h.elim)).trans HK12.out (fun k _ h => by omega)).trans HK13.out (fun _ _ h => h.elim)).trans hk14 (fun _ _ h => h.elim)
    exact ⟨rfl, HKf.mono (fun k hk h => by omega)⟩
theorem KReq_of {W : World} {cs : List Value} {x : ByteArray × ByteArray × ByteArray × List Int × Unit} (H : Has W (.st (.fld .str (.fld .str (.fld .str (.fld (.slice (.int .u8)) .fin))))) cs x) : ∃ (r : ReqP) (v : Value), cs = reqC r v ∧ r.Ok ∧ Rd W (fun k => k < W.heap.size) v r.body.length (Disk.bytes8 r.body) := by
  obtain ⟨s1, s2, s3, l, u⟩ := x
  obtain ⟨c1, r1, rfl, _, ⟨rfl, _⟩, c2, r2, rfl, _, ⟨rfl, _⟩, c3, r3, rfl, _, ⟨rfl, _⟩, c4, r4, rfl, h4, hb, rfl⟩ := H
  obtain ⟨v, rfl⟩ : ∃ v, c4 = [v] := by
    cases c4 with
    | nil => cases h4
    | cons v t => cases t with
      | nil => exact ⟨v, rfl⟩
      | cons => cases h4
  refine ⟨⟨bytesOf s1, bytesOf s2, bytesOf s3, l⟩, v, ?_, ⟨bytesOf_byte _, bytesOf_byte _, bytesOf_byte _, byte_in hb⟩, Has.bytes hb |>.1⟩
  unfold reqC
  simp only [← str_of]
  rfl
theorem back_walk (W : World) (cs0 : Array Value) (x0 : ByteArray × ByteArray × ByteArray × List Int × Unit) (H0 : Has W (.st (.fld .str (.fld .str (.fld .str (.fld (.slice (.int .u8)) .fin))))) cs0.toList x0) (a1 : Option Addr) (n1 c1 : Nat) (x1 : (Kd.slice (.int .u8)).Dat) (H1 : Has W (.slice (.int .u8)) [.slice a1 n1 c1] x1) (x2 : Int) (w2 : (Lit.int .i64 x2).wf = true) :
    Calls Try.prog 8 #[.agg cs0, .slice a1 n1 c1, .int .i64 x2] W (Rets (Yes W)) := by
  obtain ⟨r, v, e, hr, h⟩ := KReq_of H0
  have e2 : cs0 = (reqC r v).toArray := by rw [← e]
  subst e2
  exact back_in W r hr v h _ _ (byte_in H1) H1.bytes.1 x2
end Go.Proofs.Ytibegbmehpggbaa
