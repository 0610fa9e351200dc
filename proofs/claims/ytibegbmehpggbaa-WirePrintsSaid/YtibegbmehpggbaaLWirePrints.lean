/-
  WirePrints: the walk.
-/
import Derived.Test.YtibegbmehpggbaaLWireBack
import Derived.Test.YtibegbmehpggbaaWireU
namespace Go.Proofs.Ytibegbmehpggbaa
open Go.RowKit Go.Canon Go.Mem Go.Args
set_option linter.unusedVariables false
set_option linter.unusedSimpArgs false
theorem cut_again (r : ReqP) : r.cut.cut = r.cut := by unfold ReqP.cut; simp [List.take_take]
theorem printF_len (x : ReqP) (h : x.Few) : (Wire.printF x).1.length ≤ 4100 := by
  rcases printF_cases x with hp | ⟨hp, _⟩
  · rw [hp]; simp
  · rw [hp]
    have := front_len h
    have := h.b
    show (Wire.text x).length ≤ 4100
    unfold Wire.text; rw [List.length_append]; omega
set_option maxHeartbeats 800000 in
set_option maxRecDepth 100000 in
theorem prints_in (W : World) (r : ReqP) (hr : r.Ok) (v : Value) (h1 : Rd W (fun k => k < W.heap.size) v r.body.length (Disk.bytes8 r.body)) : Calls Try.prog 7 #[reqV r v] W (Rets (Yes W)) := by
  obtain ⟨A, c, rfl, _⟩ := h1.slice
  obtain ⟨w1, hw1⟩ : ∃ w1, w1 = W.alloc (.cells #[.string (str r.method), .string (str r.target), .string (str r.token), .slice A r.body.length c] 26) := ⟨_, rfl⟩
  obtain ⟨hb1, hk1, hs1⟩ := alloc1 hw1
  have HW := Lib.hid hw1
  have HB1 := Lib.hid (show w1.heap[W.heap.size]? = some (.cells (reqC r (.slice A r.body.length c)).toArray 26 (0, 0)) from hb1)
  have HK1 := Lib.hid hk1
  have HCu := Lib.hid (cut13_c (w := w1) r (.slice A r.body.length c) (h1.kept hk1 (fun _ _ h => h)))
  have hRo := hr.cut
  have hRf := r.cut_few
  have hcc := cut_again r
  generalize hR : r.cut = R at *
  have HCu2 := Lib.hid (fun (x : World) (ok : Nat → Prop) u (h : Rd x ok u R.body.length (Disk.bytes8 R.body)) => (by have := cut13_c (w := x) R u h; rwa [hcc] at this : Calls Try.prog 24 #[reqV R u] x (Rets (ReqPost x R))))
  have HRo := Lib.hid hRo
  have HRf := Lib.hid hRf
  have hfb := hRf.b
  have hpl := printF_len R hRf
  obtain ⟨p, hp⟩ : ∃ p, Wire.printF R = p := ⟨_, rfl⟩
  have HP := Lib.hid hp
  rw [hp] at hpl
  obtain ⟨P, e⟩ := p
  simp only at hpl
  have hee : (e == e) = true := by simp
  clear hw1 hb1 h1 hk1 hRo hRf hR hcc hp
  unfold reqV
  go_enter Try.func7, Try.ntmps7
  go_wp2_with (first
    | ((with_reducible refine at_ 8 rfl ?_); rw [← HW.out]; go_must (refine step_load rfl _ _ rfl W.heap.size 0 (reqC r (.slice A r.body.length c)) _ _ (0, 0) _ rfl HB1.out rfl Try.underlying26 rfl (info_reqC _ _) ?_); (try have hz0 : True := trivial))
    | ((with_reducible refine at_store 26 (.tmp 1) (.tmp 9) rfl ?_); go_must (refine step_store rfl _ _ _ rfl W.heap.size 0 (reqC R (.slice A2 R.body.length c2)) _ _ rfl rfl (HK2.out.heap HB1.out (fun h => h)) (by simp [reqC]) (info_reqC _ _) (by simp [reqC, Value.oneCell']) ?_); intro w3 hb3 hk3 hs3; rw [put_whole (by rfl)] at hb3; have HB3 := Lib.hid hb3; have HK3 := Lib.hid hk3; have HR3 := Lib.hid ((HO2.out.kept hk3 (fun k h h' => by omega)).rd); clear hb3 hk3)
    | ((with_reducible refine at_ 10 rfl ?_); go_must (refine step_load rfl _ _ rfl W.heap.size 0 (reqC R (.slice A2 R.body.length c2)) _ _ (0, 0) _ rfl HB3.out rfl Try.underlying26 rfl (info_reqC _ _) ?_))
    | ((with_reducible refine at_ 3 rfl ?_); go_must (refine step_alloc rfl _ rfl _ zq row_req rfl ?_); intro w5 hb5 hk5 hs5)
    | ((with_reducible refine at_store 26 (.tmp 3) (.tmp 11) rfl ?_); go_must (refine step_store rfl _ _ _ rfl w4.heap.size 0 (reqC R (.slice A4 R.body.length c4)) _ _ rfl rfl hb5 (by simp [zq, reqC]) (info_reqC _ _) (by simp [reqC, Value.oneCell']) ?_); intro w6 hb6 hk6 hs6; rw [put_whole (by rfl)] at hb6; have HK6 := Lib.hid (fresh_set (Keeps.refl _ w4) hk5 hk6); have HB6 := Lib.hid hb6; clear hb6 hb5 hk5 hk6)
    | ((with_reducible refine at_ 13 rfl ?_); go_must (refine step_load rfl _ _ rfl w4.heap.size 0 (reqC R (.slice A4 R.body.length c4)) _ _ (0, 0) _ rfl HB6.out rfl Try.underlying26 rfl (info_reqC _ _) ?_))
    | (go_at_call 25; refine Rets.use (printW_c R HRo.out HRf.out (.slice A4 R.body.length c4) (HO4.out.kept HK6.out (fun _ _ h => h)).rd) ?_; rw [HP.out]; rintro _ w7 ⟨hk7, u7, rfl, hr7⟩; have HR7 := Lib.hid hr7; have HK7 := Lib.hid hk7; have HK37 := Lib.hid ((HK4.out.trans HK6.out (fun _ _ h => h)).trans hk7 (fun _ _ h => h)); have HB37 := Lib.hid (HK37.out.heap HB3.out (fun h => h)); clear hr7)
    | ((with_reducible refine at_ 18 rfl ?_); go_must (refine step_load rfl _ _ rfl W.heap.size 0 (reqC R (.slice A2 R.body.length c2)) _ _ (0, 0) _ rfl HB37.out rfl Try.underlying26 rfl (info_reqC _ _) ?_))
    | (go_at_call 26; refine Rets.use (rprint_c R HRo.out HRf.out (.slice A2 R.body.length c2) ((HR3.out.kept HK37.out (fun _ _ h => h)).lt.mono (fun k h => h.2))) ?_; rw [HP.out]; rintro _ w8 ⟨hk8, u8, rfl, hr8⟩; have HR8 := Lib.hid hr8; have HK8 := Lib.hid hk8; have HB38 := Lib.hid (hk8.heap HB37.out (fun h => h)); have HB68 := Lib.hid (hk8.heap (HK7.out.heap HB6.out (fun h => h)) (fun h => h)); clear hr8)
    | (go_at_call 16; refine Rets.use (same_self u7 u8 P (HR7.out.kept HK8.out (fun _ _ h => h)) HR8.out (by omega)) ?_; rintro _ w9 ⟨rfl, hk9⟩; have HK9 := Lib.hid hk9; have HB39 := Lib.hid (hk9.heap HB38.out (fun h => h)); have HB69 := Lib.hid (hk9.heap HB68.out (fun h => h)))
    | ((with_reducible refine at_ 31 rfl ?_); go_must (refine step_load rfl _ _ rfl w4.heap.size 0 (reqC R (.slice A4 R.body.length c4)) _ _ (0, 0) _ rfl HB69.out rfl Try.underlying26 rfl (info_reqC _ _) ?_))
    | ((with_reducible refine at_ 32 rfl ?_); go_must (refine step_load rfl _ _ rfl W.heap.size 0 (reqC R (.slice A2 R.body.length c2)) _ _ (0, 0) _ rfl HB39.out rfl Try.underlying26 rfl (info_reqC _ _) ?_))
    | (go_at_call 15; refine Rets.use (same13_self R HRo.out (.slice A4 R.body.length c4) (.slice A2 R.body.length c2) ((((HO4.out.kept HK6.out (fun _ _ h => h)).kept HK7.out (fun _ _ h => h)).kept HK8.out (fun _ _ h => h)).kept HK9.out (fun _ _ h => h)).rd ((((HR3.out.kept HK37.out (fun _ _ h => h))).kept HK8.out (fun _ _ h => h)).kept HK9.out (fun _ _ h => h)) (by omega)) ?_; rintro _ w10 ⟨rfl, hk10⟩)
    | (go_at_call 17; refine Rets.use (lives13_c _) ?_; rintro v14 w14 ⟨rfl, hk14⟩)
    | (go_at_call 24; first | (refine Rets.use (HCu2.out w3 _ (.slice A2 R.body.length c2) HR3.out) ?_; rintro _ w4 ⟨hk4, u4, rfl, hO4⟩; obtain ⟨A4, c4, rfl, _⟩ := hO4.slice; have HO4 := Lib.hid hO4; have HK4 := Lib.hid hk4; clear hO4) | (refine Rets.use HCu.out ?_; rintro _ w2 ⟨hk2, u2, rfl, hO2⟩; obtain ⟨A2, c2, rfl, _⟩ := hO2.slice; have HO2 := Lib.hid hO2; have HK2 := Lib.hid hk2; clear hO2)))
  go_ret
  have hkf := ((((((HK1.out.trans HK2.out (fun _ _ h => h)).mono (S' := fun k => W.heap.size ≤ k) (fun _ _ h => h.elim)).trans HK3.out (fun k _ h => by omega)).trans HK37.out (fun _ _ h => h.elim)).trans HK8.out (fun _ _ h => h.elim)).trans HK9.out (fun _ _ h => h.elim)).trans (hk10.trans hk14 (fun _ _ h => h)) (fun _ _ h => h.elim)
  exact ⟨rfl, hkf.mono (fun k hk h => by omega)⟩
theorem prints_walk (W : World) (cs0 : Array Value) (x0 : ByteArray × ByteArray × ByteArray × List Int × Unit) (H0 : Has W (.st (.fld .str (.fld .str (.fld .str (.fld (.slice (.int .u8)) .fin))))) cs0.toList x0) :
    Calls Try.prog 7 #[.agg cs0] W (Rets (Yes W)) := by
  obtain ⟨r, v, e, hr, h⟩ := KReq_of H0
  have e2 : cs0 = (reqC r v).toArray := by rw [← e]
  subst e2
  exact prints_in W r hr v h
end Go.Proofs.Ytibegbmehpggbaa
