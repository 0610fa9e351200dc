/-
  WireReads: the walk.
-/
import Derived.Test.YtibegbmehpggbaaWireV
import Derived.Test.YtibegbmehpggbaaWireD
import Derived.Test.YtibegbmehpggbaaReq
import Derived.Test.YtibegbmehpggbaaArgs
namespace Go.Proofs.Ytibegbmehpggbaa
open Go.RowKit Go.Canon Go.Mem Go.Args
set_option linter.unusedVariables false
set_option linter.unusedSimpArgs false
theorem same13_self {w : World} {ok ok2 : Nat → Prop} (r : ReqP) (hr : r.Ok) (v u : Value) (h1 : Rd w ok v r.body.length (Disk.bytes8 r.body)) (h2 : Rd w ok2 u r.body.length (Disk.bytes8 r.body)) (hl : r.body.length ≤ 1000000) : Calls Try.prog 15 #[reqV r v, reqV r u] w (Rets (Still (.bool true) w)) := by
  have h := same13_c r r hr hr v u h1 h2 hl
  rw [decide_eq_true rfl] at h
  exact h
theorem same_self {w : World} {ok ok2 : Nat → Prop} (v v2 : Value) (xs : List Int) (hr : Rd w ok v xs.length (Disk.bytes8 xs)) (hr2 : Rd w ok2 v2 xs.length (Disk.bytes8 xs)) (hl : xs.length ≤ 1000000) : Calls Try.prog 16 #[v, v2] w (Rets (Still (.bool true) w)) := by
  have h := same_c v v2 xs xs hr hr2 (by omega)
  rw [decide_eq_true rfl] at h
  exact h
/-- What is read: its parts are bytes, and few. -/
theorem whole_good (l : List Int) (hB : IsB l) : (Wire.whole l).1.Ok ∧ (Wire.whole l).1.body.length ≤ 2048 + l.length := by
  have key : ∀ (l : List Int) (r : Wire.S) (n : Nat) (i : Int), WGood r n → IsB l → (Wire.go r l i).1.Ok ∧ (Wire.go r l i).1.body.length ≤ 2048 + (n + l.length) := by
    intro l
    induction l with
    | nil => intro r n i _ _; exact ⟨⟨IsB.nil, IsB.nil, IsB.nil, IsB.nil⟩, by simp [Wire.go, Wire.zeroR]⟩
    | cons b l ih =>
      intro r n i hg hb
      have hg2 := hg.put (b := b) (hb b (by simp))
      rw [go_cons]
      split
      · exact ⟨⟨IsB.nil, IsB.nil, IsB.nil, IsB.nil⟩, by simp [Wire.zeroR]⟩
      · split
        · exact ⟨⟨hg2.xm, hg2.xt, hg2.xk, hg2.xb⟩, by have := hg2.bl; show (Wire.put r b).2.x.body.length ≤ _; rw [List.length_cons]; omega⟩
        · have h := ih _ (n + 1) (i + 1) hg2 (fun x hx => hb x (by simp [hx]))
          refine ⟨h.1, Nat.le_trans h.2 ?_⟩
          rw [List.length_cons]; omega
  have h := key l Wire.new 0 0 WGood.new hB
  refine ⟨h.1, Nat.le_trans h.2 (by omega)⟩
theorem reads_in (W : World) (v : Value) (b : List Int) (hB : IsB b) (hr : Rd W (fun k => k < W.heap.size) v b.length (Disk.bytes8 b)) : Calls Try.prog 3 #[v] W (Rets (Yes W)) := by
  have HCut := Lib.hid (cut_c v b hr 4000)
  obtain ⟨l, hll⟩ : ∃ l, b.take 4000 = l := ⟨_, rfl⟩
  rw [hll] at HCut
  have hlb : IsB l := by rw [← hll]; exact hB.take _
  have hln : l.length ≤ 4000 := by rw [← hll, List.length_take]; omega
  have hgd := whole_good l hlb
  have HDoc := Lib.hid (Wire.whole_doc l)
  obtain ⟨t, ht⟩ : ∃ t, Wire.whole l = t := ⟨_, rfl⟩
  rw [ht] at hgd
  have HTe := Lib.hid ht
  have HTd := Lib.hid (show Wire.docWhole l = t by rw [← HDoc.out, ht])
  have HOk := Lib.hid hgd.1
  have hbl := hgd.2
  have HlB := Lib.hid hlb
  obtain ⟨rx, n, e⟩ := t
  simp only at hbl
  have hnn : (n != n) = false := by simp
  have hee : (e != e) = false := by simp
  clear hll ht hgd hlb hr HDoc
  go_enter Try.func3, Try.ntmps3
  go_wp2_with (first
    | (go_at_call 11; refine Rets.use HCut.out ?_; rintro vc w0 ⟨hrc, rfl⟩; have HRc := Lib.hid hrc; clear hrc)
    | (go_at_call 12; refine Rets.use (copy_c vc l HRc.out (by omega)) ?_; rintro vm w1 ⟨hO1, hk1⟩; have HO1 := Lib.hid hO1; have HK1 := Lib.hid hk1; clear hO1)
    | (go_at_call 13; refine Rets.use (wholeW_c vm l HO1.out.rd (by omega) HlB.out) ?_; rw [HTe.out]; rintro v2 w2 ⟨hk2, u2, rfl, hO2⟩; have HO2 := Lib.hid hO2; obtain ⟨A2, c2, rfl, _⟩ := hO2.slice; have HK2 := Lib.hid hk2; clear hO2)
    | ((with_reducible refine at_ 4 rfl ?_); go_must (refine step_alloc rfl _ rfl _ zq row_req rfl ?_); intro w3 hb3 hk3 hs3)
    | ((with_reducible refine at_store 26 (.tmp 4) (.tmp 18) rfl ?_); go_must (refine step_store rfl _ _ _ rfl w2.heap.size 0 (reqC rx (.slice A2 rx.body.length c2)) _ _ rfl rfl hb3 (by simp [zq, reqC]) (info_reqC _ _) (by simp [reqC, Value.oneCell']) ?_); intro w4 hb4 hk4 hs4; rw [put_whole (by rfl)] at hb4; have HK4 := Lib.hid (fresh_set (Keeps.refl _ w2) hk3 hk4); have HB4 := Lib.hid hb4; clear hb4 hb3 hk3 hk4)
    | (go_at_call 14; refine Rets.use (rwholeW_c vc l ((HRc.out.kept ((HK1.out.trans HK2.out (fun _ _ h => h)).trans HK4.out (fun _ _ h => h)) (fun _ _ h => h)).mono (fun k h => Nat.lt_of_lt_of_le h ((HK1.out.trans HK2.out (fun _ _ h => h)).trans HK4.out (fun _ _ h => h)).size)) (by omega) HlB.out) ?_; rw [HTd.out]; rintro v5 w5 ⟨hk5, u5, rfl, hO5⟩; have HO5 := Lib.hid hO5; obtain ⟨A5, c5, rfl, _⟩ := hO5.slice; have HK5 := Lib.hid hk5; clear hO5)
    | ((with_reducible refine at_ 7 rfl ?_); go_must (refine step_alloc rfl _ rfl _ zq row_req rfl ?_); intro w6 hb6 hk6 hs6)
    | ((with_reducible refine at_store 26 (.tmp 7) (.tmp 24) rfl ?_); go_must (refine step_store rfl _ _ _ rfl w5.heap.size 0 (reqC rx (.slice A5 rx.body.length c5)) _ _ rfl rfl hb6 (by simp [zq, reqC]) (info_reqC _ _) (by simp [reqC, Value.oneCell']) ?_); intro w7 hb7 hk7 hs7; rw [put_whole (by rfl)] at hb7; have HK7 := Lib.hid (fresh_set (Keeps.refl _ w5) hk6 hk7); have HB7 := Lib.hid hb7; have HK57 := Lib.hid (HK5.out.trans HK7.out (fun _ _ h => h)); have HB47 := Lib.hid (HK57.out.heap HB4.out (fun h => h)); clear hb7 hb6 hk6 hk7)
    | ((with_reducible refine at_ 27 rfl ?_); go_must (refine step_load rfl _ _ rfl w2.heap.size 0 (reqC rx (.slice A2 rx.body.length c2)) _ _ (0, 0) _ rfl HB47.out rfl Try.underlying26 rfl (info_reqC _ _) ?_))
    | ((with_reducible refine at_ 28 rfl ?_); go_must (refine step_load rfl _ _ rfl w5.heap.size 0 (reqC rx (.slice A5 rx.body.length c5)) _ _ (0, 0) _ rfl HB7.out rfl Try.underlying26 rfl (info_reqC _ _) ?_))
    | (go_at_call 15; refine Rets.use (same13_self rx HOk.out (.slice A2 rx.body.length c2) (.slice A5 rx.body.length c5) ((HO2.out.kept HK4.out (fun _ _ h => h)).kept HK57.out (fun _ _ h => h)).rd (HO5.out.kept HK7.out (fun _ _ h => h)).rd (by omega)) ?_; rintro _ w8 ⟨rfl, hk8⟩; have HK8 := Lib.hid hk8))
  have HK28 := Lib.hid ((HK4.out.trans HK57.out (fun _ _ h => h)).trans HK8.out (fun _ _ h => h))
  have HK18 := Lib.hid (HK2.out.trans HK28.out (fun _ _ h => h))
  have HX := Lib.hid ((HO2.out.mono (ok' := fun k => w1.heap.size ≤ k ∧ k < w2.heap.size) (fun k hk h => ⟨h, hk⟩)).kept HK28.out (fun _ _ h => h))
  have HM := Lib.hid ((HO1.out.rd.lt.mono (ok' := fun k => k < w1.heap.size) (fun k h => h.2)).kept HK18.out (fun _ _ h => h))
  have HC := Lib.hid ((HRc.out.mono (ok' := fun k => k < w1.heap.size) (fun k h => Nat.lt_of_lt_of_le h HK1.out.size)).kept (HK1.out.trans HK18.out (fun _ _ h => h)) (fun _ _ h => h))
  have HB8 := Lib.hid (HK8.out.heap HB47.out (fun h => h))
  have HKA := Lib.hid (HK1.out.trans HK18.out (fun _ _ h => h))
  have hz12 := HK2.out.size
  have hz28 := HK28.out.size
  have hz01 := HK1.out.size
  clear hk1 hk2 hk5 hk8 hs3 hs4 hs6 hs7
  generalize hmm : rx.body.length = m at *
  go_loopw [10] (fun i wr => ∃ (k : Nat) (cs : List Value), k ≤ m ∧ i = .int .i64 k ∧ OwnRow wr (fun k => w1.heap.size ≤ k ∧ k < w2.heap.size) 5 1 (.slice A2 m c2) m cs ∧ Hid (Keeps (fun k => w1.heap.size ≤ k ∧ k < w2.heap.size) w8 wr)) (fun i _ => m - (intOf i).toNat)
  case atStart => exact ⟨0, _, Nat.zero_le _, rfl, HX.out, Lib.hid (Keeps.refl _ _)⟩
  case round =>
    obtain ⟨k, cs, hk, rfl, hO, HKr⟩ := hrel
    have HO := Lib.hid hO
    have HBr := Lib.hid (HKr.out.heap HB8.out (fun h => by omega))
    have cA : wr.cell? ⟨w2.heap.size, 3, none⟩ = some (.slice A2 m c2) := (cell_of_row wr _ 3 _ _ _ HBr.out).trans rfl
    by_cases hlt : k < m
    · obtain ⟨g, cap, cur, e1, hg, _⟩ := hO.form (by omega)
      cases e1
      have hng : m ≤ c2 := by obtain ⟨_, _, e, h, _⟩ := hO.slice; cases e; exact h
      clear hO
      go_wp2_with ((with_reducible refine at_store 5 (.tmp 51) (.const (.int .u8 7)) rfl ?_); go_must (refine step_set rfl _ _ _ rfl 5 g k m _ (.int .u8 7) cs rfl rfl rfl HO.out hlt info_byteS ?_); intro w9 hO9 hk9 hs9)
      go_roundw
      case rel => exact ⟨k + 1, _, by omega, by go_num, hO9, Lib.hid (HKr.out.trans hk9 (fun k' _ h => by subst h; exact hg))⟩
      case measure => simp [intOf]; omega
    · have HMr := Lib.hid (HM.out.kept HKr.out (fun k h h' => by omega))
      have HCr := Lib.hid (HC.out.kept HKr.out (fun k h h' => by omega))
      clear hO
      go_wp2_with (first
        | (go_at_call 17; refine Rets.use (lives13_c _) ?_; rintro v14 w14 ⟨rfl, hk14⟩)
        | (go_at_call 16; refine Rets.use (same_self vm vc l HMr.out HCr.out (by omega)) ?_; rintro _ w13 ⟨rfl, hk13⟩))
      go_ret
      have hkB : Keeps (fun k => W.heap.size ≤ k) W w14 := (((HKA.out.mono (fun _ _ h => h.elim)).trans HKr.out (fun k _ h => by omega)).trans hk13 (fun _ _ h => h.elim)).trans hk14 (fun _ _ h => h.elim)
      exact ⟨rfl, hkB.mono (fun k hk h => by omega)⟩
theorem byte_in {w : World} {v : Value} {l : List Int} (h : Has w (.slice (.int .u8)) [v] l) : IsB l := by
  obtain ⟨A, c, _, _, _, _, h5⟩ := h
  intro x hx
  obtain ⟨i, hi, rfl⟩ := List.getElem_of_mem hx
  obtain ⟨a, es, _, _, _, h6⟩ := h5 i l[i] (List.getElem?_eq_getElem hi)
  have := h6.2
  simp [Lit.wf, IntKind.min, IntKind.max, IntKind.signed, IntKind.bits] at this
  omega
set_option maxHeartbeats 6400000 in
set_option maxRecDepth 100000 in
theorem wireReads_walk (W : World) (a0 : Option Addr) (n0 c0 : Nat) (x0 : (Kd.slice (.int .u8)).Dat) (H0 : Has W (.slice (.int .u8)) [.slice a0 n0 c0] x0) : Calls Try.prog 3 #[.slice a0 n0 c0] W (Rets (Yes W)) := reads_in W _ _ (byte_in H0) H0.bytes.1
end Go.Proofs.Ytibegbmehpggbaa
