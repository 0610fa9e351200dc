/-
  WireCase: the walk.
-/
import Derived.Test.YtibegbmehpggbaaWireCQ
import Derived.Test.YtibegbmehpggbaaLWireBack
import Derived.Deep.DeepCutAuto
import Derived.Deep.CutBlock
namespace Go.Proofs.Ytibegbmehpggbaa
open Go.RowKit Go.Canon Go.Mem Go.Args
set_option linter.unusedVariables false
set_option linter.unusedSimpArgs false
set_option maxHeartbeats 6400000 in
set_option maxRecDepth 100000 in
theorem case_in (W : World) (v : Value) (b0 : List Int) (hB0 : IsB b0) (hr : Rd W (fun k => k < W.heap.size) v b0.length (Disk.bytes8 b0)) (wh : Int) : Calls Try.prog 4 #[v, .int .u64 wh] W (Rets (Yes W)) := by
  have HCut := Lib.hid (cut_c v b0 hr 1500)
  obtain ⟨l, hll⟩ : ∃ l, b0.take 1500 = l := ⟨_, rfl⟩
  rw [hll] at HCut
  have HlB := Lib.hid (show IsB l by rw [← hll]; exact hB0.take _)
  have hln : l.length ≤ 1500 := by rw [← hll, List.length_take]; omega
  clear hll hr hB0
  go_enter Try.func4, Try.ntmps4
  go_upto_block 0 with (first
    | (go_at_call 11; refine Rets.use HCut.out ?_; rintro vc w0 ⟨hrc, rfl⟩; have HRc := Lib.hid hrc; clear hrc)
    | (go_at_call 12; refine Rets.use (copy_c vc l HRc.out (by omega)) ?_; rintro vm w1 ⟨hO1, hk1⟩; obtain ⟨A1, c1, rfl, _⟩ := hO1.slice; have HO1 := Lib.hid hO1; have HK1 := Lib.hid hk1; clear hO1 hk1))
  go_cut [6, 7, 8, 9] (fun _ _ _ _ wx => ∃ cs, CE l cs ∧ OwnRow wx (fun k => W.heap.size ≤ k) 5 1 (.slice A1 l.length c1) l.length (Disk.bytes8 cs) ∧ Keeps (fun k => W.heap.size ≤ k) w1 wx)
  case first =>
    go_wp2
    go_loopw [6, 7, 8, 9] (fun sl sn si st wr => ∃ (k nl : Nat) (nm : Bool) (cs : List Int), k ≤ l.length ∧ si = .int .i64 (k : Int) ∧ sl = .int .i64 (nl : Int) ∧ sn = .bool nm ∧ Hid (nl ≤ k ∧ (nm = true → 1 ≤ nl)) ∧ Hid (CI l cs k nm) ∧ Hid (OwnRow wr (fun k => W.heap.size ≤ k) 5 1 (.slice A1 l.length c1) l.length (Disk.bytes8 cs)) ∧ Hid (Keeps (fun k => W.heap.size ≤ k) w1 wr)) (fun _ _ si _ _ => l.length - (intOf si).toNat)
    case atStart => exact ⟨0, 0, false, l, Nat.zero_le _, rfl, rfl, rfl, Lib.hid ⟨Nat.le_refl _, fun h => (by cases h)⟩, Lib.hid (CI.start l), HO1, Lib.hid (Keeps.refl _ _)⟩
    case round =>
      obtain ⟨k, nl, nm, cs, hk, rfl, rfl, rfl, HN, HI, HO, HKr⟩ := hrel
      have hsz := HKr.out.size
      have hci := HI.out
      have hlen := hci.len
      by_cases hlt : k < l.length
      · have hk' : k < cs.length := by omega
        obtain ⟨g, cap, cur, e1, hgz, _⟩ := HO.out.form (by omega)
        cases e1
        have hcl : ∀ j (hj : j < cs.length), wr.cell? ⟨g, j, none⟩ = some (.int .u8 cs[j]) := fun j hj => by
          have hrd := HO.out.rd
          have h2 := at_byte (b := g) (o := 0) (c := c1) (n := l.length) (l := cs) hrd hj
          rw [Nat.zero_add] at h2
          exact h2
        have HCl := Lib.hid hcl
        obtain ⟨x0, hx0⟩ : ∃ x0, cs[k] = x0 := ⟨_, rfl⟩
        have ck := hcl k hk'
        rw [hx0] at ck
        have hg0 : cs[k]? = some x0 := by rw [List.getElem?_eq_getElem hk', hx0]
        have HG0 := Lib.hid hg0
        clear hcl hx0 hg0
        obtain ⟨pb, hpb⟩ : ∃ pb : Bool, (pb = true ↔ Pat cs k) := ⟨@decide (Pat cs k) (Classical.propDecidable _), by simp⟩
        have HPb := Lib.hid hpb
        clear hpb
        go_upto_region 7 with fail
        go_cut [65] (fun s65 wx => s65 = .bool pb ∧ wx = wr)
        case first =>
          by_cases h2 : 2 ≤ k
          · have h2i : (2 : Int) ≤ (k : Int) := by omega
            by_cases h3 : k + 1 < l.length
            · have h3i : (k : Int) + 1 < (l.length : Int) := by omega
              obtain ⟨x2, hx2⟩ : ∃ x, cs[k - 2]'(by omega) = x := ⟨_, rfl⟩
              have ck2 := HCl.out (k - 2) (by omega)
              rw [hx2] at ck2
              have hq2 : (k : Int) - 2 = ((k - 2 : Nat) : Int) := by omega
              obtain ⟨x1, hx1⟩ : ∃ x, cs[k - 1]'(by omega) = x := ⟨_, rfl⟩
              have ck1 := HCl.out (k - 1) (by omega)
              rw [hx1] at ck1
              have hq1 : (k : Int) - 1 = ((k - 1 : Nat) : Int) := by omega
              obtain ⟨x3, hx3⟩ : ∃ x, cs[k + 1]'(by omega) = x := ⟨_, rfl⟩
              have ck3 := HCl.out (k + 1) (by omega)
              rw [hx3] at ck3
              have g2 : cs[k - 2]? = some x2 := by rw [List.getElem?_eq_getElem (by omega), hx2]
              have g1 : cs[k - 1]? = some x1 := by rw [List.getElem?_eq_getElem (by omega), hx1]
              have g3 : cs[k + 1]? = some x3 := by rw [List.getElem?_eq_getElem (by omega), hx3]
              have G2 := Lib.hid g2
              have G1 := Lib.hid g1
              have G3 := Lib.hid g3
              clear hx2 hx1 hx3 g2 g1 g3
              by_cases e2 : x2 = 13
              · subst e2
                by_cases e1 : x1 = 10
                · subst e1
                  by_cases e0 : x0 = 13
                  · subst e0
                    by_cases e3 : x3 = 10
                    · subst e3
                      obtain rfl : pb = true := HPb.out.2 ⟨h2, G2.out, G1.out, HG0.out, G3.out⟩
                      go_wp2
                      go_meet
                      exact ⟨rfl, rfl⟩
                    · obtain rfl : pb = false := bool_no HPb.out (fun h => e3 (Option.some.inj (G3.out.symm.trans h.2.2.2.2)))
                      have f3 : (x3 == 10) = false := by simpa using e3
                      clear e3
                      go_wp2
                      go_meet
                      exact ⟨rfl, rfl⟩
                  · obtain rfl : pb = false := bool_no HPb.out (fun h => e0 (Option.some.inj (HG0.out.symm.trans h.2.2.2.1)))
                    have f0 : (x0 == 13) = false := by simpa using e0
                    clear e0
                    go_wp2
                    go_meet
                    exact ⟨rfl, rfl⟩
                · obtain rfl : pb = false := bool_no HPb.out (fun h => e1 (Option.some.inj (G1.out.symm.trans h.2.2.1)))
                  have f1 : (x1 == 10) = false := by simpa using e1
                  clear e1
                  go_wp2
                  go_meet
                  exact ⟨rfl, rfl⟩
              · obtain rfl : pb = false := bool_no HPb.out (fun h => e2 (Option.some.inj (G2.out.symm.trans h.2.1)))
                have f2 : (x2 == 13) = false := by simpa using e2
                clear e2
                go_wp2
                go_meet
                exact ⟨rfl, rfl⟩
            · have h3i : ¬ (k : Int) + 1 < (l.length : Int) := by omega
              obtain rfl : pb = false := bool_no HPb.out (fun h => by have := (List.getElem?_eq_some_iff.1 h.2.2.2.2).1; omega)
              go_wp2
              go_meet
              exact ⟨rfl, rfl⟩
          · have h2i : ¬ (2 : Int) ≤ (k : Int) := by omega
            obtain rfl : pb = false := bool_no HPb.out (fun h => h2 h.1)
            go_wp2
            go_meet
            exact ⟨rfl, rfl⟩
        case rest =>
          obtain ⟨rfl, rfl⟩ := hcut
          cases pb with
          | true =>
            go_wp2
            go_meet
            exact ⟨cs, HI.out.ce, HO.out, HKr.out⟩
          | false =>
            have hP : ¬ Pat cs k := fun h => by have := HPb.out.2 h; cases this
            have HP := Lib.hid hP
            clear hP
            obtain ⟨lb, hlb⟩ : ∃ lb, isL x0 = lb := ⟨_, rfl⟩
            have HLb := Lib.hid hlb
            clear hlb
            go_upto_region 8 with fail
            go_cut [9] (fun s9 wx => s9 = .bool lb ∧ wx = wc)
            case first =>
              have hli := isL_iff x0
              rw [HLb.out] at hli
              have HLi := Lib.hid hli
              clear hli
              by_cases h97 : 97 ≤ x0
              · by_cases h122 : x0 ≤ 122
                · obtain rfl : lb = true := HLi.out.2 (by omega)
                  go_wp2
                  go_meet
                  exact ⟨rfl, rfl⟩
                · obtain rfl : lb = false := bool_no HLi.out (by omega)
                  have h65 : 65 ≤ x0 := by omega
                  have h90 : ¬ x0 ≤ 90 := by omega
                  go_wp2
                  go_meet
                  exact ⟨rfl, rfl⟩
              · by_cases h65 : 65 ≤ x0
                · by_cases h90 : x0 ≤ 90
                  · obtain rfl : lb = true := HLi.out.2 (by omega)
                    go_wp2
                    go_meet
                    exact ⟨rfl, rfl⟩
                  · obtain rfl : lb = false := bool_no HLi.out (by omega)
                    go_wp2
                    go_meet
                    exact ⟨rfl, rfl⟩
                · obtain rfl : lb = false := bool_no HLi.out (by omega)
                  go_wp2
                  go_meet
                  exact ⟨rfl, rfl⟩
            case rest =>
              obtain ⟨rfl, rfl⟩ := hcut
              have hbx : l[k]? = some x0 := by rw [← HI.out.rest k (Nat.le_refl _)]; exact HG0.out
              have HBx := Lib.hid hbx
              clear hbx
              by_cases e10 : x0 = 10
              · subst e10
                have hwr : wrap64 ((nl : Int) + 1) = (nl : Int) + 1 := IntWalk.wrap64_in _ (by have := HN.out.1; omega)
                go_wp2
                go_roundw
                case rel => exact ⟨k + 1, nl + 1, true, cs, by omega, by go_num, by have := HN.out.1; go_num, rfl, Lib.hid ⟨by have := HN.out.1; omega, fun _ => by omega⟩, Lib.hid (HI.out.keep HP.out (fun _ => InN.new HBx.out)), HO, HKr⟩
                case measure => simp [intOf]; omega
              · have f10 : (x0 == 10) = false := by simpa using e10
                by_cases e58 : x0 = 58
                · subst e58
                  clear e10
                  go_wp2
                  go_roundw
                  case rel => exact ⟨k + 1, nl, false, cs, by omega, by go_num, rfl, rfl, Lib.hid ⟨by have := HN.out.1; omega, fun h => (by cases h)⟩, Lib.hid (HI.out.keep HP.out (fun h => (by cases h))), HO, HKr⟩
                  case measure => simp [intOf]; omega
                · have f58 : (x0 == 58) = false := by simpa using e58
                  have HE := Lib.hid e58
                  clear e10 e58
                  cases nm with
                  | false =>
                    go_wp2
                    go_roundw
                    case rel => exact ⟨k + 1, nl, false, cs, by omega, by go_num, rfl, rfl, Lib.hid ⟨by have := HN.out.1; omega, fun h => (by cases h)⟩, Lib.hid (HI.out.keep HP.out (fun h => (by cases h))), HO, HKr⟩
                    case measure => simp [intOf]; omega
                  | true =>
                    have hnl := HN.out.2 rfl
                    have hgt : (0 : Int) < (nl : Int) := by omega
                    cases lb with
                    | false =>
                      go_wp2
                      go_roundw
                      case rel => exact ⟨k + 1, nl, true, cs, by omega, by go_num, rfl, rfl, Lib.hid ⟨by have := HN.out.1; omega, fun _ => hnl⟩, Lib.hid (HI.out.keep HP.out (fun _ => (HI.out.name rfl).on HBx.out HE.out)), HO, HKr⟩
                      case measure => simp [intOf]; omega
                    | true =>
                      have hxr := flip_L HLb.out
                      have HXr := Lib.hid hxr
                      clear hxr
                      obtain ⟨hfz, hO9, hk9⟩ := own_put HO.out hlt (.int .u8 (bits .xor .u8 x0 32))
                      rw [bytes8_set] at hO9
                      have HO9 := Lib.hid hO9
                      have HK9 := Lib.hid hk9
                      clear hO9 hk9
                      go_wp2
                      · go_roundw
                        case rel => exact ⟨k + 1, nl, true, _, by omega, by go_num, rfl, rfl, Lib.hid ⟨by have := HN.out.1; omega, fun _ => hnl⟩, Lib.hid (HI.out.turn HP.out HG0.out HLb.out HXr.out.1 HXr.out.2), HO9, Lib.hid (HKr.out.trans HK9.out (fun k' _ h => by subst h; exact hgz))⟩
                        case measure => simp [intOf]; omega
                      · go_roundw
                        case rel => exact ⟨k + 1, nl, true, cs, by omega, by go_num, rfl, rfl, Lib.hid ⟨by have := HN.out.1; omega, fun _ => hnl⟩, Lib.hid (HI.out.keep HP.out (fun _ => (HI.out.name rfl).on HBx.out HE.out)), HO, HKr⟩
                        case measure => simp [intOf]; omega
      · go_wp2
        go_meet
        exact ⟨cs, HI.out.ce, HO.out, HKr.out⟩
  case rest =>
    obtain ⟨cs, hce, hoc, hkc⟩ := hcut
    have HKc := Lib.hid (HK1.out.mono (S' := fun k => W.heap.size ≤ k) (fun _ _ h => h.elim) |>.trans hkc (fun _ _ h => h))
    have HCs := Lib.hid hoc
    have HL := Lib.hid (HRc.out.kept HKc.out (fun k h h' => by omega))
    have hcl := hce.len
    have HcB := Lib.hid (hce.isB HlB.out)
    have hwc := Wire.case_whole hce
    have hgd := whole_good l HlB.out
    obtain ⟨t, ht⟩ : ∃ t, Wire.whole l = t := ⟨_, rfl⟩
    rw [ht] at hgd hwc
    have HWh := Lib.hid (show ∀ v, (v = vc ∨ v = .slice A1 l.length c1) → ∀ w', Keeps (fun _ => False) wc w' → Calls Try.prog 13 #[v] w' (Rets (WholeIs w' t)) from fun v hv w' hk => by
      rcases hv with rfl | rfl
      · rw [← ht]
        exact wholeW_c _ l (HL.out.kept hk (fun _ _ h => h)) (by omega) HlB.out
      · rw [← hwc]
        exact wholeW_c (.slice A1 l.length c1) cs (by rw [hcl]; exact (HCs.out.kept hk (fun _ _ h => h)).rd) (by omega) HcB.out)
    have HOk := Lib.hid hgd.1
    clear hcl
    have hbl := hgd.2
    obtain ⟨rx, n, e⟩ := t
    simp only at hbl
    have hnn : (n == n) = true := by simp
    have hee : (e == e) = true := by simp
    clear hce hoc hkc hgd hwc ht
    go_wp2_with (first
      | (go_at_call 13; first
          | (refine Rets.use (HWh.out _ (by exact .inl rfl) _ (by exact Keeps.refl _ _)) ?_; rintro v2 w2 ⟨hk2, u2, rfl, hO2⟩; have HO2 := Lib.hid hO2; obtain ⟨A2, c2, rfl, _⟩ := hO2.slice; have HK2 := Lib.hid hk2; clear hO2 hk2)
          | (refine Rets.use (HWh.out _ (by exact .inr rfl) _ (by exact HK2.out.trans HK4.out (fun _ _ h => h))) ?_; rintro v5 w5 ⟨hk5, u5, rfl, hO5⟩; have HO5 := Lib.hid hO5; obtain ⟨A5, c5, rfl, _⟩ := hO5.slice; have HK5 := Lib.hid hk5; clear hO5 hk5))
      | ((with_reducible refine at_ 10 rfl ?_); go_must (refine step_alloc rfl _ rfl _ zq row_req rfl ?_); intro w3 hb3 hk3 hs3)
      | ((with_reducible refine at_store 26 (.tmp 10) (.tmp 132) rfl ?_); go_must (refine step_store rfl _ _ _ rfl w2.heap.size 0 (reqC rx (.slice A2 rx.body.length c2)) _ _ rfl rfl hb3 (by simp [zq, reqC]) (info_reqC _ _) (by simp [reqC, Value.oneCell']) ?_); intro w4 hb4 hk4 hs4; rw [put_whole (by rfl)] at hb4; have HK4 := Lib.hid (fresh_set (Keeps.refl _ w2) hk3 hk4); have HB4 := Lib.hid hb4; clear hb4 hb3 hk3 hk4)
      | ((with_reducible refine at_ 13 rfl ?_); go_must (refine step_alloc rfl _ rfl _ zq row_req rfl ?_); intro w6 hb6 hk6 hs6)
      | ((with_reducible refine at_store 26 (.tmp 13) (.tmp 138) rfl ?_); go_must (refine step_store rfl _ _ _ rfl w5.heap.size 0 (reqC rx (.slice A5 rx.body.length c5)) _ _ rfl rfl hb6 (by simp [zq, reqC]) (info_reqC _ _) (by simp [reqC, Value.oneCell']) ?_); intro w7 hb7 hk7 hs7; rw [put_whole (by rfl)] at hb7; have HK7 := Lib.hid (fresh_set (Keeps.refl _ w5) hk6 hk7); have HB7 := Lib.hid hb7; have HK57 := Lib.hid (HK5.out.trans HK7.out (fun _ _ h => h)); have HB47 := Lib.hid (HK57.out.heap HB4.out (fun h => h)); clear hb7 hb6 hk6 hk7)
      | ((with_reducible refine at_ 141 rfl ?_); go_must (refine step_load rfl _ _ rfl w2.heap.size 0 (reqC rx (.slice A2 rx.body.length c2)) _ _ (0, 0) _ rfl HB47.out rfl Try.underlying26 rfl (info_reqC _ _) ?_))
      | ((with_reducible refine at_ 142 rfl ?_); go_must (refine step_load rfl _ _ rfl w5.heap.size 0 (reqC rx (.slice A5 rx.body.length c5)) _ _ (0, 0) _ rfl HB7.out rfl Try.underlying26 rfl (info_reqC _ _) ?_))
      | (go_at_call 15; refine Rets.use (same13_self rx HOk.out (.slice A2 rx.body.length c2) (.slice A5 rx.body.length c5) ((HO2.out.kept HK4.out (fun _ _ h => h)).kept HK57.out (fun _ _ h => h)).rd (HO5.out.kept HK7.out (fun _ _ h => h)).rd (by omega)) ?_; rintro _ w8 ⟨rfl, hk8⟩; have HK8 := Lib.hid hk8)
      | (go_at_call 17; refine Rets.use (lives13_c _) ?_; rintro v14 w14 ⟨rfl, hk14⟩))
    go_ret
    have hkz := ((((HKc.out.trans HK2.out (fun _ _ h => h.elim)).trans HK4.out (fun _ _ h => h.elim)).trans HK57.out (fun _ _ h => h.elim)).trans HK8.out (fun _ _ h => h.elim)).trans hk14 (fun _ _ h => h.elim)
    exact ⟨rfl, hkz.mono (fun k hk h => by omega)⟩
theorem case_walk (W : World) (a0 : Option Addr) (n0 c0 : Nat) (x0 : (Kd.slice (.int .u8)).Dat) (H0 : Has W (.slice (.int .u8)) [.slice a0 n0 c0] x0) (x1 : Int) (w1 : (Lit.int .u64 x1).wf = true) :
    Calls Try.prog 4 #[.slice a0 n0 c0, .int .u64 x1] W (Rets (Yes W)) :=
  case_in W _ _ (byte_in H0) H0.bytes.1 x1
end Go.Proofs.Ytibegbmehpggbaa
