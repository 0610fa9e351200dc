/-
  The document's reader of requests: a line.
-/
import Derived.Test.YtibegbmehpggbaaWireS
import Derived.Test.YtibegbmehpggbaaChunkG
namespace Go.Proofs.Ytibegbmehpggbaa
open Go.RowKit Go.Canon Go.Mem
set_option linter.unusedVariables false
set_option linter.unusedSimpArgs false
def lineV (p : List Int × Int) : Value := if p.2 = 0 then .tuple #[.string (str p.1), .int .i64 ((p.1.length : Nat) + 2 : Int), .int .i64 0] else .tuple #[.string (str []), .int .i64 0, .int .i64 p.2]
theorem lbad_nl {bh : Bool} : Wire.badC bh 10 = !bh := by unfold Wire.badC; cases bh <;> simp
theorem lbad_on {x : Int} (h : x ≠ 10) : Wire.badC true x = true := by unfold Wire.badC; simp [h]
theorem lbad_off {x : Int} (h : x ≠ 10) : Wire.badC false x = (decide (x ≠ 13) && (decide (x < 32) || decide (126 < x))) := by unfold Wire.badC; simp [h]
theorem lbehind (l : List Int) (x : Int) : Wire.behind (l ++ [x]) = decide (x = 13) := by unfold Wire.behind; simp
theorem at_byte {w : World} {ok : Nat → Prop} {b o c n : Nat} {l : List Int} (h : Rd w ok (.slice (some ⟨b, o, none⟩) n c) n (Disk.bytes8 l)) {k : Nat} (hk : k < l.length) : w.cell? ⟨b, o + k, none⟩ = some (.int .u8 l[k]) := by
  obtain ⟨A, c', e, _, _, h4⟩ := h
  rcases h4 with h4 | ⟨b', o', e2, _, hc⟩
  · have := congrArg List.length h4; rw [Disk.bytes8_len, List.length_nil] at this; omega
  · cases e
    cases e2
    exact hc k _ (by simp [Disk.bytes8, hk])
theorem mid_any {w : World} {ok : Nat → Prop} {b o c : Nat} {l : List Int} (h : Rd w ok (.slice (some ⟨b, o, none⟩) l.length c) l.length (Disk.bytes8 l)) {a q : Nat} (haq : a ≤ q) (hq : q ≤ l.length) : Rd w ok (.slice (some ⟨b, o + a, none⟩) (q - a) (c - a)) ((l.drop a).take (q - a)).length (Disk.bytes8 ((l.drop a).take (q - a))) := by
  by_cases h0 : q = a
  · subst h0
    rw [Nat.sub_self]
    exact ⟨_, _, rfl, Nat.zero_le _, fun h => (by cases h), .inl rfl⟩
  · exact mid_at h (by omega) (by omega)
set_option maxHeartbeats 6400000 in
set_option maxRecDepth 100000 in
theorem rline_c {ok : Nat → Prop} {w : World} (v : Value) (l : List Int) (a : Nat) (ha : a ≤ l.length) (hr : Rd w ok v l.length (Disk.bytes8 l)) (hl : l.length ≤ 900000) (hB : IsB l) : Calls Try.prog 34 #[v, .int .i64 a] w (Rets (Only (lineV (Wire.lineF a [] (l.drop a))) w)) := by
  obtain ⟨A, c, rfl, hlc, _⟩ := hr.slice
  have HR := Lib.hid hr
  clear hr
  go_enter Try.func34, Try.ntmps34
  go_wp2
  go_loopw [7, 8] (fun i q0 wr => ∃ j : Nat, a ≤ j ∧ j ≤ l.length ∧ i = .int .i64 (j : Int) ∧ wr = w ∧ Hid (Wire.lineF a ((l.drop a).take (j - a)) (l.drop j) = Wire.lineF a [] (l.drop a))) (fun i _ _ => l.length - (intOf i).toNat)
  case atStart => exact ⟨a, Nat.le_refl _, ha, rfl, rfl, Lib.hid (by rw [Nat.sub_self]; rfl)⟩
  case round =>
    obtain ⟨j, haj, hj, rfl, hw, HL⟩ := hrel
    subst wr
    by_cases hlt : j < l.length
    · have hne : Disk.bytes8 l ≠ [] := by intro e; have := congrArg List.length e; rw [Disk.bytes8_len, List.length_nil] at this; omega
      obtain ⟨b, o, c', e, hlc2, _, _⟩ := HR.out.at hne
      cases e
      clear hne
      have hx := at_byte HR.out hlt
      have HPa := Lib.hid (piece_on haj hlt)
      have HD := Lib.hid (drop_one hlt)
      obtain ⟨x1, x2⟩ := hB _ (List.getElem_mem hlt)
      generalize hxx : l[j] = x at *
      have HX := Lib.hid hxx
      clear hxx
      rw [HD.out] at HL
      have hlen : ((l.drop a).take (j - a)).length = j - a := by rw [List.length_take, List.length_drop]; omega
      by_cases hbig : 1024 ≤ j
      · have HE := Lib.hid (show Wire.lineF a [] (l.drop a) = ([], 5) by rw [← HL.out, Wire.lineF_big (by rw [hlen]; omega)])
        clear hlen
        go_wp2
        go_ret3
        exact ⟨by rw [HE.out]; rfl, rfl⟩
      · have HBig := Lib.hid (show ¬ 1024 ≤ a + ((l.drop a).take (j - a)).length by rw [hlen]; omega)
        clear hlen
        by_cases h0 : j = a
        · subst h0
          have HBh := Lib.hid (show Wire.behind ((l.drop j).take (j - j)) = false by rw [Nat.sub_self]; rfl)
          by_cases b1 : x = 10
          · subst b1
            have HE := Lib.hid (show Wire.lineF _ [] (l.drop _) = ([], 4) from HL.out.symm.trans (Wire.lineF_bad HBig.out (by rw [HBh.out, lbad_nl]; rfl)))
            go_wp2
            go_ret3
            exact ⟨by rw [HE.out]; rfl, rfl⟩
          · have n1 : (x == 10) = false := by simpa using b1
            by_cases b2 : x = 13
            · subst b2
              have HM := Lib.hid ((Wire.lineF_more HBig.out (by rw [HBh.out, lbad_off b1]; simp) b1).symm.trans HL.out)
              clear b1
              go_wp2
              go_roundw
              case rel => exact ⟨j + 1, by omega, by omega, by go_num, by trivial, Lib.hid (by rw [HPa.out]; exact HM.out)⟩
              case measure => simp [intOf]; omega
            · have n3 : (x != 13) = true := by simpa using b2
              by_cases b3 : x < 32
              · have HE := Lib.hid (show Wire.lineF _ [] (l.drop _) = ([], 4) from HL.out.symm.trans (Wire.lineF_bad HBig.out (by rw [HBh.out, lbad_off b1, decide_eq_true b2, decide_eq_true b3]; rfl)))
                clear b1 b2
                go_wp2
                go_ret3
                exact ⟨by rw [HE.out]; rfl, rfl⟩
              · by_cases b4 : 126 < x
                · have HE := Lib.hid (show Wire.lineF _ [] (l.drop _) = ([], 4) from HL.out.symm.trans (Wire.lineF_bad HBig.out (by rw [HBh.out, lbad_off b1, decide_eq_true b2, decide_eq_true b4]; simp)))
                  clear b1 b2
                  go_wp2
                  go_ret3
                  exact ⟨by rw [HE.out]; rfl, rfl⟩
                · have HM := Lib.hid ((Wire.lineF_more HBig.out (by rw [HBh.out, lbad_off b1, decide_eq_false b3, decide_eq_false b4]; simp) b1).symm.trans HL.out)
                  clear b1 b2
                  go_wp2
                  go_roundw
                  case rel => exact ⟨j + 1, by omega, by omega, by go_num, by trivial, Lib.hid (by rw [HPa.out]; exact HM.out)⟩
                  case measure => simp [intOf]; omega
        · obtain ⟨q, rfl⟩ : ∃ q, j = q + 1 := ⟨j - 1, by omega⟩
          have haq : a ≤ q := by omega
          have hy := at_byte HR.out (k := q) (by omega)
          have HPq := Lib.hid (piece_on (l := l) haq (k := q) (by omega))
          obtain ⟨y1, y2⟩ := hB _ (List.getElem_mem (show q < l.length by omega))
          generalize hyy : l[q] = y at *
          have HYY := Lib.hid hyy
          clear hyy h0
          by_cases h13 : y = 13
          · subst h13
            have HBh := Lib.hid (show Wire.behind ((l.drop a).take (q + 1 - a)) = true by rw [HPq.out, lbehind]; rfl)
            by_cases b1 : x = 10
            · subst b1
              have hql : ((l.drop a).take (q - a)).length = q - a := by rw [List.length_take, List.length_drop]; omega
              have HE := Lib.hid (show Wire.lineF a [] (l.drop a) = ((l.drop a).take (q - a), 0) by rw [← HL.out, Wire.lineF_end HBig.out (by rw [HBh.out, lbad_nl]; simp), HPq.out, List.dropLast_concat])
              have hac : a < c := by omega
              have hq1 : q ≤ c := by omega
              have HMid := Lib.hid (mid_any HR.out haq (show q ≤ l.length by omega))
              have HBm := Lib.hid ((hB.drop a).take (q - a))
              have HQl := Lib.hid hql
              clear hql
              have hnum : ((((l.drop a).take (q - a)).length : Nat) + 2 : Int) = (q : Int) + 1 + 1 - (a : Int) := by rw [HQl.out]; omega
              go_wp2_with ((with_reducible refine at_ 42 rfl ?_); go_must (refine step_bytes_str rfl _ _ _ rfl 5 Try.underlying22 Try.underlying5 Try.underlying9 (.slice (some ⟨b, o + a, none⟩) (q - a) (c - a)) ((l.drop a).take (q - a)) rfl HMid.out HBm.out ?_))
              go_ret3
              refine ⟨?_, rfl⟩
              rw [HE.out]
              show _ = Value.tuple #[.string (str ((l.drop a).take (q - a))), .int .i64 ((((l.drop a).take (q - a)).length : Nat) + 2 : Int), .int .i64 0]
              rw [hnum]
              rfl
            · have n1 : (x == 10) = false := by simpa using b1
              have HE := Lib.hid (show Wire.lineF a [] (l.drop a) = ([], 4) by rw [← HL.out, Wire.lineF_bad HBig.out (by rw [HBh.out, lbad_on b1])])
              clear b1
              go_wp2
              go_ret3
              exact ⟨by rw [HE.out]; rfl, rfl⟩
          · have n13 : (y == 13) = false := by simpa using h13
            have HBh := Lib.hid (show Wire.behind ((l.drop a).take (q + 1 - a)) = false by rw [HPq.out, lbehind, decide_eq_false h13])
            clear h13
            by_cases b1 : x = 10
            · subst b1
              have HE := Lib.hid (show Wire.lineF _ [] (l.drop _) = ([], 4) from HL.out.symm.trans (Wire.lineF_bad HBig.out (by rw [HBh.out, lbad_nl]; rfl)))
              go_wp2
              go_ret3
              exact ⟨by rw [HE.out]; rfl, rfl⟩
            · have n1 : (x == 10) = false := by simpa using b1
              by_cases b2 : x = 13
              · subst b2
                have HM := Lib.hid ((Wire.lineF_more HBig.out (by rw [HBh.out, lbad_off b1]; simp) b1).symm.trans HL.out)
                clear b1
                go_wp2
                go_roundw
                case rel => exact ⟨q + 1 + 1, by omega, by omega, by go_num, by trivial, Lib.hid (by rw [HPa.out]; exact HM.out)⟩
                case measure => simp [intOf]; omega
              · have n3 : (x != 13) = true := by simpa using b2
                by_cases b3 : x < 32
                · have HE := Lib.hid (show Wire.lineF _ [] (l.drop _) = ([], 4) from HL.out.symm.trans (Wire.lineF_bad HBig.out (by rw [HBh.out, lbad_off b1, decide_eq_true b2, decide_eq_true b3]; rfl)))
                  clear b1 b2
                  go_wp2
                  go_ret3
                  exact ⟨by rw [HE.out]; rfl, rfl⟩
                · by_cases b4 : 126 < x
                  · have HE := Lib.hid (show Wire.lineF _ [] (l.drop _) = ([], 4) from HL.out.symm.trans (Wire.lineF_bad HBig.out (by rw [HBh.out, lbad_off b1, decide_eq_true b2, decide_eq_true b4]; simp)))
                    clear b1 b2
                    go_wp2
                    go_ret3
                    exact ⟨by rw [HE.out]; rfl, rfl⟩
                  · have HM := Lib.hid ((Wire.lineF_more HBig.out (by rw [HBh.out, lbad_off b1, decide_eq_false b3, decide_eq_false b4]; simp) b1).symm.trans HL.out)
                    clear b1 b2
                    go_wp2
                    go_roundw
                    case rel => exact ⟨q + 1 + 1, by omega, by omega, by go_num, by trivial, Lib.hid (by rw [HPa.out]; exact HM.out)⟩
                    case measure => simp [intOf]; omega
    · obtain rfl : j = l.length := by omega
      have HE := Lib.hid (show Wire.lineF a [] (l.drop a) = ([], 3) by rw [← HL.out, List.drop_length]; rfl)
      go_wp2
      go_ret3
      exact ⟨by rw [HE.out]; rfl, rfl⟩
end Go.Proofs.Ytibegbmehpggbaa
