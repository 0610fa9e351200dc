/-
  The document's reader of requests: small, named.
-/
import Derived.Test.YtibegbmehpggbaaWireS
namespace Go.Proofs.Ytibegbmehpggbaa
open Go.RowKit Go.Canon Go.Mem
set_option linter.unusedVariables false
set_option linter.unusedSimpArgs false
theorem one_rd {w : World} {x : Int} {b : Nat} {t : TypeId} {fr : Nat × Nat} (hb : w.heap[b]? = some (.cells ([Value.int .u8 x].flatMap fun v => v.cells.toList).toArray t fr)) {ok : Nat → Prop} (hok : ok b) : Rd w ok (.slice (some ⟨b, 0, none⟩) 1 1) [x].length (Disk.bytes8 [x]) :=
  ⟨_, _, rfl, Nat.le_refl _, fun h => (by cases h), .inr ⟨b, 0, rfl, hok, fun j u hu => by rw [cell_of_row w _ _ _ _ _ hb, Nat.zero_add]; simpa [Value.cells, Disk.bytes8] using hu⟩⟩
theorem low_byte {x : Int} (h : 0 ≤ x ∧ x < 256) : 0 ≤ Wire.low x ∧ Wire.low x < 256 := by
  have := lowW_byte (l := [x]) (IsB.one h) (Wire.low x) (by simp)
  exact this
set_option maxHeartbeats 1600000 in
theorem rsmall_c (l : List Int) (hB : IsB l) (hl : l.length ≤ 1000000) (w : World) : Calls Try.prog 50 #[.string (str l)] w (Rets (Still (.string (str (l.map Wire.low))) w)) := by
  have hs := str_size l
  have HX := Lib.hid (fun (k : Nat) (h : k < l.length) (w : World) => index_str hB h w)
  obtain ⟨s, hst⟩ : ∃ s, s = str l := ⟨_, rfl⟩
  rw [← hst] at hs HX ⊢
  clear hst
  go_enter Try.func50, Try.ntmps50
  go_wp2
  go_loopw [3, 4, 5] (fun o i q0 wr => ∃ k : Nat, k ≤ l.length ∧ i = .int .i64 k ∧ o = .string (str ((l.take k).map Wire.low)) ∧ Hid (Keeps (fun _ => False) w wr)) (fun _ i _ _ => l.length - (intOf i).toNat)
  case atStart => exact ⟨0, by omega, rfl, rfl, Lib.hid (Keeps.refl _ w)⟩
  case round =>
    obtain ⟨k, hk, rfl, rfl, HK⟩ := hrel
    by_cases hlt : k < l.length
    · have hx := HX.out k hlt wr
      obtain ⟨x1, x2⟩ := hB _ (List.getElem_mem hlt)
      have HN := Lib.hid (show (l.take (k + 1)).map Wire.low = (l.take k).map Wire.low ++ [Wire.low l[k]] by rw [List.take_add_one, List.getElem?_eq_getElem hlt, List.map_append]; rfl)
      have hlen : ((l.take k).map Wire.low).length ≤ 1000000 := by simp; omega
      generalize l[k] = x at *
      generalize (l.take k).map Wire.low = p at *
      have HAdd := Lib.hid (fun y w => add_str (a := p) (b := [y]) (by simp only [List.length_singleton]; omega) w)
      by_cases c1 : 65 ≤ x
      · by_cases c2 : x ≤ 90
        · have HL := Lib.hid (show Wire.low x = x + 32 by unfold Wire.low Wire.upC; rw [decide_eq_true ⟨c1, c2⟩]; rfl)
          have HB := Lib.hid (IsB.one (show 0 ≤ x + 32 ∧ x + 32 < 256 by omega))
          generalize hz : str p = sp at *
          go_wp2_with (first
            | ((with_reducible refine at_ 25 rfl ?_); go_must (refine step_lit rfl 22 _ 1 rfl [.int .u8 (x + 32)] rfl rfl (by decide) 5 _ 1 Try.underlying22 row2_byte (by decide) (by decide) (by intro v hv; rw [List.mem_singleton] at hv; subst hv; rfl) ?_); intro w4 hb4 hk4 hs4)
            | ((with_reducible refine at_ 26 rfl ?_); go_must (refine step_bytes_str rfl _ _ _ rfl 5 Try.underlying22 Try.underlying5 Try.underlying9 _ [x + 32] rfl (one_rd hb4 (ok := fun _ => True) trivial) HB.out ?_); have hadd := HAdd.out (x + 32) w4))
          go_roundw
          case rel => exact ⟨k + 1, by omega, by go_num, by rw [HN.out, HL.out], Lib.hid (HK.out.trans hk4 (fun _ _ h => h))⟩
          case measure => simp [intOf]; omega
        · have HL := Lib.hid (show Wire.low x = x by unfold Wire.low Wire.upC; rw [decide_eq_false (by omega)]; rfl)
          have HB := Lib.hid (IsB.one (show 0 ≤ x ∧ x < 256 by omega))
          generalize hz : str p = sp at *
          go_wp2_with (first
            | ((with_reducible refine at_ 25 rfl ?_); go_must (refine step_lit rfl 22 _ 1 rfl [.int .u8 x] rfl rfl (by decide) 5 _ 1 Try.underlying22 row2_byte (by decide) (by decide) (by intro v hv; rw [List.mem_singleton] at hv; subst hv; rfl) ?_); intro w4 hb4 hk4 hs4)
            | ((with_reducible refine at_ 26 rfl ?_); go_must (refine step_bytes_str rfl _ _ _ rfl 5 Try.underlying22 Try.underlying5 Try.underlying9 _ [x] rfl (one_rd hb4 (ok := fun _ => True) trivial) HB.out ?_); have hadd := HAdd.out x w4))
          go_roundw
          case rel => exact ⟨k + 1, by omega, by go_num, by rw [HN.out, HL.out], Lib.hid (HK.out.trans hk4 (fun _ _ h => h))⟩
          case measure => simp [intOf]; omega
      · have HL := Lib.hid (show Wire.low x = x by unfold Wire.low Wire.upC; rw [decide_eq_false (by omega)]; rfl)
        have HB := Lib.hid (IsB.one (show 0 ≤ x ∧ x < 256 by omega))
        generalize hz : str p = sp at *
        go_wp2_with (first
          | ((with_reducible refine at_ 25 rfl ?_); go_must (refine step_lit rfl 22 _ 1 rfl [.int .u8 x] rfl rfl (by decide) 5 _ 1 Try.underlying22 row2_byte (by decide) (by decide) (by intro v hv; rw [List.mem_singleton] at hv; subst hv; rfl) ?_); intro w4 hb4 hk4 hs4)
          | ((with_reducible refine at_ 26 rfl ?_); go_must (refine step_bytes_str rfl _ _ _ rfl 5 Try.underlying22 Try.underlying5 Try.underlying9 _ [x] rfl (one_rd hb4 (ok := fun _ => True) trivial) HB.out ?_); have hadd := HAdd.out x w4))
        go_roundw
        case rel => exact ⟨k + 1, by omega, by go_num, by rw [HN.out, HL.out], Lib.hid (HK.out.trans hk4 (fun _ _ h => h))⟩
        case measure => simp [intOf]; omega
    · obtain rfl : k = l.length := by omega
      rw [List.take_length]
      go_wp2
      go_ret
      exact ⟨rfl, HK.out⟩
theorem str_one (y : Int) : (str [y]).toList = [UInt8.ofNat y.toNat] := by rw [ByteArray.toList_eq]; rfl
theorem one_nat {y : Int} (h : 0 ≤ y ∧ y < 256) : ((UInt8.ofNat y.toNat).toNat : Int) = y := byte_back h
theorem one_is {y : Int} (h : 0 ≤ y ∧ y < 256) (b : UInt8) : ((str [y]).toList == [b]) = decide (y = b.toNat) := by
  rw [str_one]
  have h1 := one_nat h
  by_cases e : y = b.toNat
  · rw [decide_eq_true e]
    have : UInt8.ofNat y.toNat = b := UInt8.toNat_inj.1 (by omega)
    simp [this]
  · rw [decide_eq_false e]
    rw [beq_eq_false_iff_ne]
    intro h2
    have h3 : UInt8.ofNat y.toNat = b := by simpa using h2
    rw [h3] at h1
    exact e h1.symm
theorem one_less {y : Int} (h : 0 ≤ y ∧ y < 256) (b : UInt8) : Op.bytesLess (str [y]).toList [b] = decide (y < b.toNat) := by
  rw [str_one]
  have h1 := one_nat h
  have : Op.bytesLess [UInt8.ofNat y.toNat] [b] = decide (UInt8.ofNat y.toNat < b) := by
    unfold Op.bytesLess
    simp [Op.bytesLess]
    try (split <;> simp_all)
  rw [this]
  have e : (UInt8.ofNat y.toNat < b) = (y < b.toNat) := by
    rw [UInt8.lt_iff_toNat_lt]
    apply propext
    omega
  simp only [e]
theorem alC_low (c : Int) : Wire.alC c = (decide (97 ≤ Wire.low c ∧ Wire.low c ≤ 122) || decide (Wire.low c = 45)) := by
  unfold Wire.alC Wire.low Wire.upC lowC
  by_cases h : 65 ≤ c ∧ c ≤ 90
  · rw [decide_eq_true h]
    simp
    omega
  · rw [decide_eq_false h]
    simp
/-- Where a line's name ends; -1: it is none. -/
def namedF (l : List Int) : Int := match Wire.split l with | none => -1 | some _ => ((Wire.upto l).length : Nat)
set_option maxHeartbeats 1600000 in
set_option maxRecDepth 100000 in
theorem named_c (l : List Int) (hB : IsB l) (hl : l.length ≤ 1000000) (w : World) : Calls Try.prog 49 #[.string (str l)] w (Rets (Still (.int .i64 (namedF l)) w)) := by
  have hs := str_size l
  have HX := Lib.hid (fun (k : Nat) (h : k < l.length) (w : World) => index_str hB h w)
  have HSl := Lib.hid (fun (k : Nat) (h : k + 1 ≤ l.length) (w : World) => slice_str (l := l) (i := k) (j := k + 1) (by omega) h w)
  generalize str l = s at *
  go_enter Try.func49, Try.ntmps49
  go_wp2
  go_loopw [3, 4] (fun i q0 wr => ∃ k : Nat, k ≤ l.length ∧ i = .int .i64 k ∧ Hid ((l.take k).all Wire.alC = true) ∧ Hid (Keeps (fun _ => False) w wr)) (fun i _ _ => l.length - (intOf i).toNat)
  case atStart => exact ⟨0, by omega, rfl, Lib.hid rfl, Lib.hid (Keeps.refl _ w)⟩
  case round =>
    obtain ⟨k, hk, rfl, HA, HK⟩ := hrel
    by_cases hlt : k < l.length
    · have hx := HX.out k hlt wr
      have HC := Lib.hid (show (l.take (k + 1)).all Wire.alC = Wire.alC l[k] by rw [List.take_add_one, List.getElem?_eq_getElem hlt, List.all_append, HA.out]; simp)
      have HN := Lib.hid (split_bad hlt HA.out)
      have HH := Lib.hid (split_here hlt HA.out)
      have hsl : ∀ w', (Instr.slice 9 (.string s) (some (.int .i64 k)) (some (.int .i64 ((k : Int) + 1))) none).run Try.prog w' = .ok (.string (str [l[k]])) w' := fun w' => by
        have := HSl.out k hlt w'
        rw [show (l.drop k).take (k + 1 - k) = [l[k]] by rw [drop_one hlt, show k + 1 - k = 1 by omega]; rfl] at this
        exact this
      obtain ⟨x1, x2⟩ := hB _ (List.getElem_mem hlt)
      have HY := Lib.hid (rfl : l[k] = l[k])
      generalize hy : l[k] = c at *
      have HY := Lib.hid hy
      clear hy
      by_cases c0 : c = 58
      · subst c0
        have HH := Lib.hid (HH.out rfl)
        have HU := Lib.hid (show (Wire.upto l).length = k by rw [upto_at hlt HA.out (HY.out)]; rw [List.length_take]; omega)
        clear hsl
        by_cases k1 : 0 < k
        · by_cases k2 : k ≤ 32
          · by_cases k3 : k + 1 < l.length
            · have hx3 : ∀ w', (Instr.index 9 (.string s) (.int .i64 ((k : Int) + 1))).run Try.prog w' = .ok (.int .u8 l[k + 1]) w' := fun w' => HX.out (k + 1) k3 w'
              have HG := Lib.hid (show l[k + 1]? = some l[k + 1] from List.getElem?_eq_getElem k3)
              generalize l[k + 1] = d at *
              by_cases k4 : d = 32
              · subst k4
                have HZ := Lib.hid (show namedF l = k by unfold namedF; rw [HH.out, if_pos ⟨by omega, k2, HG.out⟩]; simp only [HU.out])
                go_wp2
                go_ret
                exact ⟨by rw [HZ.out]; rfl, HK.out⟩
              · have hb : (d != 32) = true := by simpa using k4
                have HZ := Lib.hid (show namedF l = -1 by unfold namedF; rw [HH.out, if_neg]; rintro ⟨_, _, h⟩; rw [HG.out] at h; exact k4 (by simpa using h))
                clear k4
                go_wp2
                go_ret
                exact ⟨by rw [HZ.out]; rfl, HK.out⟩
            · have HZ := Lib.hid (show namedF l = -1 by unfold namedF; rw [HH.out, if_neg]; rintro ⟨_, _, h⟩; rw [List.getElem?_eq_none (by omega)] at h; cases h)
              go_wp2
              go_ret
              exact ⟨by rw [HZ.out]; rfl, HK.out⟩
          · have HZ := Lib.hid (show namedF l = -1 by unfold namedF; rw [HH.out, if_neg]; rintro ⟨_, h, _⟩; omega)
            go_wp2
            go_ret
            exact ⟨by rw [HZ.out]; rfl, HK.out⟩
        · have HZ := Lib.hid (show namedF l = -1 by unfold namedF; rw [HH.out, if_neg]; rintro ⟨h, _, _⟩; omega)
          go_wp2
          go_ret
          exact ⟨by rw [HZ.out]; rfl, HK.out⟩
      · have hb58 : (c != 58) = true := by simpa using c0
        have HN := Lib.hid (HN.out c0)
        have HD := Lib.hid (alC_low c)
        have hyb := low_byte ⟨x1, x2⟩
        clear HH c0
        have f1 := one_is hyb 45
        have f2 := one_less hyb 97
        have f3 := one_less hyb 122
        have f4 := one_is hyb 122
        obtain ⟨y, hy⟩ : ∃ y, Wire.low c = y := ⟨_, rfl⟩
        have HY2 := Lib.hid hy
        rw [hy] at f1 f2 f3 f4 HD
        clear hyb hy
        by_cases c1 : y = 45
        · have g1 : ((str [y]).toList == [45]) = true := by rw [f1]; exact decide_eq_true c1
          have HC := Lib.hid (show (l.take (k + 1)).all Wire.alC = true by rw [HC.out, HD.out, c1]; rfl)
          clear f1 f2 f3 f4 c1
          go_wp2_with (go_at_call 50; refine Rets.use (rsmall_c [c] (IsB.one ⟨x1, x2⟩) (by simp) _) ?_; rintro v1 w1 ⟨hv, hk1⟩; rw [show [c].map Wire.low = [y] by rw [← HY2.out]; rfl] at hv; subst hv)
          go_roundw
          case rel => exact ⟨k + 1, by omega, by go_num, HC, Lib.hid (HK.out.trans hk1 (fun _ _ h => h))⟩
          case measure => simp [intOf]; omega
        · have g1 : ((str [y]).toList == [45]) = false := by rw [f1]; exact decide_eq_false c1
          by_cases c2 : y < 97
          · have g2 : Op.bytesLess (str [y]).toList [97] = true := by rw [f2]; exact decide_eq_true c2
            have HZ := Lib.hid (show namedF l = -1 by unfold namedF; rw [HN.out (by rw [HD.out, decide_eq_false (by omega), decide_eq_false c1]; rfl)])
            clear f1 f2 f3 f4 c1 c2
            go_wp2_with (go_at_call 50; refine Rets.use (rsmall_c [c] (IsB.one ⟨x1, x2⟩) (by simp) _) ?_; rintro v1 w1 ⟨hv, hk1⟩; rw [show [c].map Wire.low = [y] by rw [← HY2.out]; rfl] at hv; subst hv)
            go_ret
            exact ⟨by rw [HZ.out]; rfl, HK.out.trans hk1 (fun _ _ h => h)⟩
          · have g2 : Op.bytesLess (str [y]).toList [97] = false := by rw [f2]; exact decide_eq_false c2
            by_cases c3 : y < 122
            · have g3 : Op.bytesLess (str [y]).toList [122] = true := by rw [f3]; exact decide_eq_true c3
              have HC := Lib.hid (show (l.take (k + 1)).all Wire.alC = true by rw [HC.out, HD.out, decide_eq_true (by omega)]; rfl)
              clear f1 f2 f3 f4 c1 c2 c3
              go_wp2_with (go_at_call 50; refine Rets.use (rsmall_c [c] (IsB.one ⟨x1, x2⟩) (by simp) _) ?_; rintro v1 w1 ⟨hv, hk1⟩; rw [show [c].map Wire.low = [y] by rw [← HY2.out]; rfl] at hv; subst hv)
              go_roundw
              case rel => exact ⟨k + 1, by omega, by go_num, HC, Lib.hid (HK.out.trans hk1 (fun _ _ h => h))⟩
              case measure => simp [intOf]; omega
            · have g3 : Op.bytesLess (str [y]).toList [122] = false := by rw [f3]; exact decide_eq_false c3
              by_cases c4 : y = 122
              · have g4 : ((str [y]).toList == [122]) = true := by rw [f4]; exact decide_eq_true c4
                have HC := Lib.hid (show (l.take (k + 1)).all Wire.alC = true by rw [HC.out, HD.out, decide_eq_true (by omega)]; rfl)
                clear f1 f2 f3 f4 c1 c2 c3 c4
                go_wp2_with (go_at_call 50; refine Rets.use (rsmall_c [c] (IsB.one ⟨x1, x2⟩) (by simp) _) ?_; rintro v1 w1 ⟨hv, hk1⟩; rw [show [c].map Wire.low = [y] by rw [← HY2.out]; rfl] at hv; subst hv)
                go_roundw
                case rel => exact ⟨k + 1, by omega, by go_num, HC, Lib.hid (HK.out.trans hk1 (fun _ _ h => h))⟩
                case measure => simp [intOf]; omega
              · have g4 : ((str [y]).toList == [122]) = false := by rw [f4]; exact decide_eq_false c4
                have HZ := Lib.hid (show namedF l = -1 by unfold namedF; rw [HN.out (by rw [HD.out, decide_eq_false (by omega), decide_eq_false c1]; rfl)])
                clear f1 f2 f3 f4 c1 c2 c3 c4
                go_wp2_with (go_at_call 50; refine Rets.use (rsmall_c [c] (IsB.one ⟨x1, x2⟩) (by simp) _) ?_; rintro v1 w1 ⟨hv, hk1⟩; rw [show [c].map Wire.low = [y] by rw [← HY2.out]; rfl] at hv; subst hv)
                go_ret
                exact ⟨by rw [HZ.out]; rfl, HK.out.trans hk1 (fun _ _ h => h)⟩
    · obtain rfl : k = l.length := by omega
      have HZ := Lib.hid (show namedF l = -1 by unfold namedF; rw [split_end (by have := HA.out; rwa [List.take_length] at this)])
      by_cases k1 : 0 < l.length
      · by_cases k2 : l.length ≤ 32
        · go_wp2
          go_ret
          exact ⟨by rw [HZ.out]; rfl, HK.out⟩
        · go_wp2
          go_ret
          exact ⟨by rw [HZ.out]; rfl, HK.out⟩
      · go_wp2
        go_ret
        exact ⟨by rw [HZ.out]; rfl, HK.out⟩
end Go.Proofs.Ytibegbmehpggbaa
