/-
  The walks of package wire: target.
-/
import Derived.Test.YtibegbmehpggbaaDoorWireP
import Derived.Test.YtibegbmehpggbaaDoorTxtN
namespace Go.Proofs.YtibegbmehpggbaaDoor
open Go.RowKit Go.Canon Go.Mem
set_option linter.unusedVariables false
set_option linter.unusedSimpArgs false
theorem head0 {l : List Int} (h : 0 < l.length) : (l[0]? = some 47) = (l[0] = 47) := by rw [List.getElem?_eq_getElem h]; simp
set_option maxHeartbeats 1600000 in
set_option maxRecDepth 100000 in
theorem targetW_c (l : List Int) (hB : IsB l) (hl : l.length ≤ 1000000) (w : World) : Calls Tryd.prog 39 #[.string (str l)] w (Rets (Only (.bool (Wire.target l)) w)) := by
  have hs := str_size l
  have HX := Lib.hid (fun (k : Nat) (h : k < l.length) (w : World) => index_str hB h w)
  by_cases hn : l = []
  · subst hn
    have hE : ((str []).toList == []) = true := by rw [ByteArray.toList_eq]; rfl
    generalize str [] = s at *
    go_enter Tryd.func39, Tryd.ntmps39
    go_wp2
    go_ret
    exact ⟨rfl, rfl⟩
  · have hE := str_nil hn
    have hp : 0 < l.length := by cases l with | nil => exact (hn rfl).elim | cons => simp
    have h0 : (Instr.index 9 (.string (str l)) (.int .i64 0)).run Tryd.prog w = .ok (.int .u8 l[0]) w := HX.out 0 hp w
    have HF0 := Lib.hid (show Wire.target l = (decide (l[0] = 47) && decide (l.length ≤ 64) && l.all Wire.tarC) by
      unfold Wire.target
      simp only [head0 hp])
    generalize str l = s at *
    generalize hx : l[0] = x at *
    by_cases h47 : x = 47
    · subst h47
      clear hx
      by_cases h64 : 64 < l.length
      · have HF := Lib.hid (show Wire.target l = false by rw [HF0.out, decide_eq_false (by omega : ¬ l.length ≤ 64)]; simp)
        clear HF0
        go_enter Tryd.func39, Tryd.ntmps39
        go_wp2
        go_ret
        exact ⟨by rw [HF.out]; rfl, rfl⟩
      · have HF := Lib.hid (show Wire.target l = l.all Wire.tarC by rw [HF0.out, decide_eq_true (by omega : l.length ≤ 64)]; simp)
        clear HF0
        go_enter Tryd.func39, Tryd.ntmps39
        go_wp2
        go_loopw [3, 4, 19] (fun q0 q1 i wr => ∃ k : Nat, k ≤ l.length ∧ i = .int .i64 k ∧ wr = w ∧ Hid ((l.take k).all Wire.tarC = true)) (fun _ _ i _ => l.length - (intOf i).toNat)
        case atStart => exact ⟨0, by omega, rfl, rfl, Lib.hid rfl⟩
        case round =>
          obtain ⟨k, hk, rfl, hw, HT⟩ := hrel
          subst wr
          by_cases hlt : k < l.length
          · have hx := HX.out k hlt w
            have HC := Lib.hid (show (l.take (k + 1)).all Wire.tarC = Wire.tarC l[k] by rw [List.take_add_one, List.getElem?_eq_getElem hlt, List.all_append, HT.out]; simp)
            have HN := Lib.hid (fun h : Wire.tarC l[k] = false => show l.all Wire.tarC = false from List.all_eq_false.2 ⟨l[k], List.getElem_mem _, by simp [h]⟩)
            generalize l[k] = c at *
            have HD := Lib.hid (show Wire.tarC c = (decide (97 ≤ c ∧ c ≤ 122) || decide (48 ≤ c ∧ c ≤ 57) || decide (c = 45) || decide (c = 47)) from rfl)
            by_cases c1 : c < 97
            · by_cases c2 : c < 48
              · by_cases c3 : c = 45
                · subst c3
                  have HC := Lib.hid (show (l.take (k + 1)).all Wire.tarC = true by rw [HC.out, HD.out]; simp <;> omega)
                  go_wp2
                  go_roundw
                  case rel => exact ⟨k + 1, by omega, by go_num, by trivial, HC⟩
                  case measure => simp [intOf]; omega
                · by_cases c5 : c = 47
                  · subst c5
                    have HC := Lib.hid (show (l.take (k + 1)).all Wire.tarC = true by rw [HC.out, HD.out]; simp <;> omega)
                    go_wp2
                    go_roundw
                    case rel => exact ⟨k + 1, by omega, by go_num, by trivial, HC⟩
                    case measure => simp [intOf]; omega
                  · have hb : (c != 45) = true := by simpa using c3
                    have hb2 : (c != 47) = true := by simpa using c5
                    have c4 := Lib.hid (And.intro c3 c5)
                    clear c3 c5
                    have HG := Lib.hid (show Wire.target l = false by rw [HF.out]; apply HN.out; rw [HD.out]; have := c4.out; simp <;> omega)
                    go_wp2
                    go_ret
                    exact ⟨by rw [HG.out]; rfl, rfl⟩
              · by_cases c3 : 57 < c
                · have hb : (c != 45) = true := by rw [bne_iff_ne]; omega
                  have hb2 : (c != 47) = true := by rw [bne_iff_ne]; omega
                  have c4 := Lib.hid (show c ≠ 45 by omega)
                  have HG := Lib.hid (show Wire.target l = false by rw [HF.out]; apply HN.out; rw [HD.out]; have := c4.out; simp <;> omega)
                  go_wp2
                  go_ret
                  exact ⟨by rw [HG.out]; rfl, rfl⟩
                · have HC := Lib.hid (show (l.take (k + 1)).all Wire.tarC = true by rw [HC.out, HD.out]; simp <;> omega)
                  go_wp2
                  go_roundw
                  case rel => exact ⟨k + 1, by omega, by go_num, by trivial, HC⟩
                  case measure => simp [intOf]; omega
            · by_cases c2 : 122 < c
              · have c3 : ¬ c < 48 := by omega
                have c5 : 57 < c := by omega
                have hb : (c != 45) = true := by rw [bne_iff_ne]; omega
                have hb2 : (c != 47) = true := by rw [bne_iff_ne]; omega
                have c4 := Lib.hid (show c ≠ 45 by omega)
                have HG := Lib.hid (show Wire.target l = false by rw [HF.out]; apply HN.out; rw [HD.out]; have := c4.out; simp <;> omega)
                go_wp2
                go_ret
                exact ⟨by rw [HG.out]; rfl, rfl⟩
              · have HC := Lib.hid (show (l.take (k + 1)).all Wire.tarC = true by rw [HC.out, HD.out]; simp <;> omega)
                go_wp2
                go_roundw
                case rel => exact ⟨k + 1, by omega, by go_num, by trivial, HC⟩
                case measure => simp [intOf]; omega
          · obtain rfl : k = l.length := by omega
            have HT := Lib.hid (show Wire.target l = true by rw [HF.out]; have := HT.out; rwa [List.take_length] at this)
            go_wp2
            go_ret
            exact ⟨by rw [HT.out]; rfl, rfl⟩
    · have HF := Lib.hid (show Wire.target l = false by rw [HF0.out, decide_eq_false h47]; simp)
      clear HF0
      have hb : (x != 47) = true := by simpa using h47
      clear h47 hx
      go_enter Tryd.func39, Tryd.ntmps39
      go_wp2
      go_ret
      exact ⟨by rw [HF.out]; rfl, rfl⟩
end Go.Proofs.YtibegbmehpggbaaDoor
