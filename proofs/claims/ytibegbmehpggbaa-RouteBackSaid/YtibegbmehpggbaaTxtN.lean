/-
  Texts: names, the program's.
-/
import Derived.Test.YtibegbmehpggbaaTxtF
namespace Go.Proofs.Ytibegbmehpggbaa
open Go.RowKit Go.Canon Go.Mem
set_option linter.unusedVariables false
set_option linter.unusedSimpArgs false
theorem str_nil {l : List Int} (h : l ≠ []) : ((str l).toList == []) = false := by
  rw [beq_eq_false_iff_ne, ByteArray.toList_eq, str_toList]
  simpa using h
set_option maxHeartbeats 1600000 in
set_option maxRecDepth 100000 in
theorem name_c (l : List Int) (hB : IsB l) (hl : l.length ≤ 1000000) (w : World) : Calls Try.prog 58 #[.string (str l)] w (Rets (Only (.bool (nameF l)) w)) := by
  have hs := str_size l
  have HX := Lib.hid (fun (k : Nat) (h : k < l.length) (w : World) => index_str hB h w)
  by_cases hn : l = []
  · subst hn
    have hE : ((str []).toList == []) = true := by rw [ByteArray.toList_eq]; rfl
    generalize str [] = s at *
    go_enter Try.func58, Try.ntmps58
    go_wp2
    go_ret
    exact ⟨rfl, rfl⟩
  · have hE := str_nil hn
    have hp : 0 < l.length := by cases l with | nil => exact (hn rfl).elim | cons => simp
    have h0 : (Instr.index 9 (.string (str l)) (.int .i64 0)).run Try.prog w = .ok (.int .u8 l[0]) w := HX.out 0 hp w
    have HF := Lib.hid (show nameF l = (decide (l.length ≤ 16) && l.all nameC && lowC l[0]) by
      unfold nameF
      cases l with
      | nil => exact (hn rfl).elim
      | cons x r => simp)
    generalize str l = s at *
    by_cases h16 : l.length ≤ 16
    · generalize hx : l[0] = x at *
      by_cases hlow : 97 ≤ x ∧ x ≤ 122
      · have HF := Lib.hid (show nameF l = l.all nameC by rw [HF.out, show lowC x = true by simp [lowC, hlow]]; simp [h16])
        obtain ⟨x1, x2⟩ := hlow
        clear hx
        go_enter Try.func58, Try.ntmps58
        go_wp2
        go_loopw [3, 4, 24] (fun q0 q1 i wr => ∃ k : Nat, k ≤ l.length ∧ i = .int .i64 k ∧ wr = w ∧ Hid ((l.take k).all nameC = true)) (fun _ _ i _ => l.length - (intOf i).toNat)
        case atStart => exact ⟨0, by omega, rfl, rfl, Lib.hid rfl⟩
        case round =>
          obtain ⟨k, hk, rfl, hw, HT⟩ := hrel
          subst wr
          by_cases hlt : k < l.length
          · have hx := HX.out k hlt w
            have HC := Lib.hid (show (l.take (k + 1)).all nameC = nameC l[k] by rw [List.take_add_one, List.getElem?_eq_getElem hlt, List.all_append, HT.out]; simp)
            have HN := Lib.hid (fun h : nameC l[k] = false => show l.all nameC = false from List.all_eq_false.2 ⟨l[k], List.getElem_mem _, by simp [h]⟩)
            generalize l[k] = c at *
            have HD := Lib.hid (show nameC c = (decide (97 ≤ c ∧ c ≤ 122) || decide (48 ≤ c ∧ c ≤ 57) || decide (c = 45)) from rfl)
            by_cases c1 : c < 97
            · by_cases c2 : c < 48
              · by_cases c3 : c = 45
                · subst c3
                  have HC := Lib.hid (show (l.take (k + 1)).all nameC = true by rw [HC.out, HD.out]; simp <;> omega)
                  go_wp2
                  go_roundw
                  case rel => exact ⟨k + 1, by omega, by go_num, by trivial, HC⟩
                  case measure => simp [intOf]; omega
                · have hb : (c != 45) = true := by simpa using c3
                  have c4 := Lib.hid c3
                  clear c3
                  have HG := Lib.hid (show nameF l = false by rw [HF.out]; apply HN.out; rw [HD.out]; have := c4.out; simp <;> omega)
                  go_wp2
                  go_ret
                  exact ⟨by rw [HG.out]; rfl, rfl⟩
              · by_cases c3 : 57 < c
                · have hb : (c != 45) = true := by rw [bne_iff_ne]; omega
                  have c4 := Lib.hid (show c ≠ 45 by omega)
                  have HG := Lib.hid (show nameF l = false by rw [HF.out]; apply HN.out; rw [HD.out]; have := c4.out; simp <;> omega)
                  go_wp2
                  go_ret
                  exact ⟨by rw [HG.out]; rfl, rfl⟩
                · have HC := Lib.hid (show (l.take (k + 1)).all nameC = true by rw [HC.out, HD.out]; simp <;> omega)
                  go_wp2
                  go_roundw
                  case rel => exact ⟨k + 1, by omega, by go_num, by trivial, HC⟩
                  case measure => simp [intOf]; omega
            · by_cases c2 : 122 < c
              · have c3 : ¬ c < 48 := by omega
                have c5 : 57 < c := by omega
                have hb : (c != 45) = true := by rw [bne_iff_ne]; omega
                have c4 := Lib.hid (show c ≠ 45 by omega)
                have HG := Lib.hid (show nameF l = false by rw [HF.out]; apply HN.out; rw [HD.out]; have := c4.out; simp <;> omega)
                go_wp2
                go_ret
                exact ⟨by rw [HG.out]; rfl, rfl⟩
              · have HC := Lib.hid (show (l.take (k + 1)).all nameC = true by rw [HC.out, HD.out]; simp <;> omega)
                go_wp2
                go_roundw
                case rel => exact ⟨k + 1, by omega, by go_num, by trivial, HC⟩
                case measure => simp [intOf]; omega
          · obtain rfl : k = l.length := by omega
            have HT := Lib.hid (show nameF l = true by rw [HF.out]; have := HT.out; rwa [List.take_length] at this)
            go_wp2
            go_ret
            exact ⟨by rw [HT.out]; rfl, rfl⟩
      · have HF := Lib.hid (show nameF l = false by rw [HF.out, show lowC x = false by simp [lowC]; omega]; simp)
        by_cases h97 : x < 97
        · clear hlow
          go_enter Try.func58, Try.ntmps58
          go_wp2
          go_ret
          exact ⟨by rw [HF.out]; rfl, rfl⟩
        · have h122 : 122 < x := by omega
          clear hlow
          go_enter Try.func58, Try.ntmps58
          go_wp2
          go_ret
          exact ⟨by rw [HF.out]; rfl, rfl⟩
    · have HF := Lib.hid (show nameF l = false by rw [HF.out]; simp [h16])
      go_enter Try.func58, Try.ntmps58
      go_wp2
      go_ret
      exact ⟨by rw [HF.out]; rfl, rfl⟩
end Go.Proofs.Ytibegbmehpggbaa
