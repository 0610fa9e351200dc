/-
  The walks of named, Key, Var.
-/
import Derived.Test.YtbiohidelhfaiaaStQ
import Derived.Test.YtbiohidelhfaiaaStr
import Derived.Test.YtbiohidelhfaiaaSet
import Derived.Test.YtbiohidelhfaiaaMem3
namespace Go.Proofs.Ytbiohidelhfaiaa
open Go.RowKit Go.Canon Go.Mem
set_option linter.unusedVariables false
set_option linter.unusedSimpArgs false
theorem str_ne {l : List Int} (h : l ≠ []) : ((str l).toList == []) = false := by
    rw [ByteArray.toList_eq, beq_eq_false_iff_ne]
    intro e
    apply h
    have := congrArg List.length e
    have hs := str_size l
    have h3 : (str l).data.toList.length = (str l).size := rfl
    rw [h3, hs] at this
    exact List.eq_nil_of_length_eq_zero this
theorem str_ne0 : ((str []).toList == []) = true := by rw [ByteArray.toList_eq]; rfl
set_option maxHeartbeats 1600000 in
set_option maxRecDepth 100000 in
theorem named_c (k : List Int) (hB : IsB k) (hl : k.length ≤ 1000000) (w : World) : Calls Try.prog 48 #[.string (str k)] w (Rets (Only (.bool (Sto.keyF k)) w)) := by
  have hs := str_size k
  have HX := Lib.hid (fun (j : Nat) (h : j < k.length) (w : World) => index_str hB h w)
  have HN := Lib.hid (fun h : k ≠ [] => str_ne h)
  have HN0 := Lib.hid (fun h : k = [] => (by rw [h]; exact str_ne0 : ((str k).toList == []) = true))
  generalize str k = s at *
  go_enter Try.func48, Try.ntmps48
  go_wp2
  go_loopw [3, 6] (fun q i wr => ∃ j : Nat, j ≤ k.length ∧ i = .int .i64 j ∧ wr = w ∧ Hid ((k.take j).all Sto.keyC = true)) (fun _ i _ => k.length - (intOf i).toNat)
  case atStart => exact ⟨0, Nat.zero_le _, rfl, rfl, Lib.hid rfl⟩
  case round =>
    obtain ⟨j, hj, rfl, hw, HT⟩ := hrel
    subst wr
    by_cases hlt : j < k.length
    · have hx := HX.out j hlt w
      have HC := Lib.hid (show (k.take (j + 1)).all Sto.keyC = Sto.keyC k[j] by rw [List.take_add_one, List.getElem?_eq_getElem hlt, List.all_append, HT.out]; simp)
      have HF := Lib.hid (fun h : Sto.keyC k[j] = false => (by unfold Sto.keyF; rw [List.all_eq_false.2 ⟨k[j], List.getElem_mem _, by simp [h]⟩]; rfl : Sto.keyF k = false))
      generalize k[j] = c at *
      by_cases c1 : c < 33
      · have HG := Lib.hid (HF.out (decide_eq_false (by omega)))
        go_wp2
        go_ret
        exact ⟨by rw [HG.out]; first | rfl | (show Value.bool (decide ((k.length : Int) ≤ 40)) = _; first | rw [decide_eq_true (by omega)] | rw [decide_eq_false (by omega)]), rfl⟩
      · by_cases c2 : 126 < c
        · have HG := Lib.hid (HF.out (decide_eq_false (by omega)))
          go_wp2
          go_ret
          exact ⟨by rw [HG.out]; first | rfl | (show Value.bool (decide ((k.length : Int) ≤ 40)) = _; first | rw [decide_eq_true (by omega)] | rw [decide_eq_false (by omega)]), rfl⟩
        · have HT2 := Lib.hid (show (k.take (j + 1)).all Sto.keyC = true by rw [HC.out]; exact decide_eq_true (by omega))
          go_wp2
          go_roundw
          case rel => exact ⟨j + 1, by omega, by go_num, by trivial, HT2⟩
          case measure => simp [intOf]; omega
    · obtain rfl : j = k.length := by omega
      have HA := Lib.hid (show k.all Sto.keyC = true by have := HT.out; rwa [List.take_length] at this)
      by_cases h0 : k = []
      · have hn := HN0.out h0
        have HG := Lib.hid (show Sto.keyF k = false by rw [h0]; rfl)
        clear h0
        go_wp2
        go_ret
        exact ⟨by rw [HG.out]; first | rfl | (show Value.bool (decide ((k.length : Int) ≤ 40)) = _; first | rw [decide_eq_true (by omega)] | rw [decide_eq_false (by omega)]), rfl⟩
      · have hn := HN.out h0
        have hp : 0 < k.length := List.length_pos_iff.2 h0
        by_cases h40 : k.length ≤ 40
        · have HG := Lib.hid (show Sto.keyF k = true by unfold Sto.keyF; rw [HA.out, decide_eq_true (by omega)]; rfl)
          clear h0
          go_wp2
          go_ret
          exact ⟨by rw [HG.out]; first | rfl | (show Value.bool (decide ((k.length : Int) ≤ 40)) = _; first | rw [decide_eq_true (by omega)] | rw [decide_eq_false (by omega)]), rfl⟩
        · have HG := Lib.hid (show Sto.keyF k = false by unfold Sto.keyF; rw [decide_eq_false (by omega)]; simp)
          clear h0
          go_wp2
          go_ret
          exact ⟨by rw [HG.out]; first | rfl | (show Value.bool (decide ((k.length : Int) ≤ 40)) = _; first | rw [decide_eq_true (by omega)] | rw [decide_eq_false (by omega)]), rfl⟩
set_option maxHeartbeats 1600000 in
set_option maxRecDepth 100000 in
theorem rkey_c (k : List Int) (hB : IsB k) (hl : k.length ≤ 1000000) (w : World) : Calls Try.prog 49 #[.string (str k)] w (Rets (Only (.bool (Sto.keyF k)) w)) := by
  have hs := str_size k
  have HX := Lib.hid (fun (j : Nat) (h : j < k.length) (w : World) => index_str hB h w)
  generalize str k = s at *
  go_enter Try.func49, Try.ntmps49
  go_wp2
  go_loopw [3] (fun i wr => ∃ j : Nat, j ≤ k.length ∧ i = .int .i64 j ∧ wr = w ∧ Hid ((k.take j).all Sto.keyC = true)) (fun i _ => k.length - (intOf i).toNat)
  case atStart => exact ⟨0, Nat.zero_le _, rfl, rfl, Lib.hid rfl⟩
  case round =>
    obtain ⟨j, hj, rfl, hw, HT⟩ := hrel
    subst wr
    by_cases hlt : j < k.length
    · have hx := HX.out j hlt w
      have HC := Lib.hid (show (k.take (j + 1)).all Sto.keyC = Sto.keyC k[j] by rw [List.take_add_one, List.getElem?_eq_getElem hlt, List.all_append, HT.out]; simp)
      have HF := Lib.hid (fun h : Sto.keyC k[j] = false => (by unfold Sto.keyF; rw [List.all_eq_false.2 ⟨k[j], List.getElem_mem _, by simp [h]⟩]; rfl : Sto.keyF k = false))
      generalize k[j] = c at *
      by_cases c1 : c ≤ 32
      · have HG := Lib.hid (HF.out (decide_eq_false (by omega)))
        go_wp2
        go_ret
        exact ⟨by rw [HG.out]; first | rfl | (show Value.bool (decide ((k.length : Int) ≤ 40)) = _; first | rw [decide_eq_true (by omega)] | rw [decide_eq_false (by omega)]), rfl⟩
      · by_cases c2 : 127 ≤ c
        · have HG := Lib.hid (HF.out (decide_eq_false (by omega)))
          go_wp2
          go_ret
          exact ⟨by rw [HG.out]; first | rfl | (show Value.bool (decide ((k.length : Int) ≤ 40)) = _; first | rw [decide_eq_true (by omega)] | rw [decide_eq_false (by omega)]), rfl⟩
        · have HT2 := Lib.hid (show (k.take (j + 1)).all Sto.keyC = true by rw [HC.out]; exact decide_eq_true (by omega))
          go_wp2
          go_roundw
          case rel => exact ⟨j + 1, by omega, by go_num, by trivial, HT2⟩
          case measure => simp [intOf]; omega
    · obtain rfl : j = k.length := by omega
      have HA := Lib.hid (show k.all Sto.keyC = true by have := HT.out; rwa [List.take_length] at this)
      by_cases hp : 1 ≤ k.length
      · by_cases h40 : k.length ≤ 40
        · have HG := Lib.hid (show Sto.keyF k = true by unfold Sto.keyF; rw [HA.out, decide_eq_true (by omega)]; rfl)
          go_wp2
          go_ret
          exact ⟨by rw [HG.out]; first | rfl | (show Value.bool (decide ((k.length : Int) ≤ 40)) = _; first | rw [decide_eq_true (by omega)] | rw [decide_eq_false (by omega)]), rfl⟩
        · have HG := Lib.hid (show Sto.keyF k = false by unfold Sto.keyF; rw [decide_eq_false (by omega)]; simp)
          go_wp2
          go_ret
          exact ⟨by rw [HG.out]; first | rfl | (show Value.bool (decide ((k.length : Int) ≤ 40)) = _; first | rw [decide_eq_true (by omega)] | rw [decide_eq_false (by omega)]), rfl⟩
      · have HG := Lib.hid (show Sto.keyF k = false by unfold Sto.keyF; rw [decide_eq_false (by omega)]; simp)
        go_wp2
        go_ret
        exact ⟨by rw [HG.out]; first | rfl | (show Value.bool (decide ((k.length : Int) ≤ 40)) = _; first | rw [decide_eq_true (by omega)] | rw [decide_eq_false (by omega)]), rfl⟩
end Go.Proofs.Ytbiohidelhfaiaa
