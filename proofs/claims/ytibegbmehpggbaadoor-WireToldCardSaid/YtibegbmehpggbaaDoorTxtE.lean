/-
  Texts: a number in digits, the program's.
-/
import Derived.Test.YtibegbmehpggbaaDoorTxtD
import Derived.Test.YtibegbmehpggbaaDoorSet
namespace Go.Proofs.YtibegbmehpggbaaDoor
open Go.RowKit Go.Canon Go.Mem
set_option linter.unusedVariables false
set_option linter.unusedSimpArgs false
def digZ (v : Int) : List Int := if v = 0 then [] else digF 30 v
theorem digZ_step {v : Int} (h : 0 < v) (h1 : v ≤ 9223372036854775808) : digZ v = digZ (v / 10) ++ [48 + v % 10] := by
  unfold digZ
  rw [if_neg (by omega)]
  by_cases h2 : v < 10
  · rw [if_pos (by omega), digF, if_pos h2, show v % 10 = v by omega]; rfl
  · rw [if_neg (by omega), dig_step (by omega) (by rw [p29]; omega)]
theorem info_byte4 : (Tryd.prog.info? 5).map (·.size) = some 1 := by kernel_rfl
/-- Turned round from both ends, k steps in. -/
def RevTo (X : List Int) (k : Nat) (ys : List Int) : Prop := ys.length = X.length ∧ ∀ p, p < X.length → ys[p]? = if k ≤ p ∧ p + k < X.length then X[p]? else X[X.length - 1 - p]?
theorem RevTo.start (X : List Int) : RevTo X 0 X := ⟨rfl, fun p hp => by rw [if_pos ⟨by omega, by omega⟩]⟩
theorem RevTo.step {X ys : List Int} {k j : Nat} (h : RevTo X k ys) (hkj : k < j) (hj : k + j + 1 = X.length) : RevTo X (k + 1) ((ys.set k (ys[j]'(by have := h.1; omega))).set j (ys[k]'(by have := h.1; omega))) := by
  obtain ⟨hl, hp⟩ := h
  refine ⟨by simp [hl], fun p hp' => ?_⟩
  have ek : ys[k]? = X[k]? := by rw [hp k (by omega), if_pos ⟨by omega, by omega⟩]
  have ej : ys[j]? = X[j]? := by rw [hp j (by omega), if_pos ⟨by omega, by omega⟩]
  rw [List.getElem?_set]
  by_cases h1 : j = p
  · subst h1
    rw [if_pos rfl, if_pos (by simp; omega), if_neg (by omega), show X.length - 1 - j = k by omega, ← ek, List.getElem?_eq_getElem]
  · rw [if_neg h1, List.getElem?_set]
    by_cases h2 : k = p
    · subst h2
      rw [if_pos rfl, if_pos (by omega), if_neg (by omega), show X.length - 1 - k = j by omega, ← ej, List.getElem?_eq_getElem]
    · rw [if_neg h2, hp p hp']
      by_cases h3 : k + 1 ≤ p ∧ p + (k + 1) < X.length
      · rw [if_pos h3, if_pos ⟨by omega, by omega⟩]
      · rw [if_neg h3, if_neg (by omega)]
theorem RevTo.done {X ys : List Int} {k : Nat} (h : RevTo X k ys) (hk : X.length ≤ 2 * k + 1) : ys = X.reverse := by
  obtain ⟨hl, hp⟩ := h
  apply List.ext_getElem?
  intro p
  by_cases hp' : p < X.length
  · rw [hp p hp', List.getElem?_reverse hp']
    split
    · rw [show X.length - 1 - p = p by omega]
    · rfl
  · rw [List.getElem?_eq_none (by omega), List.getElem?_eq_none (by simp; omega)]
set_option maxHeartbeats 1600000 in
set_option maxRecDepth 100000 in
theorem dec_c (n : Int) (h1 : -9223372036854775808 ≤ n) (h2 : n ≤ 9223372036854775807) (w : World) : Calls Tryd.prog 18 #[.int .i64 n] w (Rets (fun v w' => v = .string (str (decF n)) ∧ Keeps (fun _ => False) w w')) := by
  by_cases h0 : n = 0
  · subst h0
    go_enter Tryd.func18, Tryd.ntmps18
    go_wp2
    go_ret
    exact ⟨rfl, Keeps.refl _ _⟩
  · have hb0 : (n == 0) = false := by simpa using h0
    by_cases hn : n < 0
    · obtain ⟨m, rfl⟩ : ∃ m : Int, n = -m := ⟨-n, by omega⟩
      have m1 : 0 < m := by omega
      obtain ⟨w1, hw1⟩ : ∃ w1, w1 = w.alloc (.cells #[] 5) := ⟨_, rfl⟩
      have hk1 : Keeps (fun _ => False) w w1 := by rw [hw1]; exact (Keeps.refl _ w).alloc _
      have hb1 : w1.heap[w.heap.size]? = some (.cells #[] 5 (0, 0)) := by rw [hw1]; exact heap_alloc_new w _
      have hO1 : OwnRow w1 (fun k => w.heap.size ≤ k) 5 1 (.slice (some ⟨w.heap.size, 0, none⟩) 0 0) 0 [] := ⟨⟨rfl, .inr ⟨w.heap.size, 0, #[], rfl, Nat.zero_le _, hb1, Nat.le_refl _, by unfold maxLen; omega, rfl, rfl⟩⟩, fun k hk => by simp only [Value.ownBlock, Option.some.injEq] at hk; omega⟩
      have HO1 := Lib.hid hO1
      have HK1 := Lib.hid hk1
      have HW1 := Lib.hid hw1
      clear hO1 hk1 hb1 hw1
      go_enter Tryd.func18, Tryd.ntmps18
      go_wp2
      rw [← HW1.out]
      go_loopw [3, 4] (fun u b wr => ∃ (v : Int) (xs : List Int), 0 ≤ v ∧ v ≤ 9223372036854775808 ∧ u = .int .u64 v ∧ xs.length ≤ 30 ∧ Hid (digZ v ++ xs.reverse = digF 30 m) ∧ OwnRow wr (fun k => w.heap.size ≤ k) 5 1 b xs.length (Disk.bytes8 xs) ∧ Keeps (fun _ => False) w wr) (fun u _ _ => (intOf u).toNat)
      case atStart => exact ⟨m, [], by omega, by omega, by first | rfl | (congr 1; simp only [IntKind.wrap_u64]; omega), by simp, Lib.hid (by rw [digZ, if_neg (by omega)]; simp), HO1.out, HK1.out⟩
      case round =>
        obtain ⟨v, xs, v0, v1, rfl, hxl, HD, hO, hK⟩ := hrel
        have HO := Lib.hid hO
        have HK := Lib.hid hK
        obtain ⟨A, c, rfl, _⟩ := hO.slice
        clear hO hK
        by_cases hv : 0 < v
        · obtain ⟨d, hd⟩ : ∃ d : Int, v % 10 = d := ⟨_, rfl⟩
          have d1 : 0 ≤ d ∧ d < 10 := by omega
          have e1 : v.tmod 10 = d := by rw [Int.tmod_eq_emod_of_nonneg v0, hd]
          have e2 : v.tdiv 10 = v / 10 := Int.tdiv_eq_ediv_of_nonneg v0
          have HS := Lib.hid (show digZ (v / 10) ++ (xs ++ [48 + d]).reverse = digF 30 m by rw [List.reverse_append, ← HD.out, digZ_step hv v1, hd]; simp)
          have HL := Lib.hid (show xs.length < 30 by have h := congrArg List.length HD.out; have h2 := digF_len 30 m; rw [digZ_step hv v1] at h; simp at h; omega)
          have q1 : 0 ≤ v / 10 ∧ v / 10 < v := by omega
          have q2 : (v / 10).toNat < v.toNat := by omega
          generalize v / 10 = q at *
          clear hd
          go_wp2_with (first
            | ((with_reducible refine at_ 25 rfl ?_); go_must (refine step_lit rfl 22 _ 1 rfl [.int .u8 (48 + d)] rfl rfl (by decide) 5 _ 1 Tryd.underlying22 row2_byte (by decide) (by decide) (by intro v hv; rw [List.mem_singleton] at hv; subst hv; rfl) ?_); intro w2 hb2 hk2 hs2)
            | ((with_reducible refine at_ 26 rfl ?_); go_must (refine step_append_rd (ok2 := fun q => wr.heap.size ≤ q) rfl _ _ _ rfl 5 _ 1 1 Tryd.underlying22 row_byte rfl (by decide) (.slice A xs.length _) xs.length (Disk.bytes8 xs) rfl (HO.out.kept hk2 (fun _ _ h => h)) _ 1 [.int .u8 (48 + d)] rfl (lit_rd rfl hb2 (Nat.le_refl _)) rfl (by intro y hy; rw [List.mem_singleton] at hy; subst hy; rfl) (by simp only [maxLen]; omega) (by omega) ?_); intro w3 w4 hO4 hk4))
          go_roundw
          case rel => exact ⟨q, xs ++ [48 + d], by omega, by omega, by go_num, by have := HL.out; simp; omega, HS, by rw [List.length_append, Disk.bytes8_append]; exact hO4.mono (fun q hq h => by rcases h with h | h; exact h; have := HK.out.size; have := hk2.size; omega), (HK.out.trans hk2 (fun _ _ h => h)).trans hk4 (fun q hq h => by have := HO.out.2 q h; omega)⟩
          case measure => simp [intOf]; omega
        · obtain rfl : v = 0 := by omega
          have HD := Lib.hid (show (xs ++ [45]).reverse = decF (-m) by rw [List.reverse_append]; unfold decF; rw [if_pos (by omega), Int.neg_neg, ← HD.out]; rfl)
          go_wp2_with (first
            | ((with_reducible refine at_ 30 rfl ?_); go_must (refine step_lit rfl 22 _ 1 rfl [.int .u8 45] rfl rfl (by decide) 5 _ 1 Tryd.underlying22 row2_byte (by decide) (by decide) (by intro v hv; rw [List.mem_singleton] at hv; subst hv; rfl) ?_); intro w2 hb2 hk2 hs2)
            | ((with_reducible refine at_ 31 rfl ?_); go_must (refine step_append_rd (ok2 := fun q => wr.heap.size ≤ q) rfl _ _ _ rfl 5 _ 1 1 Tryd.underlying22 row_byte rfl (by decide) (.slice A xs.length _) xs.length (Disk.bytes8 xs) rfl (HO.out.kept hk2 (fun _ _ h => h)) _ 1 [.int .u8 45] rfl (lit_rd rfl hb2 (Nat.le_refl _)) rfl (by intro y hy; rw [List.mem_singleton] at hy; subst hy; rfl) (by simp only [maxLen]; omega) (by omega) ?_); intro v3 w4 hO4 hk4; obtain ⟨A4, c4, rfl, _⟩ := hO4.slice))
          have HO4 := Lib.hid (show OwnRow w4 (fun k => w.heap.size ≤ k) 5 1 (.slice A4 (xs ++ [45]).length c4) (xs ++ [45]).length (Disk.bytes8 (xs ++ [45])) by rw [List.length_append, Disk.bytes8_append]; exact hO4.mono (fun q hq h => by rcases h with h | h; exact h; have := HK.out.size; have := hk2.size; omega))
          have HK := Lib.hid ((HK.out.trans hk2 (fun _ _ h => h)).trans hk4 (fun q hq h => by have := HO.out.2 q h; omega))
          have HB := Lib.hid (show IsB (xs ++ [45]).reverse by rw [HD.out]; exact dec_byte _)
          have hxl1 := hxl
          have hxl : (xs ++ [45]).length ≤ 31 := by simp; omega
          have hxp : 0 < (xs ++ [45]).length := by simp
          clear hO4 hk4 hk2 hb2 HO
          have HO := HO4
          clear HO4
          have hXl : (xs ++ [45]).length = xs.length + 1 := by simp
          generalize xs ++ [45] = X at *
          rw [← hXl]
          have HXl := Lib.hid hXl
          clear hXl
          go_loopw [5, 6] (fun i j w5 => ∃ (k : Nat) (ys : List Int), i = .int .i64 k ∧ j = .int .i64 ((X.length : Int) - 1 - k) ∧ 2 * k ≤ X.length + 1 ∧ Hid (RevTo X k ys) ∧ ys.length = X.length ∧ OwnRow w5 (fun k => w.heap.size ≤ k) 5 1 (.slice A4 X.length c4) X.length (Disk.bytes8 ys) ∧ Keeps (fun _ => False) w w5) (fun i _ _ => X.length - (intOf i).toNat)
          case atStart => exact ⟨0, X, rfl, by have hh := HXl.out; go_num, by omega, Lib.hid (RevTo.start X), rfl, HO.out, HK.out⟩
          case round =>
            obtain ⟨k, ys, rfl, rfl, hk2, HV, hyl, hO, hK⟩ := hrel
            have HO := Lib.hid hO
            have HK := Lib.hid hK
            by_cases hlt : 2 * k + 1 < X.length
            · obtain ⟨j, hj⟩ : ∃ j : Nat, (X.length : Int) - 1 - k = (j : Int) := ⟨X.length - 1 - k, by omega⟩
              rw [hj]
              have hkj : k < j := by omega
              have hj2 : j < X.length := by omega
              have hk3 : k < ys.length := by omega
              have hj3 : j < ys.length := by omega
              have HS := Lib.hid (HV.out.step hkj (by omega))
              obtain ⟨g, cap, cur, e1, hok, _⟩ := hO.form hxp
              cases e1
              have ck : wr.cell? ⟨g, k, none⟩ = some (.int .u8 ys[k]) := HO.out.cells rfl k _ (by simp [Disk.bytes8, hk3])
              have cj : wr.cell? ⟨g, j, none⟩ = some (.int .u8 ys[j]) := HO.out.cells rfl j _ (by simp [Disk.bytes8, hj3])
              clear hO hK
              have hjj : (X.length : Int) - 1 - ((k : Int) + 1) = (j : Int) - 1 := by omega
              go_wp2
              refine Canon.row [0, 1, 2, 3, 4, 5, 6, 8, 9, 10, 7, 11, 12, 13, 14, 15] (by kernel_rfl) (by kernel_rfl) (by repeat (first | (with_reducible exact Safe.body) | (with_reducible apply Safe.then) | (with_reducible apply Safe.inBlock) | (dsimp +zetaDelta only))) ?_
              simp only [Canon.pick, Canon.wpPlan, List.getElem?_toArray, List.getElem?_cons_zero, List.getElem?_cons_succ]
              have HOd := Lib.hid (HO.out.kept ((Keeps.refl (fun _ => False) wr).drew) (fun _ _ h => h))
              have HKd := Lib.hid (HK.out.trans ((Keeps.refl (fun _ => False) wr).drew) (fun _ _ h => h))
              go_wp2_with (first
                | ((with_reducible refine at_store 5 (.tmp 54) (.tmp 49) rfl ?_); go_must (refine step_set rfl _ _ _ rfl 5 g k X.length _ (.int .u8 ys[j]) _ rfl rfl rfl HOd.out (by omega) info_byte4 ?_); intro w6 hO6 hk6 hs6)
                | ((with_reducible refine at_store 5 (.tmp 55) (.tmp 53) rfl ?_); go_must (refine step_set rfl _ _ _ rfl 5 g j X.length _ (.int .u8 ys[k]) _ rfl rfl rfl hO6 hj2 info_byte4 ?_); intro w7 hO7 hk7 hs7))
              refine ⟨by rfl, trivial, ?_⟩
              go_wp2
              go_roundw
              case rel => exact ⟨k + 1, _, by go_num, by go_num, by omega, HS, by simp; omega, by have := hO7; simpa [Disk.bytes8, List.map_set] using this, (HKd.out.trans hk6 (fun k hk h => by subst h; omega)).trans hk7 (fun k hk h => by subst h; omega)⟩
              case measure => simp [intOf]; omega
            · have HV := Lib.hid (HV.out.done (by omega))
              have HBy := Lib.hid (show IsB ys by rw [HV.out]; exact HB.out)
              have HRy := Lib.hid (show Rd wr (fun k => w.heap.size ≤ k) (.slice A4 X.length c4) ys.length (Disk.bytes8 ys) by rw [hyl]; exact HO.out.rd)
              go_wp2_with ((with_reducible refine at_ 57 rfl ?_); go_must (refine step_bytes_str rfl _ _ _ rfl 5 Tryd.underlying22 Tryd.underlying5 Tryd.underlying9 _ ys rfl HRy.out HBy.out ?_))
              go_ret
              exact ⟨by rw [HV.out, HD.out] <;> rfl, HK.out⟩
    · have m1 : 0 < n := by omega
      generalize n = m at *
      obtain ⟨w1, hw1⟩ : ∃ w1, w1 = w.alloc (.cells #[] 5) := ⟨_, rfl⟩
      have hk1 : Keeps (fun _ => False) w w1 := by rw [hw1]; exact (Keeps.refl _ w).alloc _
      have hb1 : w1.heap[w.heap.size]? = some (.cells #[] 5 (0, 0)) := by rw [hw1]; exact heap_alloc_new w _
      have hO1 : OwnRow w1 (fun k => w.heap.size ≤ k) 5 1 (.slice (some ⟨w.heap.size, 0, none⟩) 0 0) 0 [] := ⟨⟨rfl, .inr ⟨w.heap.size, 0, #[], rfl, Nat.zero_le _, hb1, Nat.le_refl _, by unfold maxLen; omega, rfl, rfl⟩⟩, fun k hk => by simp only [Value.ownBlock, Option.some.injEq] at hk; omega⟩
      have HO1 := Lib.hid hO1
      have HK1 := Lib.hid hk1
      have HW1 := Lib.hid hw1
      clear hO1 hk1 hb1 hw1
      go_enter Tryd.func18, Tryd.ntmps18
      go_wp2
      rw [← HW1.out]
      go_loopw [3, 4] (fun u b wr => ∃ (v : Int) (xs : List Int), 0 ≤ v ∧ v ≤ 9223372036854775808 ∧ u = .int .u64 v ∧ xs.length ≤ 30 ∧ Hid (digZ v ++ xs.reverse = digF 30 m) ∧ OwnRow wr (fun k => w.heap.size ≤ k) 5 1 b xs.length (Disk.bytes8 xs) ∧ Keeps (fun _ => False) w wr) (fun u _ _ => (intOf u).toNat)
      case atStart => exact ⟨m, [], by omega, by omega, by first | rfl | (congr 1; simp only [IntKind.wrap_u64]; omega), by simp, Lib.hid (by rw [digZ, if_neg (by omega)]; simp), HO1.out, HK1.out⟩
      case round =>
        obtain ⟨v, xs, v0, v1, rfl, hxl, HD, hO, hK⟩ := hrel
        have HO := Lib.hid hO
        have HK := Lib.hid hK
        obtain ⟨A, c, rfl, _⟩ := hO.slice
        clear hO hK
        by_cases hv : 0 < v
        · obtain ⟨d, hd⟩ : ∃ d : Int, v % 10 = d := ⟨_, rfl⟩
          have d1 : 0 ≤ d ∧ d < 10 := by omega
          have e1 : v.tmod 10 = d := by rw [Int.tmod_eq_emod_of_nonneg v0, hd]
          have e2 : v.tdiv 10 = v / 10 := Int.tdiv_eq_ediv_of_nonneg v0
          have HS := Lib.hid (show digZ (v / 10) ++ (xs ++ [48 + d]).reverse = digF 30 m by rw [List.reverse_append, ← HD.out, digZ_step hv v1, hd]; simp)
          have HL := Lib.hid (show xs.length < 30 by have h := congrArg List.length HD.out; have h2 := digF_len 30 m; rw [digZ_step hv v1] at h; simp at h; omega)
          have q1 : 0 ≤ v / 10 ∧ v / 10 < v := by omega
          have q2 : (v / 10).toNat < v.toNat := by omega
          generalize v / 10 = q at *
          clear hd
          go_wp2_with (first
            | ((with_reducible refine at_ 25 rfl ?_); go_must (refine step_lit rfl 22 _ 1 rfl [.int .u8 (48 + d)] rfl rfl (by decide) 5 _ 1 Tryd.underlying22 row2_byte (by decide) (by decide) (by intro v hv; rw [List.mem_singleton] at hv; subst hv; rfl) ?_); intro w2 hb2 hk2 hs2)
            | ((with_reducible refine at_ 26 rfl ?_); go_must (refine step_append_rd (ok2 := fun q => wr.heap.size ≤ q) rfl _ _ _ rfl 5 _ 1 1 Tryd.underlying22 row_byte rfl (by decide) (.slice A xs.length _) xs.length (Disk.bytes8 xs) rfl (HO.out.kept hk2 (fun _ _ h => h)) _ 1 [.int .u8 (48 + d)] rfl (lit_rd rfl hb2 (Nat.le_refl _)) rfl (by intro y hy; rw [List.mem_singleton] at hy; subst hy; rfl) (by simp only [maxLen]; omega) (by omega) ?_); intro w3 w4 hO4 hk4))
          go_roundw
          case rel => exact ⟨q, xs ++ [48 + d], by omega, by omega, by go_num, by have := HL.out; simp; omega, HS, by rw [List.length_append, Disk.bytes8_append]; exact hO4.mono (fun q hq h => by rcases h with h | h; exact h; have := HK.out.size; have := hk2.size; omega), (HK.out.trans hk2 (fun _ _ h => h)).trans hk4 (fun q hq h => by have := HO.out.2 q h; omega)⟩
          case measure => simp [intOf]; omega
        · obtain rfl : v = 0 := by omega
          have HD := Lib.hid (show xs.reverse = decF m by unfold decF; rw [if_neg (by omega), ← HD.out]; rfl)
          have hxp : 0 < xs.length := by cases xs with | nil => (have h := (dec_ok (n := m) (by omega) h2).1; rw [← HD.out] at h; cases h) | cons => simp
          have HB := Lib.hid (show IsB xs.reverse by rw [HD.out]; exact dec_byte _)
          have hxl : xs.length ≤ 31 := by omega
          generalize xs = X at *
          have HXl := Lib.hid (rfl : X = X)
          go_wp2
          go_loopw [5, 6] (fun i j w5 => ∃ (k : Nat) (ys : List Int), i = .int .i64 k ∧ j = .int .i64 ((X.length : Int) - 1 - k) ∧ 2 * k ≤ X.length + 1 ∧ Hid (RevTo X k ys) ∧ ys.length = X.length ∧ OwnRow w5 (fun k => w.heap.size ≤ k) 5 1 (.slice A X.length c) X.length (Disk.bytes8 ys) ∧ Keeps (fun _ => False) w w5) (fun i _ _ => X.length - (intOf i).toNat)
          case atStart => exact ⟨0, X, rfl, by have hh := HXl.out; go_num, by omega, Lib.hid (RevTo.start X), rfl, HO.out, HK.out⟩
          case round =>
            obtain ⟨k, ys, rfl, rfl, hk2, HV, hyl, hO, hK⟩ := hrel
            have HO := Lib.hid hO
            have HK := Lib.hid hK
            by_cases hlt : 2 * k + 1 < X.length
            · obtain ⟨j, hj⟩ : ∃ j : Nat, (X.length : Int) - 1 - k = (j : Int) := ⟨X.length - 1 - k, by omega⟩
              rw [hj]
              have hkj : k < j := by omega
              have hj2 : j < X.length := by omega
              have hk3 : k < ys.length := by omega
              have hj3 : j < ys.length := by omega
              have HS := Lib.hid (HV.out.step hkj (by omega))
              obtain ⟨g, cap, cur, e1, hok, _⟩ := hO.form hxp
              cases e1
              have ck : wr.cell? ⟨g, k, none⟩ = some (.int .u8 ys[k]) := HO.out.cells rfl k _ (by simp [Disk.bytes8, hk3])
              have cj : wr.cell? ⟨g, j, none⟩ = some (.int .u8 ys[j]) := HO.out.cells rfl j _ (by simp [Disk.bytes8, hj3])
              clear hO hK
              have hjj : (X.length : Int) - 1 - ((k : Int) + 1) = (j : Int) - 1 := by omega
              go_wp2
              refine Canon.row [0, 1, 2, 3, 4, 5, 6, 8, 9, 10, 7, 11, 12, 13, 14, 15] (by kernel_rfl) (by kernel_rfl) (by repeat (first | (with_reducible exact Safe.body) | (with_reducible apply Safe.then) | (with_reducible apply Safe.inBlock) | (dsimp +zetaDelta only))) ?_
              simp only [Canon.pick, Canon.wpPlan, List.getElem?_toArray, List.getElem?_cons_zero, List.getElem?_cons_succ]
              have HOd := Lib.hid (HO.out.kept ((Keeps.refl (fun _ => False) wr).drew) (fun _ _ h => h))
              have HKd := Lib.hid (HK.out.trans ((Keeps.refl (fun _ => False) wr).drew) (fun _ _ h => h))
              go_wp2_with (first
                | ((with_reducible refine at_store 5 (.tmp 54) (.tmp 49) rfl ?_); go_must (refine step_set rfl _ _ _ rfl 5 g k X.length _ (.int .u8 ys[j]) _ rfl rfl rfl HOd.out (by omega) info_byte4 ?_); intro w6 hO6 hk6 hs6)
                | ((with_reducible refine at_store 5 (.tmp 55) (.tmp 53) rfl ?_); go_must (refine step_set rfl _ _ _ rfl 5 g j X.length _ (.int .u8 ys[k]) _ rfl rfl rfl hO6 hj2 info_byte4 ?_); intro w7 hO7 hk7 hs7))
              refine ⟨by rfl, trivial, ?_⟩
              go_wp2
              go_roundw
              case rel => exact ⟨k + 1, _, by go_num, by go_num, by omega, HS, by simp; omega, by have := hO7; simpa [Disk.bytes8, List.map_set] using this, (HKd.out.trans hk6 (fun k hk h => by subst h; omega)).trans hk7 (fun k hk h => by subst h; omega)⟩
              case measure => simp [intOf]; omega
            · have HV := Lib.hid (HV.out.done (by omega))
              have HBy := Lib.hid (show IsB ys by rw [HV.out]; exact HB.out)
              have HRy := Lib.hid (show Rd wr (fun k => w.heap.size ≤ k) (.slice A X.length c) ys.length (Disk.bytes8 ys) by rw [hyl]; exact HO.out.rd)
              go_wp2_with ((with_reducible refine at_ 57 rfl ?_); go_must (refine step_bytes_str rfl _ _ _ rfl 5 Tryd.underlying22 Tryd.underlying5 Tryd.underlying9 _ ys rfl HRy.out HBy.out ?_))
              go_ret
              exact ⟨by rw [HV.out, HD.out] <;> rfl, HK.out⟩
end Go.Proofs.YtibegbmehpggbaaDoor
