/-
  Texts: Cut and Fields, the program's and the document's.
-/
import Derived.Test.YtibegbmehpggbaaStr
import Derived.Test.YtibegbmehpggbaaTxtP
namespace Go.Proofs.Ytibegbmehpggbaa
open Go.RowKit Go.Canon Go.Mem
set_option linter.unusedVariables false
set_option linter.unusedSimpArgs false
theorem cut4_c (l : List Int) (n : Nat) (w : World) : Calls Try.prog 29 #[.string (str l), .int .i64 n] w (Rets (Only (.string (str (l.take n))) w)) := by
  have hs := str_size l
  by_cases h : n < l.length
  · have HE := Lib.hid (slice_to (l := l) (j := n) (by omega))
    have hc := HE.out w
    generalize str l = s at *
    go_enter Try.func29, Try.ntmps29
    go_wp2
    go_ret
    exact ⟨rfl, rfl⟩
  · have e : l.take n = l := List.take_of_length_le (by omega)
    rw [e]
    generalize str l = s at *
    go_enter Try.func29, Try.ntmps29
    go_wp2
    go_ret
    exact ⟨rfl, rfl⟩
theorem row_str : (Try.prog.info? 9).map (fun i => (i.zero, i.size, i.bytes)) = some (some (.string ⟨#[]⟩), 1, 16) := by kernel_rfl
theorem row2_str : (Try.prog.info? 9).map (fun i => (i.zero, i.size)) = some (some (.string ⟨#[]⟩), 1) := by kernel_rfl
/-- Texts, as cells. -/
def strs (ps : List (List Int)) : List Value := ps.map fun p => .string (str p)
theorem strs_len (ps : List (List Int)) : (strs ps).length = ps.length := by simp [strs]
theorem strs_snoc (ps : List (List Int)) (p : List Int) : strs (ps ++ [p]) = strs ps ++ [.string (str p)] := by simp [strs]
theorem strs_one (ps : List (List Int)) : ∀ v ∈ strs ps, v.oneCell' = true := fun v hv => by
  unfold strs at hv
  rw [List.mem_map] at hv
  obtain ⟨p, _, rfl⟩ := hv; rfl
def FieldsPost (w : World) (r : List (List Int) × Bool) : Value → World → Prop := fun v w' => Keeps (fun _ => False) w w' ∧ ∃ u, v = .tuple #[u, .bool r.2] ∧ OwnRow w' (fun k => w.heap.size ≤ k) 9 1 u r.1.length (strs r.1)
theorem drop_one {l : List Int} {k : Nat} (h : k < l.length) : l.drop k = l[k] :: l.drop (k + 1) := List.drop_eq_getElem_cons h
theorem piece_on {l : List Int} {f k : Nat} (hf : f ≤ k) (h : k < l.length) : (l.drop f).take (k + 1 - f) = (l.drop f).take (k - f) ++ [l[k]] := by
  rw [show k + 1 - f = (k - f) + 1 by omega, List.take_add_one, List.getElem?_drop, show f + (k - f) = k by omega, List.getElem?_eq_getElem h]; rfl
set_option maxHeartbeats 1600000 in
theorem fields_c (l : List Int) (hB : IsB l) (hl : l.length ≤ 1000000) (x most : Int) (w : World) : Calls Try.prog 45 #[.string (str l), .int .u8 x, .int .i64 most] w (Rets (FieldsPost w (fieldsF x l most))) := by
  have hs := str_size l
  have HX := Lib.hid (fun (k : Nat) (h : k < l.length) (w : World) => index_str hB h w)
  have HS := Lib.hid (fun (i j : Nat) (h : i ≤ j) (h2 : j ≤ l.length) (w : World) => slice_str h h2 w)
  generalize str l = s at *
  go_enter Try.func45, Try.ntmps45
  go_wp2
  go_loopw [8, 9, 10] (fun o f i wr => ∃ (k j : Nat) (ps : List (List Int)), k ≤ l.length + 1 ∧ j ≤ k ∧ i = .int .i64 k ∧ f = .int .i64 j ∧ ps.length ≤ k ∧ Hid (ps = [] ∨ (ps.length : Int) ≤ most) ∧ Hid (if k ≤ l.length then ps ++ joinP ((l.drop j).take (k - j)) (splitF x (l.drop k)) = splitF x l else ps = splitF x l) ∧ OwnRow wr (fun k => w.heap.size ≤ k) 9 1 o ps.length (strs ps) ∧ Keeps (fun _ => False) w wr) (fun _ _ i _ => l.length + 1 - (intOf i).toNat)
  case atStart => exact ⟨0, 0, [], by omega, by omega, rfl, rfl, Nat.le_refl _, Lib.hid (.inl rfl), Lib.hid (by simp [joinP_nil (splitF_ne x l)]), OwnRow.nil _ _ _ _, Keeps.refl _ w⟩
  case round =>
    obtain ⟨k, j, ps, hk, hj, rfl, rfl, hpk, HM, HP, hO, hK⟩ := hrel
    have HO := Lib.hid hO
    have HK := Lib.hid hK
    obtain ⟨A, c, rfl, _⟩ := hO.slice
    clear hO hK
    by_cases hle : k ≤ l.length
    · rw [if_pos hle] at HP
      by_cases hlt : k < l.length
      · have hx := HX.out k hlt wr
        have HD := Lib.hid (drop_one hlt)
        have HPc := Lib.hid (piece_on hj hlt)
        generalize l[k] = c at *
        by_cases hc : c = x
        · subst hc
          have hb : (c != c) = false := by simp
          have hps := HS.out j k hj (by omega) wr
          have HP := Lib.hid (show (ps ++ [(l.drop j).take (k - j)]) ++ joinP [] (splitF c (l.drop (k + 1))) = splitF c l by rw [← HP.out, HD.out, split_cut, joinP_nil (splitF_ne _ _)]; simp)
          by_cases hm : most ≤ ps.length
          · have HF := Lib.hid (show fieldsF c l most = ([], false) by
              unfold fieldsF
              rw [if_pos]
              rw [← HP.out, List.length_append, List.length_append, List.length_singleton]
              omega)
            go_wp2
            go_ret2
            exact ⟨HK.out, _, by rw [HF.out] <;> rfl, by rw [HF.out]; exact OwnRow.nil _ _ _ _⟩
          · generalize (l.drop j).take (k - j) = p at *
            go_wp2_with (first
              | ((with_reducible refine at_ 37 rfl ?_); go_must (refine step_lit rfl 88 _ 1 rfl [.string (str p)] rfl rfl (by decide) 9 _ 1 Try.underlying88 row2_str (by decide) (by decide) (by intro v hv; rw [List.mem_singleton] at hv; subst hv; rfl) ?_); intro w2 hb2 hk2 hs2)
              | ((with_reducible refine at_ 38 rfl ?_); go_must (refine step_append_rd (ok2 := fun q => wr.heap.size ≤ q) rfl _ _ _ rfl 9 _ 1 16 Try.underlying88 row_str rfl (by decide) (.slice A ps.length _) ps.length (strs ps) rfl (HO.out.kept hk2 (fun _ _ h => h)) _ 1 [.string (str p)] rfl (lit_rd rfl hb2 (Nat.le_refl _)) rfl (by intro y hy; rw [List.mem_singleton] at hy; subst hy; rfl) (by simp only [maxLen]; omega) (by omega) ?_); intro w3 w4 hO4 hk4))
            go_roundw
            case rel => exact ⟨k + 1, k + 1, ps ++ [p], by omega, by omega, by go_num, by go_num, by simp; omega, Lib.hid (.inr (by simp; omega)), Lib.hid (by rw [if_pos (by omega), Nat.sub_self, List.take_zero]; exact HP.out), by rw [List.length_append, strs_snoc]; exact hO4.mono (fun q hq h => by rcases h with h | h; exact h; have := HK.out.size; have := hk2.size; omega), (HK.out.trans hk2 (fun _ _ h => h)).trans hk4 (fun q hq h => by have := HO.out.2 q h; omega)⟩
            case measure => simp [intOf]; omega
        · have hb : (c != x) = true := by simpa using hc
          have HC := Lib.hid hc
          clear hc
          go_wp2
          go_roundw
          case rel => exact ⟨k + 1, j, ps, by omega, by omega, by go_num, rfl, by omega, HM, Lib.hid (by rw [if_pos (by omega), HPc.out, ← HP.out, HD.out, split_on HC.out]), HO.out, HK.out⟩
          case measure => simp [intOf]; omega
      · obtain rfl : k = l.length := by omega
        have hps := HS.out j l.length hj (Nat.le_refl _) wr
        rw [List.drop_length, split_nil] at HP
        by_cases hm : most ≤ ps.length
        · have HF := Lib.hid (show fieldsF x l most = ([], false) by
            unfold fieldsF
            rw [if_pos]
            rw [← HP.out, List.length_append, List.length_singleton]
            omega)
          go_wp2
          go_ret2
          exact ⟨HK.out, _, by rw [HF.out] <;> rfl, by rw [HF.out] ; exact OwnRow.nil _ _ _ _⟩
        · generalize (l.drop j).take (l.length - j) = p at *
          go_wp2_with (first
            | ((with_reducible refine at_ 37 rfl ?_); go_must (refine step_lit rfl 88 _ 1 rfl [.string (str p)] rfl rfl (by decide) 9 _ 1 Try.underlying88 row2_str (by decide) (by decide) (by intro v hv; rw [List.mem_singleton] at hv; subst hv; rfl) ?_); intro w2 hb2 hk2 hs2)
            | ((with_reducible refine at_ 38 rfl ?_); go_must (refine step_append_rd (ok2 := fun q => wr.heap.size ≤ q) rfl _ _ _ rfl 9 _ 1 16 Try.underlying88 row_str rfl (by decide) (.slice A ps.length _) ps.length (strs ps) rfl (HO.out.kept hk2 (fun _ _ h => h)) _ 1 [.string (str p)] rfl (lit_rd rfl hb2 (Nat.le_refl _)) rfl (by intro y hy; rw [List.mem_singleton] at hy; subst hy; rfl) (by simp only [maxLen]; omega) (by omega) ?_); intro w3 w4 hO4 hk4))
          go_roundw
          case rel => exact ⟨l.length + 1, l.length + 1, ps ++ [p], by omega, by omega, by go_num, by go_num, by simp; omega, Lib.hid (.inr (by simp; omega)), Lib.hid (by rw [if_neg (by omega)]; exact HP.out), by rw [List.length_append, strs_snoc]; exact hO4.mono (fun q hq h => by rcases h with h | h; exact h; have := HK.out.size; have := hk2.size; omega), (HK.out.trans hk2 (fun _ _ h => h)).trans hk4 (fun q hq h => by have := HO.out.2 q h; omega)⟩
          case measure => simp [intOf]
    · rw [if_neg hle] at HP
      have HF := Lib.hid (show fieldsF x l most = (splitF x l, true) by
        unfold fieldsF
        rw [if_neg]
        have h1 := HM.out
        have h2 := HP.out
        rw [← h2]
        rcases h1 with h1 | h1
        · exact (splitF_ne x l (by rw [← h2, h1])).elim
        · omega)
      go_wp2
      go_ret2
      exact ⟨HK.out, _, by rw [HF.out] <;> rfl, by rw [HF.out, ← HP.out]; exact HO.out⟩
set_option maxHeartbeats 3200000 in
set_option maxRecDepth 100000 in
theorem rfields_c (l : List Int) (hB : IsB l) (hl : l.length ≤ 1000000) (x most : Int) (w : World) : Calls Try.prog 47 #[.string (str l), .int .u8 x, .int .i64 most] w (Rets (FieldsPost w (fieldsF x l most))) := by
  have hs := str_size l
  have HX := Lib.hid (fun (k : Nat) (h : k < l.length) (w : World) => index_str hB h w)
  have HZ := Lib.hid (fun i j => str_cut l i j)
  generalize str l = s at *
  go_enter Try.func47, Try.ntmps47
  go_wp2
  go_loopw [8, 9] (fun n i wr => ∃ k : Nat, k ≤ l.length ∧ i = .int .i64 k ∧ n = .int .i64 ((cntF x (l.take k) : Nat) + 1 : Int) ∧ wr = w) (fun _ i _ => l.length - (intOf i).toNat)
  case atStart => exact ⟨0, by omega, rfl, rfl, rfl⟩
  case round =>
    obtain ⟨k, hk, rfl, rfl, hw⟩ := hrel
    subst wr
    by_cases hlt : k < l.length
    · have hx := HX.out k hlt w
      have HC := Lib.hid (show cntF x (l.take (k + 1)) = cntF x (l.take k) + (if l[k] = x then 1 else 0) by rw [List.take_add_one, List.getElem?_eq_getElem hlt, cntF_app]; simp [cntF])
      have hle := cntF_le x (l.take k)
      rw [List.length_take] at hle
      generalize l[k] = c at *
      generalize cntF x (l.take k) = m at *
      by_cases hc : c = x
      · subst hc
        have hb : (c == c) = true := by simp
        go_wp2
        go_roundw
        case rel => exact ⟨k + 1, by omega, by go_num, by rw [HC.out, if_pos rfl]; go_num, by trivial⟩
        case measure => simp [intOf]; omega
      · have hb : (c == x) = false := by simpa using hc
        have HC := Lib.hid (show cntF x (l.take (k + 1)) = m by rw [HC.out, if_neg hc]; rfl)
        clear hc
        go_wp2
        go_roundw
        case rel => exact ⟨k + 1, by omega, by go_num, by rw [HC.out], by trivial⟩
        case measure => simp [intOf]; omega
    · obtain rfl : k = l.length := by omega
      rw [List.take_length]
      have HN := Lib.hid (split_len x l)
      have hle := cntF_le x l
      by_cases hm : most < ((cntF x l : Nat) + 1 : Int)
      · have HF := Lib.hid (show fieldsF x l most = ([], false) by
          unfold fieldsF
          rw [if_pos (by rw [HN.out]; omega)])
        generalize cntF x l = m at *
        go_wp2
        go_ret2
        exact ⟨Keeps.refl _ _, _, by rw [HF.out] <;> rfl, by rw [HF.out]; exact OwnRow.nil _ _ _ _⟩
      · have HF := Lib.hid (show fieldsF x l most = (splitF x l, true) by
          unfold fieldsF
          rw [if_neg (by rw [HN.out]; omega)])
        generalize cntF x l = m at *
        go_wp2
        go_loopw [10, 11, 12] (fun o p i w2 => ∃ (k : Nat) (ps : List (List Int)) (pc : List Int), k ≤ l.length ∧ i = .int .i64 k ∧ p = .string (str pc) ∧ ps.length ≤ k ∧ pc.length ≤ k ∧ Hid (ps ++ joinP pc (splitF x (l.drop k)) = splitF x l) ∧ OwnRow w2 (fun k => w.heap.size ≤ k) 9 1 o ps.length (strs ps) ∧ Keeps (fun _ => False) w w2) (fun _ _ i _ => l.length - (intOf i).toNat)
        case atStart => exact ⟨0, [], [], by omega, rfl, rfl, Nat.le_refl _, Nat.le_refl _, Lib.hid (by simp [joinP_nil (splitF_ne x l)]), OwnRow.nil _ _ _ _, Keeps.refl _ _⟩
        case round =>
          clear HN
          obtain ⟨k, ps, pc, hk, rfl, rfl, hpk, hpc, HP, hO, hK⟩ := hrel
          have HO := Lib.hid hO
          have HK := Lib.hid hK
          obtain ⟨A, c, rfl, _⟩ := hO.slice
          clear hO hK
          by_cases hlt : k < l.length
          · have hx := HX.out k hlt wr
            have HD := Lib.hid (drop_one hlt)
            have HE := Lib.hid (show s.extract k (k + 1) = str [l[k]] by rw [HZ.out, drop_one hlt, show k + 1 - k = 1 by omega]; rfl)
            generalize l[k] = c at *
            by_cases hc : c = x
            · subst hc
              have hb : (c == c) = true := by simp
              have HP := Lib.hid (show (ps ++ [pc]) ++ joinP [] (splitF c (l.drop (k + 1))) = splitF c l by rw [← HP.out, HD.out, split_cut, joinP_nil (splitF_ne _ _)]; simp)
              go_wp2_with (first
                | ((with_reducible refine at_ 42 rfl ?_); go_must (refine step_lit rfl 88 _ 1 rfl [.string (str pc)] rfl rfl (by decide) 9 _ 1 Try.underlying88 row2_str (by decide) (by decide) (by intro v hv; rw [List.mem_singleton] at hv; subst hv; rfl) ?_); intro w2 hb2 hk2 hs2)
                | ((with_reducible refine at_ 43 rfl ?_); go_must (refine step_append_rd (ok2 := fun q => wr.heap.size ≤ q) rfl _ _ _ rfl 9 _ 1 16 Try.underlying88 row_str rfl (by decide) (.slice A ps.length _) ps.length (strs ps) rfl (HO.out.kept hk2 (fun _ _ h => h)) _ 1 [.string (str pc)] rfl (lit_rd rfl hb2 (Nat.le_refl _)) rfl (by intro y hy; rw [List.mem_singleton] at hy; subst hy; rfl) (by simp only [maxLen]; omega) (by omega) ?_); intro w3 w4 hO4 hk4))
              go_roundw
              case rel => exact ⟨k + 1, ps ++ [pc], [], by omega, by go_num, by rfl, by simp; omega, by simp, HP, by rw [List.length_append, strs_snoc]; exact hO4.mono (fun q hq h => by rcases h with h | h; exact h; have := HK.out.size; have := hk2.size; omega), (HK.out.trans hk2 (fun _ _ h => h)).trans hk4 (fun q hq h => by have := HO.out.2 q h; omega)⟩
              case measure => simp [intOf]; omega
            · have hb : (c == x) = false := by simpa using hc
              have HP := Lib.hid (show ps ++ joinP (pc ++ [c]) (splitF x (l.drop (k + 1))) = splitF x l by rw [← HP.out, HD.out, split_on hc])
              have z1 : (str pc).size ≤ 1000000 := by rw [str_size]; omega
              have HA := Lib.hid (show str pc ++ s.extract k (k + 1) = str (pc ++ [c]) by rw [HE.out, str_app])
              clear hc
              generalize str pc = sp at *
              go_wp2
              go_roundw
              case rel => exact ⟨k + 1, ps, pc ++ [c], by omega, by go_num, by rw [HA.out], by omega, by simp; omega, HP, HO.out, HK.out⟩
              case measure => simp [intOf]; omega
          · obtain rfl : k = l.length := by omega
            rw [List.drop_length, split_nil] at HP
            go_wp2_with (first
              | ((with_reducible refine at_ 53 rfl ?_); go_must (refine step_lit rfl 88 _ 1 rfl [.string (str pc)] rfl rfl (by decide) 9 _ 1 Try.underlying88 row2_str (by decide) (by decide) (by intro v hv; rw [List.mem_singleton] at hv; subst hv; rfl) ?_); intro w2 hb2 hk2 hs2)
              | ((with_reducible refine at_ 54 rfl ?_); go_must (refine step_append_rd (ok2 := fun q => wr.heap.size ≤ q) rfl _ _ _ rfl 9 _ 1 16 Try.underlying88 row_str rfl (by decide) (.slice A ps.length _) ps.length (strs ps) rfl (HO.out.kept hk2 (fun _ _ h => h)) _ 1 [.string (str pc)] rfl (lit_rd rfl hb2 (Nat.le_refl _)) rfl (by intro y hy; rw [List.mem_singleton] at hy; subst hy; rfl) (by simp only [maxLen]; omega) (by omega) ?_); intro w3 w4 hO4 hk4))
            go_ret2
            exact ⟨(HK.out.trans hk2 (fun _ _ h => h)).trans hk4 (fun q hq h => by have := HO.out.2 q h; omega), _, by rw [HF.out] <;> rfl, by rw [HF.out, ← HP.out, List.length_append, strs_snoc]; exact hO4.mono (fun q hq h => by rcases h with h | h; exact h; have := HK.out.size; have := hk2.size; omega)⟩
end Go.Proofs.Ytibegbmehpggbaa
