/-
  Texts: Cut and Fields, the program's and the document's.
-/
import Derived.Test.YtibegbmehpggbaaDoorStr
import Derived.Test.YtibegbmehpggbaaDoorTxtP
namespace Go.Proofs.YtibegbmehpggbaaDoor
open Go.RowKit Go.Canon Go.Mem
set_option linter.unusedVariables false
set_option linter.unusedSimpArgs false
theorem row_str : (Tryd.prog.info? 9).map (fun i => (i.zero, i.size, i.bytes)) = some (some (.string ⟨#[]⟩), 1, 16) := by kernel_rfl
theorem row2_str : (Tryd.prog.info? 9).map (fun i => (i.zero, i.size)) = some (some (.string ⟨#[]⟩), 1) := by kernel_rfl
/-- Texts, as cells. -/
def strs (ps : List (List Int)) : List Value := ps.map fun p => .string (str p)
theorem strs_len (ps : List (List Int)) : (strs ps).length = ps.length := by simp [strs]
theorem strs_snoc (ps : List (List Int)) (p : List Int) : strs (ps ++ [p]) = strs ps ++ [.string (str p)] := by simp [strs]
theorem strs_one (ps : List (List Int)) : ∀ v ∈ strs ps, v.oneCell' = true := fun v hv => by
  unfold strs at hv
  rw [List.mem_map] at hv
  obtain ⟨p, _, rfl⟩ := hv; rfl
def FieldsPost (w : World) (r : List (List Int) × Bool) : Value → World → Prop := fun v w' => Keeps (fun _ => False) w w' ∧ ∃ u, v = .tuple #[u, .bool r.2] ∧ OwnRow w' (fun k => w.heap.size ≤ k) 9 1 u r.1.length (strs r.1)
theorem drop_one {l : List Int} {k : Nat} (h : k < l.length) : l.drop k = l[k] :: l.drop (k + 1) := List.drop_eq_getElem_cons h
theorem piece_on {l : List Int} {f k : Nat} (hf : f ≤ k) (h : k < l.length) : (l.drop f).take (k + 1 - f) = (l.drop f).take (k - f) ++ [l[k]] := by
  rw [show k + 1 - f = (k - f) + 1 by omega, List.take_add_one, List.getElem?_drop, show f + (k - f) = k by omega, List.getElem?_eq_getElem h]; rfl
set_option maxHeartbeats 1600000 in
theorem fields_c (l : List Int) (hB : IsB l) (hl : l.length ≤ 1000000) (x most : Int) (w : World) : Calls Tryd.prog 38 #[.string (str l), .int .u8 x, .int .i64 most] w (Rets (FieldsPost w (fieldsF x l most))) := by
  have hs := str_size l
  have HX := Lib.hid (fun (k : Nat) (h : k < l.length) (w : World) => index_str hB h w)
  have HS := Lib.hid (fun (i j : Nat) (h : i ≤ j) (h2 : j ≤ l.length) (w : World) => slice_str h h2 w)
  generalize str l = s at *
  go_enter Tryd.func38, Tryd.ntmps38
  go_wp2
  go_loopw [8, 9, 10] (fun o f i wr => ∃ (k j : Nat) (ps : List (List Int)), k ≤ l.length + 1 ∧ j ≤ k ∧ i = .int .i64 k ∧ f = .int .i64 j ∧ ps.length ≤ k ∧ Hid (ps = [] ∨ (ps.length : Int) ≤ most) ∧ Hid (if k ≤ l.length then ps ++ joinP ((l.drop j).take (k - j)) (splitF x (l.drop k)) = splitF x l else ps = splitF x l) ∧ OwnRow wr (fun k => w.heap.size ≤ k) 9 1 o ps.length (strs ps) ∧ Keeps (fun _ => False) w wr) (fun _ _ i _ => l.length + 1 - (intOf i).toNat)
  case atStart => exact ⟨0, 0, [], by omega, by omega, rfl, rfl, Nat.le_refl _, Lib.hid (.inl rfl), Lib.hid (by simp [joinP_nil (splitF_ne x l)]), OwnRow.nil _ _ _ _, Keeps.refl _ w⟩
  case round =>
    obtain ⟨k, j, ps, hk, hj, rfl, rfl, hpk, HM, HP, hO, hK⟩ := hrel
    have HO := Lib.hid hO
    have HK := Lib.hid hK
    obtain ⟨A, c, rfl, _⟩ := hO.slice
    clear hO hK
    by_cases hle : k ≤ l.length
    · rw [if_pos hle] at HP
      by_cases hlt : k < l.length
      · have hx := HX.out k hlt wr
        have HD := Lib.hid (drop_one hlt)
        have HPc := Lib.hid (piece_on hj hlt)
        generalize l[k] = c at *
        by_cases hc : c = x
        · subst hc
          have hb : (c != c) = false := by simp
          have hps := HS.out j k hj (by omega) wr
          have HP := Lib.hid (show (ps ++ [(l.drop j).take (k - j)]) ++ joinP [] (splitF c (l.drop (k + 1))) = splitF c l by rw [← HP.out, HD.out, split_cut, joinP_nil (splitF_ne _ _)]; simp)
          by_cases hm : most ≤ ps.length
          · have HF := Lib.hid (show fieldsF c l most = ([], false) by
              unfold fieldsF
              rw [if_pos]
              rw [← HP.out, List.length_append, List.length_append, List.length_singleton]
              omega)
            go_wp2
            go_ret2
            exact ⟨HK.out, _, by rw [HF.out] <;> rfl, by rw [HF.out]; exact OwnRow.nil _ _ _ _⟩
          · generalize (l.drop j).take (k - j) = p at *
            go_wp2_with (first
              | ((with_reducible refine at_ 37 rfl ?_); go_must (refine step_lit rfl 41 _ 1 rfl [.string (str p)] rfl rfl (by decide) 9 _ 1 Tryd.underlying41 row2_str (by decide) (by decide) (by intro v hv; rw [List.mem_singleton] at hv; subst hv; rfl) ?_); intro w2 hb2 hk2 hs2)
              | ((with_reducible refine at_ 38 rfl ?_); go_must (refine step_append_rd (ok2 := fun q => wr.heap.size ≤ q) rfl _ _ _ rfl 9 _ 1 16 Tryd.underlying41 row_str rfl (by decide) (.slice A ps.length _) ps.length (strs ps) rfl (HO.out.kept hk2 (fun _ _ h => h)) _ 1 [.string (str p)] rfl (lit_rd rfl hb2 (Nat.le_refl _)) rfl (by intro y hy; rw [List.mem_singleton] at hy; subst hy; rfl) (by simp only [maxLen]; omega) (by omega) ?_); intro w3 w4 hO4 hk4))
            go_roundw
            case rel => exact ⟨k + 1, k + 1, ps ++ [p], by omega, by omega, by go_num, by go_num, by simp; omega, Lib.hid (.inr (by simp; omega)), Lib.hid (by rw [if_pos (by omega), Nat.sub_self, List.take_zero]; exact HP.out), by rw [List.length_append, strs_snoc]; exact hO4.mono (fun q hq h => by rcases h with h | h; exact h; have := HK.out.size; have := hk2.size; omega), (HK.out.trans hk2 (fun _ _ h => h)).trans hk4 (fun q hq h => by have := HO.out.2 q h; omega)⟩
            case measure => simp [intOf]; omega
        · have hb : (c != x) = true := by simpa using hc
          have HC := Lib.hid hc
          clear hc
          go_wp2
          go_roundw
          case rel => exact ⟨k + 1, j, ps, by omega, by omega, by go_num, rfl, by omega, HM, Lib.hid (by rw [if_pos (by omega), HPc.out, ← HP.out, HD.out, split_on HC.out]), HO.out, HK.out⟩
          case measure => simp [intOf]; omega
      · obtain rfl : k = l.length := by omega
        have hps := HS.out j l.length hj (Nat.le_refl _) wr
        rw [List.drop_length, split_nil] at HP
        by_cases hm : most ≤ ps.length
        · have HF := Lib.hid (show fieldsF x l most = ([], false) by
            unfold fieldsF
            rw [if_pos]
            rw [← HP.out, List.length_append, List.length_singleton]
            omega)
          go_wp2
          go_ret2
          exact ⟨HK.out, _, by rw [HF.out] <;> rfl, by rw [HF.out] ; exact OwnRow.nil _ _ _ _⟩
        · generalize (l.drop j).take (l.length - j) = p at *
          go_wp2_with (first
            | ((with_reducible refine at_ 37 rfl ?_); go_must (refine step_lit rfl 41 _ 1 rfl [.string (str p)] rfl rfl (by decide) 9 _ 1 Tryd.underlying41 row2_str (by decide) (by decide) (by intro v hv; rw [List.mem_singleton] at hv; subst hv; rfl) ?_); intro w2 hb2 hk2 hs2)
            | ((with_reducible refine at_ 38 rfl ?_); go_must (refine step_append_rd (ok2 := fun q => wr.heap.size ≤ q) rfl _ _ _ rfl 9 _ 1 16 Tryd.underlying41 row_str rfl (by decide) (.slice A ps.length _) ps.length (strs ps) rfl (HO.out.kept hk2 (fun _ _ h => h)) _ 1 [.string (str p)] rfl (lit_rd rfl hb2 (Nat.le_refl _)) rfl (by intro y hy; rw [List.mem_singleton] at hy; subst hy; rfl) (by simp only [maxLen]; omega) (by omega) ?_); intro w3 w4 hO4 hk4))
          go_roundw
          case rel => exact ⟨l.length + 1, l.length + 1, ps ++ [p], by omega, by omega, by go_num, by go_num, by simp; omega, Lib.hid (.inr (by simp; omega)), Lib.hid (by rw [if_neg (by omega)]; exact HP.out), by rw [List.length_append, strs_snoc]; exact hO4.mono (fun q hq h => by rcases h with h | h; exact h; have := HK.out.size; have := hk2.size; omega), (HK.out.trans hk2 (fun _ _ h => h)).trans hk4 (fun q hq h => by have := HO.out.2 q h; omega)⟩
          case measure => simp [intOf]
    · rw [if_neg hle] at HP
      have HF := Lib.hid (show fieldsF x l most = (splitF x l, true) by
        unfold fieldsF
        rw [if_neg]
        have h1 := HM.out
        have h2 := HP.out
        rw [← h2]
        rcases h1 with h1 | h1
        · exact (splitF_ne x l (by rw [← h2, h1])).elim
        · omega)
      go_wp2
      go_ret2
      exact ⟨HK.out, _, by rw [HF.out] <;> rfl, by rw [HF.out, ← HP.out]; exact HO.out⟩
end Go.Proofs.YtibegbmehpggbaaDoor
