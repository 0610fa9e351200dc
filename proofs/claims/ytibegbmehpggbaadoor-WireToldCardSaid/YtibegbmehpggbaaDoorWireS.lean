/-
  The walks of package wire: small, split.
-/
import Derived.Test.YtibegbmehpggbaaDoorWireP
import Derived.Test.YtibegbmehpggbaaDoorTxtN
import Derived.Test.YtibegbmehpggbaaDoorMark
namespace Go.Proofs.YtibegbmehpggbaaDoor
open Go.RowKit Go.Canon Go.Mem
set_option linter.unusedVariables false
set_option linter.unusedSimpArgs false
theorem lowW_byte {l : List Int} (h : IsB l) : IsB (l.map Wire.low) := fun x hx => by
  obtain ⟨y, hy, rfl⟩ := List.mem_map.1 hx
  have := h y hy
  unfold Wire.low Wire.upC
  split
  · rename_i h
    have := of_decide_eq_true h
    omega
  · omega
def Half (l : List Int) (k : Nat) : List Int := (l.take k).map Wire.low ++ l.drop k
theorem Half.len (l : List Int) (k : Nat) (h : k ≤ l.length) : (Half l k).length = l.length := by simp [Half]; omega
theorem Half.at {l : List Int} {k : Nat} (h : k < l.length) : (Half l k)[k]'(by rw [Half.len l k (by omega)]; exact h) = l[k] := by
  unfold Half
  rw [List.getElem_append_right (by simp; omega)]
  simp [Nat.min_eq_left (Nat.le_of_lt h)]
theorem Half.step {l : List Int} {k : Nat} (h : k < l.length) : Half l (k + 1) = (Half l k).set k (Wire.low l[k]) := by
  unfold Half
  have e : ((l.take k).map Wire.low).length = k := by simp; omega
  rw [List.set_append_right _ _ (by omega), e, Nat.sub_self, drop_one h, List.set_cons_zero, List.take_add_one, List.getElem?_eq_getElem h, List.map_append, List.append_assoc]
  rfl
theorem Half.keep {l : List Int} {k : Nat} (h : k < l.length) (hl : Wire.low l[k] = l[k]) : Half l (k + 1) = Half l k := by
  rw [Half.step h, hl]
  have := Half.at h
  conv => lhs; arg 3; rw [← this]
  exact List.set_getElem_self _
theorem info_byteS : (Tryd.prog.info? 5).map (·.size) = some 1 := by kernel_rfl
theorem Half.all (l : List Int) : Half l l.length = l.map Wire.low := by unfold Half; simp
set_option maxHeartbeats 1600000 in
theorem smallW_c (l : List Int) (hB : IsB l) (hl : l.length ≤ 1000000) (w : World) : Calls Tryd.prog 44 #[.string (str l)] w (Rets (Still (.string (str (l.map Wire.low))) w)) := by
  obtain ⟨s, hs⟩ : ∃ s, s = str l := ⟨_, rfl⟩
  have HS := Lib.hid hs
  rw [← hs]
  clear hs
  have HR := Lib.hid (str_size (l.map Wire.low))
  obtain ⟨r, hr⟩ : ∃ r, r = str (l.map Wire.low) := ⟨_, rfl⟩
  rw [← hr]
  have HT := Lib.hid hr
  clear hr
  go_enter Tryd.func44, Tryd.ntmps44
  go_wp2_with ((with_reducible refine at_ 7 rfl ?_); go_must (refine step_str_mrow rfl _ _ _ rfl Tryd.underlying9 Tryd.underlying22 Tryd.underlying5 l hB (by rw [← HS.out]; rfl) ?_); intro c w2 hc hm2 hk2)
  go_loopw [4, 5, 10] (fun q0 q1 i wr => ∃ k : Nat, k ≤ l.length ∧ i = .int .i64 k ∧ Hid (MRow wr w.heap.size (Half l k)) ∧ Hid (Keeps (fun _ => False) w wr)) (fun _ _ i _ => l.length - (intOf i).toNat)
  case atStart => exact ⟨0, by omega, rfl, Lib.hid hm2, Lib.hid hk2⟩
  case round =>
    obtain ⟨k, hk, rfl, HM, HK⟩ := hrel
    by_cases hlt : k < l.length
    · have hx := HM.out.cell (k := k) (by rw [Half.len l k hk]; exact hlt)
      rw [Half.at hlt] at hx
      have hx2 := hB _ (List.getElem_mem hlt)
      obtain ⟨x1, x2⟩ := hx2
      have HN := Lib.hid (Half.step hlt)
      have HU := Lib.hid (Half.keep hlt)
      generalize l[k] = x at *
      by_cases c1 : 65 ≤ x
      · by_cases c2 : x ≤ 90
        · have HL := Lib.hid (show Wire.low x = x + 32 by unfold Wire.low Wire.upC; rw [decide_eq_true ⟨c1, c2⟩]; rfl)
          go_wp2_with ((with_reducible refine at_store 5 (.tmp 25) (.tmp 24) rfl ?_); go_must (refine step_mset rfl _ _ _ rfl w.heap.size k (Half l k) (x + 32) rfl rfl HM.out (by rw [Half.len l k hk]; exact hlt) info_byteS ?_); intro w3 hm3 hk3)
          go_roundw
          case rel => exact ⟨k + 1, by omega, by go_num, Lib.hid (by rw [HN.out, HL.out]; exact hm3), Lib.hid (HK.out.trans hk3 (fun q hq h => by subst h; exact absurd hq (Nat.lt_irrefl _)))⟩
          case measure => simp [intOf]; omega
        · have HL := Lib.hid (show Wire.low x = x by unfold Wire.low Wire.upC; rw [decide_eq_false (by omega)]; rfl)
          go_wp2
          go_roundw
          case rel => exact ⟨k + 1, by omega, by go_num, Lib.hid (by rw [HU.out HL.out]; exact HM.out), HK⟩
          case measure => simp [intOf]; omega
      · have HL := Lib.hid (show Wire.low x = x by unfold Wire.low Wire.upC; rw [decide_eq_false (by omega)]; rfl)
        go_wp2
        go_roundw
        case rel => exact ⟨k + 1, by omega, by go_num, Lib.hid (by rw [HU.out HL.out]; exact HM.out), HK⟩
        case measure => simp [intOf]; omega
    · obtain rfl : k = l.length := by omega
      rw [Half.all] at HM
      have HRd := Lib.hid (HM.out.rd (c := c) (by rw [List.length_map]; exact hc) (ok := fun _ => True) trivial)
      have HLn := Lib.hid (show (l.map Wire.low).length = l.length by simp)
      go_wp2_with ((with_reducible refine at_ 28 rfl ?_); go_must (refine step_bytes_str rfl _ _ _ rfl 5 Tryd.underlying22 Tryd.underlying5 Tryd.underlying9 (.slice (some ⟨w.heap.size, 0, none⟩) l.length c) (l.map Wire.low) rfl (by rw [← HLn.out]; have := HRd.out; rw [HLn.out] at this ⊢; exact this) (lowW_byte hB) ?_))
      go_ret
      exact ⟨by rw [HT.out]; rfl, HK.out⟩
/-! ### split -/
theorem al_ne {c : Int} (h : Wire.alC c = true) : c ≠ 58 := by
  intro e; subst e; revert h; decide
theorem upto_on : ∀ {l : List Int} {k : Nat}, (l.take k).all Wire.alC = true → Wire.upto l = l.take k ++ Wire.upto (l.drop k)
  | l, 0, _ => by simp
  | [], k + 1, _ => by simp [Wire.upto]
  | x :: l, k + 1, h => by
    rw [List.take_succ_cons, List.all_cons, Bool.and_eq_true] at h
    have hx := al_ne h.1
    have ih := upto_on (l := l) (k := k) h.2
    rw [List.take_succ_cons, List.drop_succ_cons, List.cons_append, ← ih]
    unfold Wire.upto
    rw [List.takeWhile_cons, if_pos (by simpa using hx)]
theorem upto_at {l : List Int} {k : Nat} (h : k < l.length) (ha : (l.take k).all Wire.alC = true) (hc : l[k] = 58) : Wire.upto l = l.take k := by
  rw [upto_on ha, drop_one h, hc]
  unfold Wire.upto
  rw [List.takeWhile_cons, if_neg (by simp), List.append_nil]
theorem split_bad {l : List Int} {k : Nat} (h : k < l.length) (ha : (l.take k).all Wire.alC = true) (hc : l[k] ≠ 58) (hn : Wire.alC l[k] = false) : Wire.split l = none := by
  unfold Wire.split
  rw [if_neg]
  rintro ⟨_, h2, _⟩
  rw [upto_on ha, drop_one h] at h2
  unfold Wire.upto at h2
  rw [List.takeWhile_cons, if_pos (by simpa using hc), List.all_append, List.all_cons, hn] at h2
  simp at h2
theorem split_end {l : List Int} (ha : l.all Wire.alC = true) : Wire.split l = none := by
  unfold Wire.split
  rw [if_neg]
  rintro ⟨h1, _⟩
  rw [upto_on (k := l.length) (by rw [List.take_length]; exact ha), List.take_length, List.length_append] at h1
  omega
theorem split_here {l : List Int} {k : Nat} (h : k < l.length) (ha : (l.take k).all Wire.alC = true) (hc : l[k] = 58) : Wire.split l = if 1 ≤ k ∧ k ≤ 32 ∧ l[k + 1]? = some 32 then some ((l.take k).map Wire.low, l.drop (k + 2)) else none := by
  have hk : (l.take k).length = k := by rw [List.length_take]; omega
  unfold Wire.split
  rw [upto_at h ha hc, hk]
  by_cases hh : 1 ≤ k ∧ k ≤ 32 ∧ l[k + 1]? = some 32
  · rw [if_pos ⟨h, ha, hh⟩, if_pos hh]
  · rw [if_neg (fun q => hh q.2.2), if_neg hh]
def splitV : Option (List Int × List Int) → Value
  | none => .tuple #[.string (str []), .string (str []), .bool false]
  | some (n, v) => .tuple #[.string (str n), .string (str v), .bool true]
set_option maxHeartbeats 1600000 in
set_option maxRecDepth 100000 in
theorem splitW_c (l : List Int) (hB : IsB l) (hl : l.length ≤ 1000000) (w : World) : Calls Tryd.prog 41 #[.string (str l)] w (Rets (Still (splitV (Wire.split l)) w)) := by
  have hs := str_size l
  have HX := Lib.hid (fun (k : Nat) (h : k < l.length) (w : World) => index_str hB h w)
  have HT := Lib.hid (fun (k : Nat) (h : k ≤ l.length) (w : World) => slice_to (l := l) h w)
  have HF := Lib.hid (fun (k : Nat) (h : k ≤ l.length) (w : World) => slice_from (l := l) h w)
  generalize str l = s at *
  go_enter Tryd.func41, Tryd.ntmps41
  go_wp2
  go_loopw [5, 6, 10] (fun q0 q1 i wr => ∃ k : Nat, k ≤ l.length ∧ i = .int .i64 k ∧ wr = w ∧ Hid ((l.take k).all Wire.alC = true)) (fun _ _ i _ => l.length - (intOf i).toNat)
  case atStart => exact ⟨0, by omega, rfl, rfl, Lib.hid rfl⟩
  case round =>
    obtain ⟨k, hk, rfl, hw, HA⟩ := hrel
    subst wr
    by_cases hlt : k < l.length
    · have hx := HX.out k hlt w
      have HC := Lib.hid (show (l.take (k + 1)).all Wire.alC = Wire.alC l[k] by rw [List.take_add_one, List.getElem?_eq_getElem hlt, List.all_append, HA.out]; simp)
      have HN := Lib.hid (split_bad hlt HA.out)
      have HH := Lib.hid (split_here hlt HA.out)
      generalize hy : l[k] = c at *
      clear hy
      have HD := Lib.hid (show Wire.alC c = (decide (97 ≤ c ∧ c ≤ 122) || decide (65 ≤ c ∧ c ≤ 90) || decide (c = 45)) from rfl)
      by_cases c0 : c = 58
      · subst c0
        have HH := Lib.hid (HH.out rfl)
        by_cases k1 : 0 < k
        · by_cases k2 : k ≤ 32
          · by_cases k3 : k + 1 < l.length
            · have hx3 : (Instr.index 9 (.string s) (.int .i64 ((k : Int) + 1))).run Tryd.prog w = .ok (.int .u8 l[k + 1]) w := HX.out (k + 1) k3 w
              have HG := Lib.hid (show l[k + 1]? = some l[k + 1] from List.getElem?_eq_getElem k3)
              generalize l[k + 1] = d at *
              by_cases k4 : d = 32
              · subst k4
                have HZ := Lib.hid (show Wire.split l = some ((l.take k).map Wire.low, l.drop (k + 2)) by rw [HH.out, if_pos ⟨by omega, k2, HG.out⟩])
                have hx5 : ∀ w', (Instr.slice 9 (.string s) (some (.int .i64 ((k : Int) + 2))) none none).run Tryd.prog w' = .ok (.string (str (l.drop (k + 2)))) w' := fun w' => HF.out (k + 2) (by omega) w'
                have HX5 := Lib.hid hx5
                clear hx5
                go_wp2
                refine Canon.row [0, 1, 2, 4, 5, 6, 7, 3, 8, 9, 10] (by kernel_rfl) (by kernel_rfl) (by repeat (first | (with_reducible exact Safe.body) | (with_reducible apply Safe.then) | (with_reducible apply Safe.inBlock) | (dsimp +zetaDelta only))) ?_
                simp only [Canon.pick, Canon.wpPlan, List.getElem?_toArray, List.getElem?_cons_zero, List.getElem?_cons_succ]
                have hx4 := HT.out k (by omega) w.drew
                have hx5 := HX5.out w.drew
                go_wp2_with (go_at_call 44; refine Rets.use (smallW_c (l.take k) (hB.take k) (by rw [List.length_take]; omega) _) ?_; rintro v1 w1 ⟨rfl, hk1⟩)
                refine ⟨by rfl, trivial, ?_⟩
                go_wp2
                go_ret3
                exact ⟨by rw [HZ.out, List.map_take]; rfl, ((Keeps.refl _ w).drew).trans hk1 (fun _ _ h => h)⟩
              · have hb : (d == 32) = false := by simpa using k4
                have HZ := Lib.hid (show Wire.split l = none by rw [HH.out, if_neg]; rintro ⟨_, _, h⟩; rw [HG.out] at h; exact k4 (by simpa using h))
                clear k4
                go_wp2
                go_ret3
                exact ⟨by rw [HZ.out]; rfl, Keeps.refl _ _⟩
            · have HZ := Lib.hid (show Wire.split l = none by rw [HH.out, if_neg]; rintro ⟨_, _, h⟩; rw [List.getElem?_eq_none (by omega)] at h; cases h)
              go_wp2
              go_ret3
              exact ⟨by rw [HZ.out]; rfl, Keeps.refl _ _⟩
          · have HZ := Lib.hid (show Wire.split l = none by rw [HH.out, if_neg]; rintro ⟨_, h, _⟩; omega)
            go_wp2
            go_ret3
            exact ⟨by rw [HZ.out]; rfl, Keeps.refl _ _⟩
        · have HZ := Lib.hid (show Wire.split l = none by rw [HH.out, if_neg]; rintro ⟨h, _, _⟩; omega)
          go_wp2
          go_ret3
          exact ⟨by rw [HZ.out]; rfl, Keeps.refl _ _⟩
      · have hb58 : (c == 58) = false := by simpa using c0
        have HN := Lib.hid (HN.out c0)
        clear HH c0
        by_cases c1 : c < 97
        · by_cases c2 : c < 65
          · by_cases c3 : c = 45
            · subst c3
              have HC := Lib.hid (show (l.take (k + 1)).all Wire.alC = true by rw [HC.out, HD.out]; simp <;> omega)
              go_wp2
              go_roundw
              case rel => exact ⟨k + 1, by omega, by go_num, by trivial, HC⟩
              case measure => simp [intOf]; omega
            · have hb : (c != 45) = true := by simpa using c3
              have c4 := Lib.hid c3
              clear c3
              have HG := Lib.hid (show Wire.split l = none by apply HN.out; rw [HD.out]; have := c4.out; simp <;> omega)
              go_wp2
              go_ret3
              exact ⟨by rw [HG.out]; rfl, Keeps.refl _ _⟩
          · by_cases c3 : 90 < c
            · have hb : (c != 45) = true := by rw [bne_iff_ne]; omega
              have c4 := Lib.hid (show c ≠ 45 by omega)
              have HG := Lib.hid (show Wire.split l = none by apply HN.out; rw [HD.out]; have := c4.out; simp <;> omega)
              go_wp2
              go_ret3
              exact ⟨by rw [HG.out]; rfl, Keeps.refl _ _⟩
            · have HC := Lib.hid (show (l.take (k + 1)).all Wire.alC = true by rw [HC.out, HD.out]; simp <;> omega)
              go_wp2
              go_roundw
              case rel => exact ⟨k + 1, by omega, by go_num, by trivial, HC⟩
              case measure => simp [intOf]; omega
        · by_cases c2 : 122 < c
          · have c3 : ¬ c < 65 := by omega
            have c5 : 90 < c := by omega
            have hb : (c != 45) = true := by rw [bne_iff_ne]; omega
            have c4 := Lib.hid (show c ≠ 45 by omega)
            have HG := Lib.hid (show Wire.split l = none by apply HN.out; rw [HD.out]; have := c4.out; simp <;> omega)
            go_wp2
            go_ret3
            exact ⟨by rw [HG.out]; rfl, Keeps.refl _ _⟩
          · have HC := Lib.hid (show (l.take (k + 1)).all Wire.alC = true by rw [HC.out, HD.out]; simp <;> omega)
            go_wp2
            go_roundw
            case rel => exact ⟨k + 1, by omega, by go_num, by trivial, HC⟩
            case measure => simp [intOf]; omega
    · obtain rfl : k = l.length := by omega
      have HZ := Lib.hid (show Wire.split l = none from split_end (by have := HA.out; rwa [List.take_length] at this))
      go_wp2
      go_ret3
      exact ⟨by rw [HZ.out]; rfl, Keeps.refl _ _⟩
end Go.Proofs.YtibegbmehpggbaaDoor
