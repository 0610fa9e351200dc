/-
  The document's reader of requests: a head in memory; the first line.
-/
import Derived.Test.YtibegbmehpggbaaWireF
namespace Go.Proofs.Ytibegbmehpggbaa
open Go.RowKit Go.Canon Go.Mem
set_option linter.unusedVariables false
set_option linter.unusedSimpArgs false
def hcells (r : Wire.S) : List Value := [.string (str r.x.method), .string (str r.x.target), .string (str r.x.token), .slice none 0 0, .bool r.sa, .bool r.sl, .bool r.se, .int .i64 r.left]
/-- A head in memory. -/
def HIs (w : World) (g : Nat) (r : Wire.S) : Prop := w.heap[g]? = some (.cells (hcells r).toArray 77 (0, 0))
/-- What a line of a head answers. -/
def HStep (w : World) (g : Nat) (p : Int × Wire.S) : Value → World → Prop := fun v w' => v = .int .i64 p.1 ∧ (p.1 = 0 → HIs w' g p.2) ∧ Keeps (fun k => k = g) w w'
theorem tgt_no {b : List Int} (h : b = [] ∨ 64 < b.length) : Wire.target b = false := by
  unfold Wire.target
  rcases h with h | h
  · rw [h]; rfl
  · rw [decide_eq_false (by omega : ¬ b.length ≤ 64)]; simp
theorem tgt_at {b : List Int} (h : 0 < b.length) (h2 : b.length ≤ 64) : Wire.target b = (decide (b[0] = 47) && b.all Wire.tarC) := by
  unfold Wire.target
  have e : (b[0]? = some 47) = (b[0] = 47) := by rw [List.getElem?_eq_getElem h]; simp
  rw [decide_eq_true h2]
  simp only [e, Bool.and_true]
set_option maxHeartbeats 6400000 in
set_option maxRecDepth 100000 in
theorem rfirst_c {w : World} {g : Nat} {s : Wire.S} (h : HIs w g s) (l : List Int) (hB : IsB l) (hl : l.length ≤ 1000000) : Calls Try.prog 35 #[.pointer (some ⟨g, 0, none⟩), .string (str l)] w (Rets (HStep w g (Wire.first s l))) := by
  have HP := Lib.hid h
  clear h
  by_cases h3 : (splitF 32 l).length = 3
  · obtain ⟨a, b, c, he⟩ := three_of h3
    have HF := Lib.hid (show fieldsF 32 l 3 = ([a, b, c], true) by unfold fieldsF; rw [if_neg (by omega), he])
    have HQ0 := Lib.hid (show Wire.first s l = if c = Wire.http11 ∧ Wire.verb a = true ∧ Wire.target b = true then (0, { s with x := { s.x with method := a, target := b } }) else (4, s) by unfold Wire.first; rw [he])
    have hby := split_byte 32 hB
    rw [he] at hby
    have hsh := split_short 32 l
    rw [he] at hsh
    have hBa : IsB a := hby a (by simp)
    have hBb : IsB b := hby b (by simp)
    have hBc : IsB c := hby c (by simp)
    have hlb : b.length ≤ 1000000 := Nat.le_trans (hsh b (by simp)) hl
    have hbs := str_size b
    have HX := Lib.hid (fun (k : Nat) (h : k < b.length) (w : World) => index_str hBb h w)
    have t1 := is_http11 hBc
    have t2 := is_get hBa
    have t3 := is_put hBa
    have t4 := is_post hBa
    have HV := Lib.hid (show Wire.verb a = (decide (a = [71, 69, 84]) || decide (a = [80, 85, 84]) || decide (a = [80, 79, 83, 84])) from rfl)
    clear he h3 hby hsh hBa hBc hBb
    by_cases hc : c = Wire.http11
    · rw [decide_eq_true hc] at t1
      by_cases v1 : a = [71, 69, 84]
      · rw [decide_eq_true v1] at t2
        have HV := Lib.hid (show Wire.verb a = true by rw [HV.out, decide_eq_true v1]; rfl)
        have HC := Lib.hid hc
        clear hc v1 t3 t4
        by_cases hb0 : b = []
        · have HQ := Lib.hid (show Wire.first s l = (4, s) by rw [HQ0.out, if_neg (fun h => by rw [tgt_no (.inl hb0)] at h; exact Bool.noConfusion h.2.2)])
          have hbz : (str b).size = 0 := by rw [hbs, hb0]; rfl
          clear HQ0 hb0 hbs
          go_enter Try.func35, Try.ntmps35
          go_wp2_with (go_at_call 47; refine Rets.use (rfields_c l hB hl 32 3 _) ?_; rintro v1 w1 ⟨hk1, u, hv, hO⟩; rw [HF.out] at hv hO; subst hv; have hO : OwnRow w1 (fun k => w.heap.size ≤ k) 9 1 u 3 (strs [a, b, c]) := hO; obtain ⟨q, cc, cur, rfl, _⟩ := hO.form (by decide); have k0 : w1.cell? ⟨q, 0, none⟩ = some (.string (str a)) := hO.cells rfl 0 _ rfl; have k1 : w1.cell? ⟨q, 1, none⟩ = some (.string (str b)) := hO.cells rfl 1 _ rfl; have k2 : w1.cell? ⟨q, 2, none⟩ = some (.string (str c)) := hO.cells rfl 2 _ rfl; clear hO)
          go_ret
          rw [HQ.out]
          exact ⟨rfl, fun h => (by cases h), hk1.mono (fun _ _ h => h.elim)⟩
        · have hbp : 0 < b.length := by cases b with | nil => exact (hb0 rfl).elim | cons => simp
          by_cases hb64 : 64 < b.length
          · have HQ := Lib.hid (show Wire.first s l = (4, s) by rw [HQ0.out, if_neg (fun h => by rw [tgt_no (.inr hb64)] at h; exact Bool.noConfusion h.2.2)])
            clear HQ0 hb0
            go_enter Try.func35, Try.ntmps35
            go_wp2_with (go_at_call 47; refine Rets.use (rfields_c l hB hl 32 3 _) ?_; rintro v1 w1 ⟨hk1, u, hv, hO⟩; rw [HF.out] at hv hO; subst hv; have hO : OwnRow w1 (fun k => w.heap.size ≤ k) 9 1 u 3 (strs [a, b, c]) := hO; obtain ⟨q, cc, cur, rfl, _⟩ := hO.form (by decide); have k0 : w1.cell? ⟨q, 0, none⟩ = some (.string (str a)) := hO.cells rfl 0 _ rfl; have k1 : w1.cell? ⟨q, 1, none⟩ = some (.string (str b)) := hO.cells rfl 1 _ rfl; have k2 : w1.cell? ⟨q, 2, none⟩ = some (.string (str c)) := hO.cells rfl 2 _ rfl; clear hO)
            go_ret
            rw [HQ.out]
            exact ⟨rfl, fun h => (by cases h), hk1.mono (fun _ _ h => h.elim)⟩
          · have HT := Lib.hid (tgt_at hbp (by omega))
            have hx0 : ∀ w', (Instr.index 9 (.string (str b)) (.int .i64 0)).run Try.prog w' = .ok (.int .u8 b[0]) w' := fun w' => HX.out 0 hbp w'
            generalize b[0] = y at *
            by_cases h47 : y = 47
            · subst h47
              have HT := Lib.hid (show Wire.target b = b.all Wire.tarC by rw [HT.out]; simp)
              clear hb0
              go_enter Try.func35, Try.ntmps35
              go_wp2_with (go_at_call 47; refine Rets.use (rfields_c l hB hl 32 3 _) ?_; rintro v1 w1 ⟨hk1, u, hv, hO⟩; rw [HF.out] at hv hO; subst hv; have hO : OwnRow w1 (fun k => w.heap.size ≤ k) 9 1 u 3 (strs [a, b, c]) := hO; obtain ⟨q, cc, cur, rfl, _⟩ := hO.form (by decide); have k0 : w1.cell? ⟨q, 0, none⟩ = some (.string (str a)) := hO.cells rfl 0 _ rfl; have k1 : w1.cell? ⟨q, 1, none⟩ = some (.string (str b)) := hO.cells rfl 1 _ rfl; have k2 : w1.cell? ⟨q, 2, none⟩ = some (.string (str c)) := hO.cells rfl 2 _ rfl; clear hO)
              go_loopw [7, 8, 9, 10] (fun i q0 q1 q2 wr => ∃ k : Nat, k ≤ b.length ∧ i = .int .i64 k ∧ wr = w1 ∧ Hid ((b.take k).all Wire.tarC = true)) (fun i _ _ _ _ => b.length - (intOf i).toNat)
              case atStart => exact ⟨0, by omega, rfl, rfl, Lib.hid rfl⟩
              case round =>
                obtain ⟨k, hk, rfl, hw, HA⟩ := hrel
                subst wr
                by_cases hlt : k < b.length
                · have hx := HX.out k hlt w1
                  have HC := Lib.hid (show (b.take (k + 1)).all Wire.tarC = Wire.tarC b[k] by rw [List.take_add_one, List.getElem?_eq_getElem hlt, List.all_append, HA.out]; simp)
                  have HN := Lib.hid (fun h : Wire.tarC b[k] = false => show b.all Wire.tarC = false from List.all_eq_false.2 ⟨b[k], List.getElem_mem _, by simp [h]⟩)
                  generalize b[k] = z at *
                  have HD := Lib.hid (show Wire.tarC z = (decide (97 ≤ z ∧ z ≤ 122) || decide (48 ≤ z ∧ z ≤ 57) || decide (z = 45) || decide (z = 47)) from rfl)
                  by_cases c1 : z < 97
                  · by_cases c2 : z < 48
                    · by_cases c3 : z = 45
                      · subst c3
                        have HC := Lib.hid (show (b.take (k + 1)).all Wire.tarC = true by rw [HC.out, HD.out]; simp <;> omega)
                        go_wp2
                        go_roundw
                        case rel => exact ⟨k + 1, by omega, by go_num, by trivial, HC⟩
                        case measure => simp [intOf]; omega
                      · by_cases c5 : z = 47
                        · subst c5
                          have HC := Lib.hid (show (b.take (k + 1)).all Wire.tarC = true by rw [HC.out, HD.out]; simp <;> omega)
                          go_wp2
                          go_roundw
                          case rel => exact ⟨k + 1, by omega, by go_num, by trivial, HC⟩
                          case measure => simp [intOf]; omega
                        · have hb : (z != 45) = true := by simpa using c3
                          have hb2 : (z != 47) = true := by simpa using c5
                          have c4 := Lib.hid (And.intro c3 c5)
                          clear c3 c5
                          have HG := Lib.hid (show b.all Wire.tarC = false by apply HN.out; rw [HD.out]; have := c4.out; simp <;> omega)
                          have HQ := Lib.hid (show Wire.first s l = (4, s) by rw [HQ0.out, if_neg (fun h => by rw [HT.out, HG.out] at h; exact Bool.noConfusion h.2.2)])
                          clear HQ0
                          go_wp2
                          go_ret
                          rw [HQ.out]
                          exact ⟨rfl, fun h => (by cases h), hk1.mono (fun _ _ h => h.elim)⟩
                    · by_cases c3 : 57 < z
                      · have hb : (z != 45) = true := by rw [bne_iff_ne]; omega
                        have hb2 : (z != 47) = true := by rw [bne_iff_ne]; omega
                        have c4 := Lib.hid (show z ≠ 45 by omega)
                        have d1 : decide (z ≤ 57) = false := decide_eq_false (by omega)
                        have HG := Lib.hid (show b.all Wire.tarC = false by apply HN.out; rw [HD.out]; have := c4.out; simp <;> omega)
                        have HQ := Lib.hid (show Wire.first s l = (4, s) by rw [HQ0.out, if_neg (fun h => by rw [HT.out, HG.out] at h; exact Bool.noConfusion h.2.2)])
                        clear HQ0
                        go_wp2
                        go_ret
                        rw [HQ.out]
                        exact ⟨rfl, fun h => (by cases h), hk1.mono (fun _ _ h => h.elim)⟩
                      · have d1 : decide (z ≤ 57) = true := decide_eq_true (by omega)
                        have HC := Lib.hid (show (b.take (k + 1)).all Wire.tarC = true by rw [HC.out, HD.out]; simp <;> omega)
                        go_wp2
                        go_roundw
                        case rel => exact ⟨k + 1, by omega, by go_num, by trivial, HC⟩
                        case measure => simp [intOf]; omega
                  · by_cases c2 : 122 < z
                    · have c5 : 57 < z := by omega
                      have hb : (z != 45) = true := by rw [bne_iff_ne]; omega
                      have hb2 : (z != 47) = true := by rw [bne_iff_ne]; omega
                      have c4 := Lib.hid (show z ≠ 45 by omega)
                      have d1 : decide (z ≤ 57) = false := decide_eq_false (by omega)
                      have d2 : decide (z ≤ 122) = false := decide_eq_false (by omega)
                      have HG := Lib.hid (show b.all Wire.tarC = false by apply HN.out; rw [HD.out]; have := c4.out; simp <;> omega)
                      have HQ := Lib.hid (show Wire.first s l = (4, s) by rw [HQ0.out, if_neg (fun h => by rw [HT.out, HG.out] at h; exact Bool.noConfusion h.2.2)])
                      clear HQ0
                      go_wp2
                      go_ret
                      rw [HQ.out]
                      exact ⟨rfl, fun h => (by cases h), hk1.mono (fun _ _ h => h.elim)⟩
                    · have d2 : decide (z ≤ 122) = true := decide_eq_true (by omega)
                      have d1 : decide (z ≤ 57) = false := decide_eq_false (by omega)
                      have HC := Lib.hid (show (b.take (k + 1)).all Wire.tarC = true by rw [HC.out, HD.out]; simp <;> omega)
                      go_wp2
                      go_roundw
                      case rel => exact ⟨k + 1, by omega, by go_num, by trivial, HC⟩
                      case measure => simp [intOf]; omega
                · obtain rfl : k = b.length := by omega
                  have HQ := Lib.hid (show Wire.first s l = (0, { s with x := { s.x with method := a, target := b } }) by rw [HQ0.out, if_pos ⟨HC.out, HV.out, by rw [HT.out]; have := HA.out; rwa [List.take_length] at this⟩])
                  clear HQ0
                  go_wp2
                  refine Canon.row [0, 1, 2, 3, 5, 6, 4, 7, 8, 9, 10, 11, 12, 13, 14, 15] (by kernel_rfl) (by kernel_rfl) (by repeat (first | (with_reducible exact Safe.body) | (with_reducible apply Safe.then) | (with_reducible apply Safe.inBlock) | (dsimp +zetaDelta only))) ?_
                  simp only [Canon.pick, Canon.wpPlan, List.getElem?_toArray, List.getElem?_cons_zero, List.getElem?_cons_succ]
                  have KD : Keeps (fun _ => False) w1 w1.drew := (Keeps.refl _ w1).drew
                  have k0 := KD.cell k0 (fun h => h)
                  have k1 := KD.cell k1 (fun h => h)
                  have HB1 := Lib.hid (KD.heap (hk1.heap HP.out (fun h => h)) (fun h => h))
                  go_wp2_with (first
                    | ((with_reducible refine at_store 9 (.tmp 113) (.tmp 107) rfl ?_); go_must (refine step_store1 rfl _ _ _ rfl g 0 (.string (str a)) _ _ rfl rfl rfl HB1.out (by simp [hcells]) info_strW ?_); intro w3 hb3 hk3 hs3)
                    | ((with_reducible refine at_store 9 (.tmp 116) (.tmp 110) rfl ?_); go_must (refine step_store1 rfl _ _ _ rfl g 1 (.string (str b)) _ _ rfl rfl rfl hb3 (by simp [hcells]) info_strW ?_); intro w4 hb4 hk4 hs4))
                  refine ⟨by rfl, trivial, ?_⟩
                  go_wp2
                  go_ret
                  rw [HQ.out]
                  exact ⟨rfl, fun _ => hb4, (((hk1.trans KD (fun _ _ h => h)).mono (fun _ _ h => h.elim)).trans hk3 (fun _ _ h => h)).trans hk4 (fun _ _ h => h)⟩
            · have hy : (y != 47) = true := by simpa using h47
              have HQ := Lib.hid (show Wire.first s l = (4, s) by rw [HQ0.out, if_neg (fun h => by rw [HT.out, decide_eq_false h47] at h; exact Bool.noConfusion h.2.2)])
              clear HQ0 hb0 h47
              go_enter Try.func35, Try.ntmps35
              go_wp2_with (go_at_call 47; refine Rets.use (rfields_c l hB hl 32 3 _) ?_; rintro v1 w1 ⟨hk1, u, hv, hO⟩; rw [HF.out] at hv hO; subst hv; have hO : OwnRow w1 (fun k => w.heap.size ≤ k) 9 1 u 3 (strs [a, b, c]) := hO; obtain ⟨q, cc, cur, rfl, _⟩ := hO.form (by decide); have k0 : w1.cell? ⟨q, 0, none⟩ = some (.string (str a)) := hO.cells rfl 0 _ rfl; have k1 : w1.cell? ⟨q, 1, none⟩ = some (.string (str b)) := hO.cells rfl 1 _ rfl; have k2 : w1.cell? ⟨q, 2, none⟩ = some (.string (str c)) := hO.cells rfl 2 _ rfl; clear hO)
              go_ret
              rw [HQ.out]
              exact ⟨rfl, fun h => (by cases h), hk1.mono (fun _ _ h => h.elim)⟩
      · rw [decide_eq_false v1] at t2
        by_cases v2 : a = [80, 85, 84]
        · rw [decide_eq_true v2] at t3
          rw [decide_eq_false (by rw [v2]; decide)] at t4
          have HV := Lib.hid (show Wire.verb a = true by rw [HV.out, decide_eq_true v2]; simp)
          have HC := Lib.hid hc
          clear hc v1 v2
          by_cases hb0 : b = []
          · have HQ := Lib.hid (show Wire.first s l = (4, s) by rw [HQ0.out, if_neg (fun h => by rw [tgt_no (.inl hb0)] at h; exact Bool.noConfusion h.2.2)])
            have hbz : (str b).size = 0 := by rw [hbs, hb0]; rfl
            clear HQ0 hb0 hbs
            go_enter Try.func35, Try.ntmps35
            go_wp2_with (go_at_call 47; refine Rets.use (rfields_c l hB hl 32 3 _) ?_; rintro v1 w1 ⟨hk1, u, hv, hO⟩; rw [HF.out] at hv hO; subst hv; have hO : OwnRow w1 (fun k => w.heap.size ≤ k) 9 1 u 3 (strs [a, b, c]) := hO; obtain ⟨q, cc, cur, rfl, _⟩ := hO.form (by decide); have k0 : w1.cell? ⟨q, 0, none⟩ = some (.string (str a)) := hO.cells rfl 0 _ rfl; have k1 : w1.cell? ⟨q, 1, none⟩ = some (.string (str b)) := hO.cells rfl 1 _ rfl; have k2 : w1.cell? ⟨q, 2, none⟩ = some (.string (str c)) := hO.cells rfl 2 _ rfl; clear hO)
            go_ret
            rw [HQ.out]
            exact ⟨rfl, fun h => (by cases h), hk1.mono (fun _ _ h => h.elim)⟩
          · have hbp : 0 < b.length := by cases b with | nil => exact (hb0 rfl).elim | cons => simp
            by_cases hb64 : 64 < b.length
            · have HQ := Lib.hid (show Wire.first s l = (4, s) by rw [HQ0.out, if_neg (fun h => by rw [tgt_no (.inr hb64)] at h; exact Bool.noConfusion h.2.2)])
              clear HQ0 hb0
              go_enter Try.func35, Try.ntmps35
              go_wp2_with (go_at_call 47; refine Rets.use (rfields_c l hB hl 32 3 _) ?_; rintro v1 w1 ⟨hk1, u, hv, hO⟩; rw [HF.out] at hv hO; subst hv; have hO : OwnRow w1 (fun k => w.heap.size ≤ k) 9 1 u 3 (strs [a, b, c]) := hO; obtain ⟨q, cc, cur, rfl, _⟩ := hO.form (by decide); have k0 : w1.cell? ⟨q, 0, none⟩ = some (.string (str a)) := hO.cells rfl 0 _ rfl; have k1 : w1.cell? ⟨q, 1, none⟩ = some (.string (str b)) := hO.cells rfl 1 _ rfl; have k2 : w1.cell? ⟨q, 2, none⟩ = some (.string (str c)) := hO.cells rfl 2 _ rfl; clear hO)
              go_ret
              rw [HQ.out]
              exact ⟨rfl, fun h => (by cases h), hk1.mono (fun _ _ h => h.elim)⟩
            · have HT := Lib.hid (tgt_at hbp (by omega))
              have hx0 : ∀ w', (Instr.index 9 (.string (str b)) (.int .i64 0)).run Try.prog w' = .ok (.int .u8 b[0]) w' := fun w' => HX.out 0 hbp w'
              generalize b[0] = y at *
              by_cases h47 : y = 47
              · subst h47
                have HT := Lib.hid (show Wire.target b = b.all Wire.tarC by rw [HT.out]; simp)
                clear hb0
                go_enter Try.func35, Try.ntmps35
                go_wp2_with (go_at_call 47; refine Rets.use (rfields_c l hB hl 32 3 _) ?_; rintro v1 w1 ⟨hk1, u, hv, hO⟩; rw [HF.out] at hv hO; subst hv; have hO : OwnRow w1 (fun k => w.heap.size ≤ k) 9 1 u 3 (strs [a, b, c]) := hO; obtain ⟨q, cc, cur, rfl, _⟩ := hO.form (by decide); have k0 : w1.cell? ⟨q, 0, none⟩ = some (.string (str a)) := hO.cells rfl 0 _ rfl; have k1 : w1.cell? ⟨q, 1, none⟩ = some (.string (str b)) := hO.cells rfl 1 _ rfl; have k2 : w1.cell? ⟨q, 2, none⟩ = some (.string (str c)) := hO.cells rfl 2 _ rfl; clear hO)
                go_loopw [7, 8, 9, 10] (fun i q0 q1 q2 wr => ∃ k : Nat, k ≤ b.length ∧ i = .int .i64 k ∧ wr = w1 ∧ Hid ((b.take k).all Wire.tarC = true)) (fun i _ _ _ _ => b.length - (intOf i).toNat)
                case atStart => exact ⟨0, by omega, rfl, rfl, Lib.hid rfl⟩
                case round =>
                  obtain ⟨k, hk, rfl, hw, HA⟩ := hrel
                  subst wr
                  by_cases hlt : k < b.length
                  · have hx := HX.out k hlt w1
                    have HC := Lib.hid (show (b.take (k + 1)).all Wire.tarC = Wire.tarC b[k] by rw [List.take_add_one, List.getElem?_eq_getElem hlt, List.all_append, HA.out]; simp)
                    have HN := Lib.hid (fun h : Wire.tarC b[k] = false => show b.all Wire.tarC = false from List.all_eq_false.2 ⟨b[k], List.getElem_mem _, by simp [h]⟩)
                    generalize b[k] = z at *
                    have HD := Lib.hid (show Wire.tarC z = (decide (97 ≤ z ∧ z ≤ 122) || decide (48 ≤ z ∧ z ≤ 57) || decide (z = 45) || decide (z = 47)) from rfl)
                    by_cases c1 : z < 97
                    · by_cases c2 : z < 48
                      · by_cases c3 : z = 45
                        · subst c3
                          have HC := Lib.hid (show (b.take (k + 1)).all Wire.tarC = true by rw [HC.out, HD.out]; simp <;> omega)
                          go_wp2
                          go_roundw
                          case rel => exact ⟨k + 1, by omega, by go_num, by trivial, HC⟩
                          case measure => simp [intOf]; omega
                        · by_cases c5 : z = 47
                          · subst c5
                            have HC := Lib.hid (show (b.take (k + 1)).all Wire.tarC = true by rw [HC.out, HD.out]; simp <;> omega)
                            go_wp2
                            go_roundw
                            case rel => exact ⟨k + 1, by omega, by go_num, by trivial, HC⟩
                            case measure => simp [intOf]; omega
                          · have hb : (z != 45) = true := by simpa using c3
                            have hb2 : (z != 47) = true := by simpa using c5
                            have c4 := Lib.hid (And.intro c3 c5)
                            clear c3 c5
                            have HG := Lib.hid (show b.all Wire.tarC = false by apply HN.out; rw [HD.out]; have := c4.out; simp <;> omega)
                            have HQ := Lib.hid (show Wire.first s l = (4, s) by rw [HQ0.out, if_neg (fun h => by rw [HT.out, HG.out] at h; exact Bool.noConfusion h.2.2)])
                            clear HQ0
                            go_wp2
                            go_ret
                            rw [HQ.out]
                            exact ⟨rfl, fun h => (by cases h), hk1.mono (fun _ _ h => h.elim)⟩
                      · by_cases c3 : 57 < z
                        · have hb : (z != 45) = true := by rw [bne_iff_ne]; omega
                          have hb2 : (z != 47) = true := by rw [bne_iff_ne]; omega
                          have c4 := Lib.hid (show z ≠ 45 by omega)
                          have d1 : decide (z ≤ 57) = false := decide_eq_false (by omega)
                          have HG := Lib.hid (show b.all Wire.tarC = false by apply HN.out; rw [HD.out]; have := c4.out; simp <;> omega)
                          have HQ := Lib.hid (show Wire.first s l = (4, s) by rw [HQ0.out, if_neg (fun h => by rw [HT.out, HG.out] at h; exact Bool.noConfusion h.2.2)])
                          clear HQ0
                          go_wp2
                          go_ret
                          rw [HQ.out]
                          exact ⟨rfl, fun h => (by cases h), hk1.mono (fun _ _ h => h.elim)⟩
                        · have d1 : decide (z ≤ 57) = true := decide_eq_true (by omega)
                          have HC := Lib.hid (show (b.take (k + 1)).all Wire.tarC = true by rw [HC.out, HD.out]; simp <;> omega)
                          go_wp2
                          go_roundw
                          case rel => exact ⟨k + 1, by omega, by go_num, by trivial, HC⟩
                          case measure => simp [intOf]; omega
                    · by_cases c2 : 122 < z
                      · have c5 : 57 < z := by omega
                        have hb : (z != 45) = true := by rw [bne_iff_ne]; omega
                        have hb2 : (z != 47) = true := by rw [bne_iff_ne]; omega
                        have c4 := Lib.hid (show z ≠ 45 by omega)
                        have d1 : decide (z ≤ 57) = false := decide_eq_false (by omega)
                        have d2 : decide (z ≤ 122) = false := decide_eq_false (by omega)
                        have HG := Lib.hid (show b.all Wire.tarC = false by apply HN.out; rw [HD.out]; have := c4.out; simp <;> omega)
                        have HQ := Lib.hid (show Wire.first s l = (4, s) by rw [HQ0.out, if_neg (fun h => by rw [HT.out, HG.out] at h; exact Bool.noConfusion h.2.2)])
                        clear HQ0
                        go_wp2
                        go_ret
                        rw [HQ.out]
                        exact ⟨rfl, fun h => (by cases h), hk1.mono (fun _ _ h => h.elim)⟩
                      · have d2 : decide (z ≤ 122) = true := decide_eq_true (by omega)
                        have d1 : decide (z ≤ 57) = false := decide_eq_false (by omega)
                        have HC := Lib.hid (show (b.take (k + 1)).all Wire.tarC = true by rw [HC.out, HD.out]; simp <;> omega)
                        go_wp2
                        go_roundw
                        case rel => exact ⟨k + 1, by omega, by go_num, by trivial, HC⟩
                        case measure => simp [intOf]; omega
                  · obtain rfl : k = b.length := by omega
                    have HQ := Lib.hid (show Wire.first s l = (0, { s with x := { s.x with method := a, target := b } }) by rw [HQ0.out, if_pos ⟨HC.out, HV.out, by rw [HT.out]; have := HA.out; rwa [List.take_length] at this⟩])
                    clear HQ0
                    go_wp2
                    refine Canon.row [0, 1, 2, 3, 5, 6, 4, 7, 8, 9, 10, 11, 12, 13, 14, 15] (by kernel_rfl) (by kernel_rfl) (by repeat (first | (with_reducible exact Safe.body) | (with_reducible apply Safe.then) | (with_reducible apply Safe.inBlock) | (dsimp +zetaDelta only))) ?_
                    simp only [Canon.pick, Canon.wpPlan, List.getElem?_toArray, List.getElem?_cons_zero, List.getElem?_cons_succ]
                    have KD : Keeps (fun _ => False) w1 w1.drew := (Keeps.refl _ w1).drew
                    have k0 := KD.cell k0 (fun h => h)
                    have k1 := KD.cell k1 (fun h => h)
                    have HB1 := Lib.hid (KD.heap (hk1.heap HP.out (fun h => h)) (fun h => h))
                    go_wp2_with (first
                      | ((with_reducible refine at_store 9 (.tmp 113) (.tmp 107) rfl ?_); go_must (refine step_store1 rfl _ _ _ rfl g 0 (.string (str a)) _ _ rfl rfl rfl HB1.out (by simp [hcells]) info_strW ?_); intro w3 hb3 hk3 hs3)
                      | ((with_reducible refine at_store 9 (.tmp 116) (.tmp 110) rfl ?_); go_must (refine step_store1 rfl _ _ _ rfl g 1 (.string (str b)) _ _ rfl rfl rfl hb3 (by simp [hcells]) info_strW ?_); intro w4 hb4 hk4 hs4))
                    refine ⟨by rfl, trivial, ?_⟩
                    go_wp2
                    go_ret
                    rw [HQ.out]
                    exact ⟨rfl, fun _ => hb4, (((hk1.trans KD (fun _ _ h => h)).mono (fun _ _ h => h.elim)).trans hk3 (fun _ _ h => h)).trans hk4 (fun _ _ h => h)⟩
              · have hy : (y != 47) = true := by simpa using h47
                have HQ := Lib.hid (show Wire.first s l = (4, s) by rw [HQ0.out, if_neg (fun h => by rw [HT.out, decide_eq_false h47] at h; exact Bool.noConfusion h.2.2)])
                clear HQ0 hb0 h47
                go_enter Try.func35, Try.ntmps35
                go_wp2_with (go_at_call 47; refine Rets.use (rfields_c l hB hl 32 3 _) ?_; rintro v1 w1 ⟨hk1, u, hv, hO⟩; rw [HF.out] at hv hO; subst hv; have hO : OwnRow w1 (fun k => w.heap.size ≤ k) 9 1 u 3 (strs [a, b, c]) := hO; obtain ⟨q, cc, cur, rfl, _⟩ := hO.form (by decide); have k0 : w1.cell? ⟨q, 0, none⟩ = some (.string (str a)) := hO.cells rfl 0 _ rfl; have k1 : w1.cell? ⟨q, 1, none⟩ = some (.string (str b)) := hO.cells rfl 1 _ rfl; have k2 : w1.cell? ⟨q, 2, none⟩ = some (.string (str c)) := hO.cells rfl 2 _ rfl; clear hO)
                go_ret
                rw [HQ.out]
                exact ⟨rfl, fun h => (by cases h), hk1.mono (fun _ _ h => h.elim)⟩
        · rw [decide_eq_false v2] at t3
          by_cases v3 : a = [80, 79, 83, 84]
          · rw [decide_eq_true v3] at t4
            have HV := Lib.hid (show Wire.verb a = true by rw [HV.out, decide_eq_true v3]; simp)
            have HC := Lib.hid hc
            clear hc v1 v2 v3
            by_cases hb0 : b = []
            · have HQ := Lib.hid (show Wire.first s l = (4, s) by rw [HQ0.out, if_neg (fun h => by rw [tgt_no (.inl hb0)] at h; exact Bool.noConfusion h.2.2)])
              have hbz : (str b).size = 0 := by rw [hbs, hb0]; rfl
              clear HQ0 hb0 hbs
              go_enter Try.func35, Try.ntmps35
              go_wp2_with (go_at_call 47; refine Rets.use (rfields_c l hB hl 32 3 _) ?_; rintro v1 w1 ⟨hk1, u, hv, hO⟩; rw [HF.out] at hv hO; subst hv; have hO : OwnRow w1 (fun k => w.heap.size ≤ k) 9 1 u 3 (strs [a, b, c]) := hO; obtain ⟨q, cc, cur, rfl, _⟩ := hO.form (by decide); have k0 : w1.cell? ⟨q, 0, none⟩ = some (.string (str a)) := hO.cells rfl 0 _ rfl; have k1 : w1.cell? ⟨q, 1, none⟩ = some (.string (str b)) := hO.cells rfl 1 _ rfl; have k2 : w1.cell? ⟨q, 2, none⟩ = some (.string (str c)) := hO.cells rfl 2 _ rfl; clear hO)
              go_ret
              rw [HQ.out]
              exact ⟨rfl, fun h => (by cases h), hk1.mono (fun _ _ h => h.elim)⟩
            · have hbp : 0 < b.length := by cases b with | nil => exact (hb0 rfl).elim | cons => simp
              by_cases hb64 : 64 < b.length
              · have HQ := Lib.hid (show Wire.first s l = (4, s) by rw [HQ0.out, if_neg (fun h => by rw [tgt_no (.inr hb64)] at h; exact Bool.noConfusion h.2.2)])
                clear HQ0 hb0
                go_enter Try.func35, Try.ntmps35
                go_wp2_with (go_at_call 47; refine Rets.use (rfields_c l hB hl 32 3 _) ?_; rintro v1 w1 ⟨hk1, u, hv, hO⟩; rw [HF.out] at hv hO; subst hv; have hO : OwnRow w1 (fun k => w.heap.size ≤ k) 9 1 u 3 (strs [a, b, c]) := hO; obtain ⟨q, cc, cur, rfl, _⟩ := hO.form (by decide); have k0 : w1.cell? ⟨q, 0, none⟩ = some (.string (str a)) := hO.cells rfl 0 _ rfl; have k1 : w1.cell? ⟨q, 1, none⟩ = some (.string (str b)) := hO.cells rfl 1 _ rfl; have k2 : w1.cell? ⟨q, 2, none⟩ = some (.string (str c)) := hO.cells rfl 2 _ rfl; clear hO)
                go_ret
                rw [HQ.out]
                exact ⟨rfl, fun h => (by cases h), hk1.mono (fun _ _ h => h.elim)⟩
              · have HT := Lib.hid (tgt_at hbp (by omega))
                have hx0 : ∀ w', (Instr.index 9 (.string (str b)) (.int .i64 0)).run Try.prog w' = .ok (.int .u8 b[0]) w' := fun w' => HX.out 0 hbp w'
                generalize b[0] = y at *
                by_cases h47 : y = 47
                · subst h47
                  have HT := Lib.hid (show Wire.target b = b.all Wire.tarC by rw [HT.out]; simp)
                  clear hb0
                  go_enter Try.func35, Try.ntmps35
                  go_wp2_with (go_at_call 47; refine Rets.use (rfields_c l hB hl 32 3 _) ?_; rintro v1 w1 ⟨hk1, u, hv, hO⟩; rw [HF.out] at hv hO; subst hv; have hO : OwnRow w1 (fun k => w.heap.size ≤ k) 9 1 u 3 (strs [a, b, c]) := hO; obtain ⟨q, cc, cur, rfl, _⟩ := hO.form (by decide); have k0 : w1.cell? ⟨q, 0, none⟩ = some (.string (str a)) := hO.cells rfl 0 _ rfl; have k1 : w1.cell? ⟨q, 1, none⟩ = some (.string (str b)) := hO.cells rfl 1 _ rfl; have k2 : w1.cell? ⟨q, 2, none⟩ = some (.string (str c)) := hO.cells rfl 2 _ rfl; clear hO)
                  go_loopw [7, 8, 9, 10] (fun i q0 q1 q2 wr => ∃ k : Nat, k ≤ b.length ∧ i = .int .i64 k ∧ wr = w1 ∧ Hid ((b.take k).all Wire.tarC = true)) (fun i _ _ _ _ => b.length - (intOf i).toNat)
                  case atStart => exact ⟨0, by omega, rfl, rfl, Lib.hid rfl⟩
                  case round =>
                    obtain ⟨k, hk, rfl, hw, HA⟩ := hrel
                    subst wr
                    by_cases hlt : k < b.length
                    · have hx := HX.out k hlt w1
                      have HC := Lib.hid (show (b.take (k + 1)).all Wire.tarC = Wire.tarC b[k] by rw [List.take_add_one, List.getElem?_eq_getElem hlt, List.all_append, HA.out]; simp)
                      have HN := Lib.hid (fun h : Wire.tarC b[k] = false => show b.all Wire.tarC = false from List.all_eq_false.2 ⟨b[k], List.getElem_mem _, by simp [h]⟩)
                      generalize b[k] = z at *
                      have HD := Lib.hid (show Wire.tarC z = (decide (97 ≤ z ∧ z ≤ 122) || decide (48 ≤ z ∧ z ≤ 57) || decide (z = 45) || decide (z = 47)) from rfl)
                      by_cases c1 : z < 97
                      · by_cases c2 : z < 48
                        · by_cases c3 : z = 45
                          · subst c3
                            have HC := Lib.hid (show (b.take (k + 1)).all Wire.tarC = true by rw [HC.out, HD.out]; simp <;> omega)
                            go_wp2
                            go_roundw
                            case rel => exact ⟨k + 1, by omega, by go_num, by trivial, HC⟩
                            case measure => simp [intOf]; omega
                          · by_cases c5 : z = 47
                            · subst c5
                              have HC := Lib.hid (show (b.take (k + 1)).all Wire.tarC = true by rw [HC.out, HD.out]; simp <;> omega)
                              go_wp2
                              go_roundw
                              case rel => exact ⟨k + 1, by omega, by go_num, by trivial, HC⟩
                              case measure => simp [intOf]; omega
                            · have hb : (z != 45) = true := by simpa using c3
                              have hb2 : (z != 47) = true := by simpa using c5
                              have c4 := Lib.hid (And.intro c3 c5)
                              clear c3 c5
                              have HG := Lib.hid (show b.all Wire.tarC = false by apply HN.out; rw [HD.out]; have := c4.out; simp <;> omega)
                              have HQ := Lib.hid (show Wire.first s l = (4, s) by rw [HQ0.out, if_neg (fun h => by rw [HT.out, HG.out] at h; exact Bool.noConfusion h.2.2)])
                              clear HQ0
                              go_wp2
                              go_ret
                              rw [HQ.out]
                              exact ⟨rfl, fun h => (by cases h), hk1.mono (fun _ _ h => h.elim)⟩
                        · by_cases c3 : 57 < z
                          · have hb : (z != 45) = true := by rw [bne_iff_ne]; omega
                            have hb2 : (z != 47) = true := by rw [bne_iff_ne]; omega
                            have c4 := Lib.hid (show z ≠ 45 by omega)
                            have d1 : decide (z ≤ 57) = false := decide_eq_false (by omega)
                            have HG := Lib.hid (show b.all Wire.tarC = false by apply HN.out; rw [HD.out]; have := c4.out; simp <;> omega)
                            have HQ := Lib.hid (show Wire.first s l = (4, s) by rw [HQ0.out, if_neg (fun h => by rw [HT.out, HG.out] at h; exact Bool.noConfusion h.2.2)])
                            clear HQ0
                            go_wp2
                            go_ret
                            rw [HQ.out]
                            exact ⟨rfl, fun h => (by cases h), hk1.mono (fun _ _ h => h.elim)⟩
                          · have d1 : decide (z ≤ 57) = true := decide_eq_true (by omega)
                            have HC := Lib.hid (show (b.take (k + 1)).all Wire.tarC = true by rw [HC.out, HD.out]; simp <;> omega)
                            go_wp2
                            go_roundw
                            case rel => exact ⟨k + 1, by omega, by go_num, by trivial, HC⟩
                            case measure => simp [intOf]; omega
                      · by_cases c2 : 122 < z
                        · have c5 : 57 < z := by omega
                          have hb : (z != 45) = true := by rw [bne_iff_ne]; omega
                          have hb2 : (z != 47) = true := by rw [bne_iff_ne]; omega
                          have c4 := Lib.hid (show z ≠ 45 by omega)
                          have d1 : decide (z ≤ 57) = false := decide_eq_false (by omega)
                          have d2 : decide (z ≤ 122) = false := decide_eq_false (by omega)
                          have HG := Lib.hid (show b.all Wire.tarC = false by apply HN.out; rw [HD.out]; have := c4.out; simp <;> omega)
                          have HQ := Lib.hid (show Wire.first s l = (4, s) by rw [HQ0.out, if_neg (fun h => by rw [HT.out, HG.out] at h; exact Bool.noConfusion h.2.2)])
                          clear HQ0
                          go_wp2
                          go_ret
                          rw [HQ.out]
                          exact ⟨rfl, fun h => (by cases h), hk1.mono (fun _ _ h => h.elim)⟩
                        · have d2 : decide (z ≤ 122) = true := decide_eq_true (by omega)
                          have d1 : decide (z ≤ 57) = false := decide_eq_false (by omega)
                          have HC := Lib.hid (show (b.take (k + 1)).all Wire.tarC = true by rw [HC.out, HD.out]; simp <;> omega)
                          go_wp2
                          go_roundw
                          case rel => exact ⟨k + 1, by omega, by go_num, by trivial, HC⟩
                          case measure => simp [intOf]; omega
                    · obtain rfl : k = b.length := by omega
                      have HQ := Lib.hid (show Wire.first s l = (0, { s with x := { s.x with method := a, target := b } }) by rw [HQ0.out, if_pos ⟨HC.out, HV.out, by rw [HT.out]; have := HA.out; rwa [List.take_length] at this⟩])
                      clear HQ0
                      go_wp2
                      refine Canon.row [0, 1, 2, 3, 5, 6, 4, 7, 8, 9, 10, 11, 12, 13, 14, 15] (by kernel_rfl) (by kernel_rfl) (by repeat (first | (with_reducible exact Safe.body) | (with_reducible apply Safe.then) | (with_reducible apply Safe.inBlock) | (dsimp +zetaDelta only))) ?_
                      simp only [Canon.pick, Canon.wpPlan, List.getElem?_toArray, List.getElem?_cons_zero, List.getElem?_cons_succ]
                      have KD : Keeps (fun _ => False) w1 w1.drew := (Keeps.refl _ w1).drew
                      have k0 := KD.cell k0 (fun h => h)
                      have k1 := KD.cell k1 (fun h => h)
                      have HB1 := Lib.hid (KD.heap (hk1.heap HP.out (fun h => h)) (fun h => h))
                      go_wp2_with (first
                        | ((with_reducible refine at_store 9 (.tmp 113) (.tmp 107) rfl ?_); go_must (refine step_store1 rfl _ _ _ rfl g 0 (.string (str a)) _ _ rfl rfl rfl HB1.out (by simp [hcells]) info_strW ?_); intro w3 hb3 hk3 hs3)
                        | ((with_reducible refine at_store 9 (.tmp 116) (.tmp 110) rfl ?_); go_must (refine step_store1 rfl _ _ _ rfl g 1 (.string (str b)) _ _ rfl rfl rfl hb3 (by simp [hcells]) info_strW ?_); intro w4 hb4 hk4 hs4))
                      refine ⟨by rfl, trivial, ?_⟩
                      go_wp2
                      go_ret
                      rw [HQ.out]
                      exact ⟨rfl, fun _ => hb4, (((hk1.trans KD (fun _ _ h => h)).mono (fun _ _ h => h.elim)).trans hk3 (fun _ _ h => h)).trans hk4 (fun _ _ h => h)⟩
                · have hy : (y != 47) = true := by simpa using h47
                  have HQ := Lib.hid (show Wire.first s l = (4, s) by rw [HQ0.out, if_neg (fun h => by rw [HT.out, decide_eq_false h47] at h; exact Bool.noConfusion h.2.2)])
                  clear HQ0 hb0 h47
                  go_enter Try.func35, Try.ntmps35
                  go_wp2_with (go_at_call 47; refine Rets.use (rfields_c l hB hl 32 3 _) ?_; rintro v1 w1 ⟨hk1, u, hv, hO⟩; rw [HF.out] at hv hO; subst hv; have hO : OwnRow w1 (fun k => w.heap.size ≤ k) 9 1 u 3 (strs [a, b, c]) := hO; obtain ⟨q, cc, cur, rfl, _⟩ := hO.form (by decide); have k0 : w1.cell? ⟨q, 0, none⟩ = some (.string (str a)) := hO.cells rfl 0 _ rfl; have k1 : w1.cell? ⟨q, 1, none⟩ = some (.string (str b)) := hO.cells rfl 1 _ rfl; have k2 : w1.cell? ⟨q, 2, none⟩ = some (.string (str c)) := hO.cells rfl 2 _ rfl; clear hO)
                  go_ret
                  rw [HQ.out]
                  exact ⟨rfl, fun h => (by cases h), hk1.mono (fun _ _ h => h.elim)⟩
          · rw [decide_eq_false v3] at t4
            have HQ := Lib.hid (show Wire.first s l = (4, s) by rw [HQ0.out, if_neg]; rintro ⟨_, h, _⟩; rw [HV.out, decide_eq_false v1, decide_eq_false v2, decide_eq_false v3] at h; cases h)
            clear hc v1 v2 v3 HQ0
            go_enter Try.func35, Try.ntmps35
            go_wp2_with (go_at_call 47; refine Rets.use (rfields_c l hB hl 32 3 _) ?_; rintro v1 w1 ⟨hk1, u, hv, hO⟩; rw [HF.out] at hv hO; subst hv; have hO : OwnRow w1 (fun k => w.heap.size ≤ k) 9 1 u 3 (strs [a, b, c]) := hO; obtain ⟨q, cc, cur, rfl, _⟩ := hO.form (by decide); have k0 : w1.cell? ⟨q, 0, none⟩ = some (.string (str a)) := hO.cells rfl 0 _ rfl; have k1 : w1.cell? ⟨q, 1, none⟩ = some (.string (str b)) := hO.cells rfl 1 _ rfl; have k2 : w1.cell? ⟨q, 2, none⟩ = some (.string (str c)) := hO.cells rfl 2 _ rfl; clear hO)
            go_ret
            rw [HQ.out]
            exact ⟨rfl, fun h => (by cases h), hk1.mono (fun _ _ h => h.elim)⟩
    · rw [decide_eq_false hc] at t1
      have HQ := Lib.hid (show Wire.first s l = (4, s) by rw [HQ0.out, if_neg (fun h => hc h.1)])
      clear hc t2 t3 t4 HQ0
      go_enter Try.func35, Try.ntmps35
      go_wp2_with (go_at_call 47; refine Rets.use (rfields_c l hB hl 32 3 _) ?_; rintro v1 w1 ⟨hk1, u, hv, hO⟩; rw [HF.out] at hv hO; subst hv; have hO : OwnRow w1 (fun k => w.heap.size ≤ k) 9 1 u 3 (strs [a, b, c]) := hO; obtain ⟨q, cc, cur, rfl, _⟩ := hO.form (by decide); have k0 : w1.cell? ⟨q, 0, none⟩ = some (.string (str a)) := hO.cells rfl 0 _ rfl; have k1 : w1.cell? ⟨q, 1, none⟩ = some (.string (str b)) := hO.cells rfl 1 _ rfl; have k2 : w1.cell? ⟨q, 2, none⟩ = some (.string (str c)) := hO.cells rfl 2 _ rfl; clear hO)
      go_ret
      rw [HQ.out]
      exact ⟨rfl, fun h => (by cases h), hk1.mono (fun _ _ h => h.elim)⟩
  · have HQ := Lib.hid (first_short (r := s) h3)
    by_cases h4 : 3 < (splitF 32 l).length
    · have HF := Lib.hid (show fieldsF 32 l 3 = ([], false) by unfold fieldsF; rw [if_pos (by omega)])
      clear h3 h4
      go_enter Try.func35, Try.ntmps35
      go_wp2_with (go_at_call 47; refine Rets.use (rfields_c l hB hl 32 3 _) ?_; rintro v1 w1 ⟨hk1, u, hv, hO⟩; rw [HF.out] at hv hO; subst hv; have HO := Lib.hid hO; obtain ⟨A, cc, rfl, _⟩ := hO.slice; clear hO; (try simp only at *))
      go_ret
      rw [HQ.out]
      exact ⟨rfl, fun h => (by cases h), hk1.mono (fun _ _ h => h.elim)⟩
    · have HF := Lib.hid (show fieldsF 32 l 3 = (splitF 32 l, true) by unfold fieldsF; rw [if_neg (by omega)])
      generalize hps : splitF 32 l = ps at *
      have hb : ((ps.length : Int) != 3) = true := by rw [bne_iff_ne]; omega
      clear hps h3
      go_enter Try.func35, Try.ntmps35
      go_wp2_with (go_at_call 47; refine Rets.use (rfields_c l hB hl 32 3 _) ?_; rintro v1 w1 ⟨hk1, u, hv, hO⟩; rw [HF.out] at hv hO; subst hv; have HO := Lib.hid hO; obtain ⟨A, cc, rfl, _⟩ := hO.slice; clear hO; (try simp only at *))
      go_ret
      rw [HQ.out]
      exact ⟨rfl, fun h => (by cases h), hk1.mono (fun _ _ h => h.elim)⟩
end Go.Proofs.Ytibegbmehpggbaa
