/-
  Few; Cut of a text.
-/
import Derived.Test.YtbiohidelhfaiaaStT
import Derived.Test.YtbiohidelhfaiaaSmall
import Derived.Test.YtbiohidelhfaiaaArgs
namespace Go.Proofs.Ytbiohidelhfaiaa
open Go.RowKit Go.Canon Go.Mem Go.Args
open Go.Proofs.Ytbiohidelhfaiaa.Sto (Chg)
set_option linter.unusedVariables false
set_option linter.unusedSimpArgs false
theorem cut4_c (l : List Int) (n : Nat) (w : World) : Calls Try.prog 21 #[.string (str l), .int .i64 n] w (Rets (Only (.string (str (l.take n))) w)) := by
  have hs := str_size l
  by_cases h : n < l.length
  · have HE := Lib.hid (slice_to (l := l) (j := n) (by omega))
    have hc := HE.out w
    generalize str l = s at *
    go_enter Try.func21, Try.ntmps21
    go_wp2
    go_ret
    exact ⟨rfl, rfl⟩
  · have e : l.take n = l := List.take_of_length_le (by omega)
    rw [e]
    generalize str l = s at *
    go_enter Try.func21, Try.ntmps21
    go_wp2
    go_ret
    exact ⟨rfl, rfl⟩
def cutC (c : Chg) : Chg := ⟨c.key.take 60, c.del, c.val.take 4200⟩
def fewC (l : List Chg) : List Chg := (l.take 20).map cutC
/-- Changes whose texts are bytes. -/
def ChgW (l : List Chg) : Prop := ∀ c ∈ l, IsB c.key ∧ IsB c.val ∧ c.key.length ≤ maxLen ∧ c.val.length ≤ maxLen
theorem fewC_B {l : List Chg} (h : ChgW l) : ChgB (fewC l) := by
  intro c hc
  obtain ⟨d, hd, rfl⟩ := List.mem_map.1 hc
  obtain ⟨h1, h2, _, _⟩ := h d (List.mem_of_mem_take hd)
  refine ⟨fun x hx => h1 x (List.mem_of_mem_take hx), fun x hx => h2 x (List.mem_of_mem_take hx), ?_, ?_⟩
  · simp only [cutC, List.length_take]; omega
  · simp only [cutC, List.length_take]; omega
theorem fewC_len (l : List Chg) : (fewC l).length ≤ 20 := by unfold fewC; rw [List.length_map, List.length_take]; omega
theorem ChgB.wide {l : List Chg} (h : ChgB l) : ChgW l := fun c hc => by
  obtain ⟨h1, h2, h3, h4⟩ := h c hc
  refine ⟨h1, h2, ?_, ?_⟩ <;> simp only [maxLen] <;> omega
theorem cutC_cutC (c : Chg) : cutC (cutC c) = cutC c := by unfold cutC; simp [List.take_take]
theorem fewC_fewC (l : List Chg) : fewC (fewC l) = fewC l := by
  unfold fewC
  rw [← List.map_take, List.map_map, List.take_take, Nat.min_self]
  congr 1
  funext c
  exact cutC_cutC c
theorem few_next {l : List Chg} {k : Nat} (h : k < l.length) : (l.take (k + 1)).map cutC = (l.take k).map cutC ++ [cutC l[k]] := by
  rw [List.take_add_one, List.getElem?_eq_getElem h, List.map_append]; rfl
/-- Changes in memory of the call's own. -/
def FewIs (w : World) (l : List Chg) : Value → World → Prop := fun v w' => Keeps (fun _ => False) w w' ∧ ChgOwn w' (fun j => w.heap.size ≤ j ∧ j < w'.heap.size) v l
set_option maxHeartbeats 6400000 in
set_option maxRecDepth 100000 in
theorem few_c {w : World} {ok : Nat → Prop} (l : List Chg) (hB : ChgW l) (hl : l.length ≤ maxLen) (v : Value) (h : Chgs w ok v l) (hok : ∀ k, ok k → k < w.heap.size) : Calls Try.prog 9 #[v] w (Rets (FewIs w (fewC l))) := by
  obtain ⟨A, c, rfl, hlc, _, _⟩ := id h
  have H := Lib.hid h
  have HB := Lib.hid hB
  have hl := (by simp only [maxLen] at hl; exact hl : l.length ≤ 9223372036854775807)
  clear h hB
  go_enter Try.func9, Try.ntmps9
  go_wp2
  go_loopw [3, 4] (fun ov iv wr => ∃ k : Nat, k ≤ l.length ∧ k ≤ 20 ∧ iv = .int .i64 k ∧ Keeps (fun _ => False) w wr ∧ ChgOwn wr (fun j => w.heap.size ≤ j ∧ j < wr.heap.size) ov ((l.take k).map cutC)) (fun _ iv _ => 20 - (intOf iv).toNat)
  case atStart => exact ⟨0, Nat.zero_le _, Nat.zero_le _, rfl, Keeps.refl _ _, ChgOwn.nil _ _⟩
  case round =>
    obtain ⟨k, hk, hk20, rfl, hkr, hO⟩ := hrel
    have HKr := Lib.hid hkr
    have HO := Lib.hid hO
    have hwr := hkr.size
    obtain ⟨Al, cl, rfl, _⟩ := hO.slice
    have hlen : ((l.take k).map cutC).length = k := by rw [List.length_map, List.length_take]; omega
    rw [hlen] at HO ⊢
    by_cases hlt : k < l.length ∧ k < 20
    · obtain ⟨hlt, h20⟩ := hlt
      obtain ⟨A', c', e, _, _, hin⟩ := H.out
      cases e
      obtain ⟨b, o, e, hb, vV, c0, c1, c2, hrV⟩ := hin k _ (List.getElem?_eq_getElem hlt)
      cases e
      obtain ⟨Av, cv, rfl, _⟩ := hrV.slice
      obtain ⟨hb1, hb2, hb3, hb4⟩ := HB.out _ (List.getElem_mem hlt)
      have HN := Lib.hid (few_next hlt)
      have c0 := hkr.cell c0 (fun h => h)
      have c1 := hkr.cell c1 (fun h => h)
      have c2 := hkr.cell c2 (fun h => h)
      have hbw := hok b hb
      have HRV := Lib.hid ((hrV.mono (ok' := fun j => j < w.heap.size) hok).kept hkr (fun _ _ h => h))
      generalize l[k] = d at *
      obtain ⟨key, del, val⟩ := d
      simp only at c0 c1 c2 hb1 hb2 hb3 hb4 HRV
      have hb3 := (by simp only [maxLen] at hb3; exact hb3 : key.length ≤ 9223372036854775807)
      have zk := str_size key
      have HKs := Lib.hid (show True from trivial)
      clear hin hrV hkr hb1 hb2 hb4
      by_cases h60 : 60 < key.length
      · have HSl := Lib.hid (slice_to (l := key) (j := 60) (by omega))
        have HEx := Lib.hid (show (str key).extract 0 60 = str (key.take 60) by rw [str_cut]; simp)
        have HN2 := Lib.hid (show (l.take (k + 1)).map cutC = (l.take k).map cutC ++ [⟨key.take 60, del, val.take 4200⟩] from HN.out)
        go_wp2_with (first
          | ((with_reducible refine at_ 5 rfl ?_); go_must (refine step_alloc rfl _ rfl _ chgZ row_chg rfl ?_); intro w3 hb3' hk3 hs3)
          | ((with_reducible refine at_store 41 (.tmp 5) (.tmp 19) rfl ?_); go_must (refine step_store rfl _ _ _ rfl wr.heap.size 0 [.string (str key), .bool del, .slice Av val.length cv] _ _ rfl rfl hb3' (by simp [chgZ]) info_chg (by simp [Value.oneCell']) ?_); intro w4 hb4' hk4 hs4; rw [put_whole (by rfl)] at hb4'; have d0 : w4.cell? ⟨wr.heap.size, 0, none⟩ = some (.string (str key)) := cell_of_row w4 _ _ _ _ _ hb4'; have d2 : w4.cell? ⟨wr.heap.size, 2, none⟩ = some (.slice Av val.length cv) := cell_of_row w4 _ _ _ _ _ hb4'; have hsl := HSl.out w4; have HK4 := Lib.hid (((Keeps.refl (fun _ => False) wr).trans hk3 (fun _ _ h => h) |>.mono (S' := fun j => wr.heap.size ≤ j) (fun _ _ h => h.elim)).trans hk4 (fun j _ h => by omega) |>.mono (S' := fun _ => False) (fun j hj h => by omega)); have HB4 := Lib.hid hb4'; have hz4 : wr.heap.size < w4.heap.size := by omega)
          | ((with_reducible refine at_store 9 (.tmp 27) (.tmp 26) rfl ?_); go_must (rw [HEx.out]; refine step_store1 rfl _ _ _ rfl wr.heap.size 0 (.string (str (key.take 60))) _ _ rfl rfl rfl hb4' (by simp) info_str ?_); intro w5 hb5' hk5 hs5; have d2 : w5.cell? ⟨wr.heap.size, 2, none⟩ = some (.slice Av val.length cv) := cell_of_row w5 _ _ _ _ _ hb5'; have HK5 := Lib.hid ((HK4.out.mono (S' := fun j => wr.heap.size ≤ j) (fun _ _ h => h.elim)).trans hk5 (fun j _ h => by omega) |>.mono (S' := fun _ => False) (fun j hj h => by omega)); have HB5 := Lib.hid hb5'; have hz5 : wr.heap.size < w5.heap.size := by omega)
          | (go_at_call 10; refine Rets.use (cut_c _ val (HRV.out.kept HK5.out (fun _ _ h => h)) 4200) ?_; rintro v7 _ ⟨hr7, rfl⟩)
          | (go_at_call 11; refine Rets.use (copy_c v7 (val.take 4200) hr7 (by rw [List.length_take]; omega)) ?_; rintro v8 w8 hO8; have hk8 := hO8.2; have hz8 := hk8.size; have hb8' := hk8.heap HB5.out (fun h => h); have hone := Rd.one hO8.1.rd)
          | ((with_reducible refine at_store 23 (.tmp 32) (.tmp 31) rfl ?_); go_must (refine step_store1 rfl _ _ _ rfl wr.heap.size 2 v8 _ _ rfl rfl hone hb8' (by simp) info_bytes ?_); intro w9 hb9' hk9 hs9; have hb9' : w9.heap[wr.heap.size]? = some (.cells (chgC ⟨key.take 60, del, val.take 4200⟩ v8).toArray 41 (0, 0)) := hb9'; have HK9 := Lib.hid (((HK5.out.trans hk8 (fun _ _ h => h)).mono (S' := fun j => wr.heap.size ≤ j) (fun _ _ h => h.elim)).trans hk9 (fun j _ h => by omega) |>.mono (S' := fun _ => False) (fun j hj h => by omega)); have HV9 := Lib.hid ((hO8.1.mono (ok' := fun j => w5.heap.size ≤ j ∧ j < w8.heap.size) (fun j hj h => ⟨h, hj⟩)).kept hk9 (fun j h e => by omega)); have HO9 := Lib.hid (HO.out.kept HK9.out (fun _ _ h => h)))
          | ((with_reducible refine at_ 34 rfl ?_); go_must (refine step_load rfl _ _ rfl wr.heap.size 0 (chgC ⟨key.take 60, del, val.take 4200⟩ v8) _ _ _ _ rfl hb9' rfl Try.underlying41 rfl (info_chgC _ _) ?_))
          | ((with_reducible refine at_ 35 rfl ?_); go_must (refine step_lit rfl 22 _ 1 rfl [.agg (chgC ⟨key.take 60, del, val.take 4200⟩ v8).toArray] rfl rfl (by decide) 41 _ 3 Try.underlying22 row2_chg (by decide) (by decide) (by intro v hv; rw [List.mem_singleton] at hv; subst hv; exact chgC_cells _ v8 hone) ?_); intro w10 hb10 hk10 hs10)
          | ((with_reducible refine at_ 36 rfl ?_); go_must (refine step_push (ok := fun j => w.heap.size ≤ j) rfl _ _ rfl (.slice Al k cl) ((l.take k).map cutC) rfl ((HO9.out.mono (fun j _ h => h.1)).kept hk10 (fun _ _ h => h)) ⟨key.take 60, del, val.take 4200⟩ v8 w9.heap.size rfl (by rw [hb10]; exact congrArg _ (congrArg (fun z => Obj.cells z _ _) (chgC_flat _ v8 hone))) ((HV9.out.mono (fun j _ h => Nat.le_trans hwr (Nat.le_trans (Nat.le_of_lt (by first | exact hz5 | exact hz4)) h.1))).kept hk10 (fun _ _ h => h)) (fun j h e => by have h1 := (HO9.out.blk j h).2; have h2 := (HV9.out.2 j e).1; omega) (by rw [hlen]; omega) ?_); intro v11 w11 hO11 hk11; have HK11 := Lib.hid (((HK9.out.trans hk10 (fun _ _ h => h)).mono (S' := fun j => w.heap.size ≤ j) (fun _ _ h => h.elim)).trans hk11 (fun j _ h => (HO9.out.blk j h).1) |>.mono (S' := fun j => w.heap.size ≤ j) (fun _ _ h => h))))
        go_roundw
        case rel => exact ⟨k + 1, hlt, h20, by go_num, (HKr.out.mono (S' := fun j => w.heap.size ≤ j) (fun _ _ h => h.elim)).trans HK11.out (fun _ _ h => h) |>.mono (fun j hj h => by omega), by rw [HN2.out]; exact hO11.mono (fun j hj h => ⟨h.elim (fun h => h) (fun h => by omega), hj⟩)⟩
        case measure => simp [intOf]; omega
      · have HSl := Lib.hid (slice_to (l := key) (j := 0) (by omega))
        have HN2 := Lib.hid (show (l.take (k + 1)).map cutC = (l.take k).map cutC ++ [⟨key, del, val.take 4200⟩] by rw [HN.out]; unfold cutC; rw [List.take_of_length_le (show key.length ≤ 60 by omega)])
        go_wp2_with (first
          | ((with_reducible refine at_ 5 rfl ?_); go_must (refine step_alloc rfl _ rfl _ chgZ row_chg rfl ?_); intro w3 hb3' hk3 hs3)
          | ((with_reducible refine at_store 41 (.tmp 5) (.tmp 19) rfl ?_); go_must (refine step_store rfl _ _ _ rfl wr.heap.size 0 [.string (str key), .bool del, .slice Av val.length cv] _ _ rfl rfl hb3' (by simp [chgZ]) info_chg (by simp [Value.oneCell']) ?_); intro w4 hb4' hk4 hs4; rw [put_whole (by rfl)] at hb4'; have d0 : w4.cell? ⟨wr.heap.size, 0, none⟩ = some (.string (str key)) := cell_of_row w4 _ _ _ _ _ hb4'; have d2 : w4.cell? ⟨wr.heap.size, 2, none⟩ = some (.slice Av val.length cv) := cell_of_row w4 _ _ _ _ _ hb4'; have hsl := HSl.out w4; have HK4 := Lib.hid (((Keeps.refl (fun _ => False) wr).trans hk3 (fun _ _ h => h) |>.mono (S' := fun j => wr.heap.size ≤ j) (fun _ _ h => h.elim)).trans hk4 (fun j _ h => by omega) |>.mono (S' := fun _ => False) (fun j hj h => by omega)); have HB4 := Lib.hid hb4'; have hz4 : wr.heap.size < w4.heap.size := by omega)
          | (go_at_call 10; refine Rets.use (cut_c _ val (HRV.out.kept HK4.out (fun _ _ h => h)) 4200) ?_; rintro v7 _ ⟨hr7, rfl⟩)
          | (go_at_call 11; refine Rets.use (copy_c v7 (val.take 4200) hr7 (by rw [List.length_take]; omega)) ?_; rintro v8 w8 hO8; have hk8 := hO8.2; have hz8 := hk8.size; have hb8' := hk8.heap HB4.out (fun h => h); have hone := Rd.one hO8.1.rd)
          | ((with_reducible refine at_store 23 (.tmp 32) (.tmp 31) rfl ?_); go_must (refine step_store1 rfl _ _ _ rfl wr.heap.size 2 v8 _ _ rfl rfl hone hb8' (by simp) info_bytes ?_); intro w9 hb9' hk9 hs9; have hb9' : w9.heap[wr.heap.size]? = some (.cells (chgC ⟨key, del, val.take 4200⟩ v8).toArray 41 (0, 0)) := hb9'; have HK9 := Lib.hid (((HK4.out.trans hk8 (fun _ _ h => h)).mono (S' := fun j => wr.heap.size ≤ j) (fun _ _ h => h.elim)).trans hk9 (fun j _ h => by omega) |>.mono (S' := fun _ => False) (fun j hj h => by omega)); have HV9 := Lib.hid ((hO8.1.mono (ok' := fun j => w4.heap.size ≤ j ∧ j < w8.heap.size) (fun j hj h => ⟨h, hj⟩)).kept hk9 (fun j h e => by omega)); have HO9 := Lib.hid (HO.out.kept HK9.out (fun _ _ h => h)))
          | ((with_reducible refine at_ 34 rfl ?_); go_must (refine step_load rfl _ _ rfl wr.heap.size 0 (chgC ⟨key, del, val.take 4200⟩ v8) _ _ _ _ rfl hb9' rfl Try.underlying41 rfl (info_chgC _ _) ?_))
          | ((with_reducible refine at_ 35 rfl ?_); go_must (refine step_lit rfl 22 _ 1 rfl [.agg (chgC ⟨key, del, val.take 4200⟩ v8).toArray] rfl rfl (by decide) 41 _ 3 Try.underlying22 row2_chg (by decide) (by decide) (by intro v hv; rw [List.mem_singleton] at hv; subst hv; exact chgC_cells _ v8 hone) ?_); intro w10 hb10 hk10 hs10)
          | ((with_reducible refine at_ 36 rfl ?_); go_must (refine step_push (ok := fun j => w.heap.size ≤ j) rfl _ _ rfl (.slice Al k cl) ((l.take k).map cutC) rfl ((HO9.out.mono (fun j _ h => h.1)).kept hk10 (fun _ _ h => h)) ⟨key, del, val.take 4200⟩ v8 w9.heap.size rfl (by rw [hb10]; exact congrArg _ (congrArg (fun z => Obj.cells z _ _) (chgC_flat _ v8 hone))) ((HV9.out.mono (fun j _ h => Nat.le_trans hwr (Nat.le_trans (Nat.le_of_lt (by first | exact hz5 | exact hz4)) h.1))).kept hk10 (fun _ _ h => h)) (fun j h e => by have h1 := (HO9.out.blk j h).2; have h2 := (HV9.out.2 j e).1; omega) (by rw [hlen]; omega) ?_); intro v11 w11 hO11 hk11; have HK11 := Lib.hid (((HK9.out.trans hk10 (fun _ _ h => h)).mono (S' := fun j => w.heap.size ≤ j) (fun _ _ h => h.elim)).trans hk11 (fun j _ h => (HO9.out.blk j h).1) |>.mono (S' := fun j => w.heap.size ≤ j) (fun _ _ h => h))))
        go_roundw
        case rel => exact ⟨k + 1, hlt, h20, by go_num, (HKr.out.mono (S' := fun j => w.heap.size ≤ j) (fun _ _ h => h.elim)).trans HK11.out (fun _ _ h => h) |>.mono (fun j hj h => by omega), by rw [HN2.out]; exact hO11.mono (fun j hj h => ⟨h.elim (fun h => h) (fun h => by omega), hj⟩)⟩
        case measure => simp [intOf]; omega
    · have e : (l.take k).map cutC = fewC l := by
        unfold fewC
        congr 1
        rcases Nat.lt_or_ge k l.length with h | h
        · rw [show k = 20 by omega]
        · rw [List.take_of_length_le h, List.take_of_length_le (by omega)]
      rw [e] at HO
      by_cases hkl : k < l.length
      · obtain rfl : k = 20 := by omega
        go_wp2
        go_ret
        exact ⟨HKr.out, HO.out⟩
      · go_wp2
        go_ret
        exact ⟨HKr.out, HO.out⟩
end Go.Proofs.Ytbiohidelhfaiaa
