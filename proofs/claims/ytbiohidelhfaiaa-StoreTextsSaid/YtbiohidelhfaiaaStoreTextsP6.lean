/-
  Several texts in one:
  Few; Cut of a text.
  Changes among a call's arguments; the texts of changes are bytes.
  Bytes of one's own, whatever they are: they may be set.
  StoreTexts: the walk.
-/
import Derived.Test.YtbiohidelhfaiaaStoreTextsP0
import Derived.Test.YtbiohidelhfaiaaStoreTextsP1
import Derived.Test.YtbiohidelhfaiaaStoreTextsP2
import Derived.Test.YtbiohidelhfaiaaStoreTextsP3
import Derived.Test.YtbiohidelhfaiaaStoreTextsP4
import Derived.Test.YtbiohidelhfaiaaStoreTextsP5
section
namespace Go.Proofs.Ytbiohidelhfaiaa
open Go.RowKit Go.Canon Go.Mem Go.Args
open Go.Proofs.Ytbiohidelhfaiaa.Sto (Chg)
set_option linter.unusedVariables false
set_option linter.unusedSimpArgs false
theorem cut4_c (l : List Int) (n : Nat) (w : World) : Calls Try.prog 21 #[.string (str l), .int .i64 n] w (Rets (Only (.string (str (l.take n))) w)) := by
  have hs := str_size l
  by_cases h : n < l.length
  · have HE := Lib.hid (slice_to (l := l) (j := n) (by omega))
    have hc := HE.out w
    generalize str l = s at *
    go_enter Try.func21, Try.ntmps21
    go_wp2
    go_ret
    exact ⟨rfl, rfl⟩
  · have e : l.take n = l := List.take_of_length_le (by omega)
    rw [e]
    generalize str l = s at *
    go_enter Try.func21, Try.ntmps21
    go_wp2
    go_ret
    exact ⟨rfl, rfl⟩
def cutC (c : Chg) : Chg := ⟨c.key.take 60, c.del, c.val.take 4200⟩
def fewC (l : List Chg) : List Chg := (l.take 20).map cutC
/-- Changes whose texts are bytes. -/
def ChgW (l : List Chg) : Prop := ∀ c ∈ l, IsB c.key ∧ IsB c.val ∧ c.key.length ≤ maxLen ∧ c.val.length ≤ maxLen
theorem fewC_B {l : List Chg} (h : ChgW l) : ChgB (fewC l) := by
  intro c hc
  obtain ⟨d, hd, rfl⟩ := List.mem_map.1 hc
  obtain ⟨h1, h2, _, _⟩ := h d (List.mem_of_mem_take hd)
  refine ⟨fun x hx => h1 x (List.mem_of_mem_take hx), fun x hx => h2 x (List.mem_of_mem_take hx), ?_, ?_⟩
  · simp only [cutC, List.length_take]; omega
  · simp only [cutC, List.length_take]; omega
theorem fewC_len (l : List Chg) : (fewC l).length ≤ 20 := by unfold fewC; rw [List.length_map, List.length_take]; omega
theorem ChgB.wide {l : List Chg} (h : ChgB l) : ChgW l := fun c hc => by
  obtain ⟨h1, h2, h3, h4⟩ := h c hc
  refine ⟨h1, h2, ?_, ?_⟩ <;> simp only [maxLen] <;> omega
theorem cutC_cutC (c : Chg) : cutC (cutC c) = cutC c := by unfold cutC; simp [List.take_take]
theorem fewC_fewC (l : List Chg) : fewC (fewC l) = fewC l := by
  unfold fewC
  rw [← List.map_take, List.map_map, List.take_take, Nat.min_self]
  congr 1
  funext c
  exact cutC_cutC c
theorem few_next {l : List Chg} {k : Nat} (h : k < l.length) : (l.take (k + 1)).map cutC = (l.take k).map cutC ++ [cutC l[k]] := by
  rw [List.take_add_one, List.getElem?_eq_getElem h, List.map_append]; rfl
/-- Changes in memory of the call's own. -/
def FewIs (w : World) (l : List Chg) : Value → World → Prop := fun v w' => Keeps (fun _ => False) w w' ∧ ChgOwn w' (fun j => w.heap.size ≤ j ∧ j < w'.heap.size) v l
set_option maxHeartbeats 6400000 in
set_option maxRecDepth 100000 in
theorem few_c {w : World} {ok : Nat → Prop} (l : List Chg) (hB : ChgW l) (hl : l.length ≤ maxLen) (v : Value) (h : Chgs w ok v l) (hok : ∀ k, ok k → k < w.heap.size) : Calls Try.prog 9 #[v] w (Rets (FewIs w (fewC l))) := by
  obtain ⟨A, c, rfl, hlc, _, _⟩ := id h
  have H := Lib.hid h
  have HB := Lib.hid hB
  have hl := (by simp only [maxLen] at hl; exact hl : l.length ≤ 9223372036854775807)
  clear h hB
  go_enter Try.func9, Try.ntmps9
  go_wp2
  go_loopw [3, 4] (fun ov iv wr => ∃ k : Nat, k ≤ l.length ∧ k ≤ 20 ∧ iv = .int .i64 k ∧ Keeps (fun _ => False) w wr ∧ ChgOwn wr (fun j => w.heap.size ≤ j ∧ j < wr.heap.size) ov ((l.take k).map cutC)) (fun _ iv _ => 20 - (intOf iv).toNat)
  case atStart => exact ⟨0, Nat.zero_le _, Nat.zero_le _, rfl, Keeps.refl _ _, ChgOwn.nil _ _⟩
  case round =>
    obtain ⟨k, hk, hk20, rfl, hkr, hO⟩ := hrel
    have HKr := Lib.hid hkr
    have HO := Lib.hid hO
    have hwr := hkr.size
    obtain ⟨Al, cl, rfl, _⟩ := hO.slice
    have hlen : ((l.take k).map cutC).length = k := by rw [List.length_map, List.length_take]; omega
    rw [hlen] at HO ⊢
    by_cases hlt : k < l.length ∧ k < 20
    · obtain ⟨hlt, h20⟩ := hlt
      obtain ⟨A', c', e, _, _, hin⟩ := H.out
      cases e
      obtain ⟨b, o, e, hb, vV, c0, c1, c2, hrV⟩ := hin k _ (List.getElem?_eq_getElem hlt)
      cases e
      obtain ⟨Av, cv, rfl, _⟩ := hrV.slice
      obtain ⟨hb1, hb2, hb3, hb4⟩ := HB.out _ (List.getElem_mem hlt)
      have HN := Lib.hid (few_next hlt)
      have c0 := hkr.cell c0 (fun h => h)
      have c1 := hkr.cell c1 (fun h => h)
      have c2 := hkr.cell c2 (fun h => h)
      have hbw := hok b hb
      have HRV := Lib.hid ((hrV.mono (ok' := fun j => j < w.heap.size) hok).kept hkr (fun _ _ h => h))
      generalize l[k] = d at *
      obtain ⟨key, del, val⟩ := d
      simp only at c0 c1 c2 hb1 hb2 hb3 hb4 HRV
      have hb3 := (by simp only [maxLen] at hb3; exact hb3 : key.length ≤ 9223372036854775807)
      have zk := str_size key
      have HKs := Lib.hid (show True from trivial)
      clear hin hrV hkr hb1 hb2 hb4
      by_cases h60 : 60 < key.length
      · have HSl := Lib.hid (slice_to (l := key) (j := 60) (by omega))
        have HEx := Lib.hid (show (str key).extract 0 60 = str (key.take 60) by rw [str_cut]; simp)
        have HN2 := Lib.hid (show (l.take (k + 1)).map cutC = (l.take k).map cutC ++ [⟨key.take 60, del, val.take 4200⟩] from HN.out)
        go_wp2_with (first
          | ((with_reducible refine at_ 5 rfl ?_); go_must (refine step_alloc rfl _ rfl _ chgZ row_chg rfl ?_); intro w3 hb3' hk3 hs3)
          | ((with_reducible refine at_store 41 (.tmp 5) (.tmp 19) rfl ?_); go_must (refine step_store rfl _ _ _ rfl wr.heap.size 0 [.string (str key), .bool del, .slice Av val.length cv] _ _ rfl rfl hb3' (by simp [chgZ]) info_chg (by simp [Value.oneCell']) ?_); intro w4 hb4' hk4 hs4; rw [put_whole (by rfl)] at hb4'; have d0 : w4.cell? ⟨wr.heap.size, 0, none⟩ = some (.string (str key)) := cell_of_row w4 _ _ _ _ _ hb4'; have d2 : w4.cell? ⟨wr.heap.size, 2, none⟩ = some (.slice Av val.length cv) := cell_of_row w4 _ _ _ _ _ hb4'; have hsl := HSl.out w4; have HK4 := Lib.hid (((Keeps.refl (fun _ => False) wr).trans hk3 (fun _ _ h => h) |>.mono (S' := fun j => wr.heap.size ≤ j) (fun _ _ h => h.elim)).trans hk4 (fun j _ h => by omega) |>.mono (S' := fun _ => False) (fun j hj h => by omega)); have HB4 := Lib.hid hb4'; have hz4 : wr.heap.size < w4.heap.size := by omega)
          | ((with_reducible refine at_store 9 (.tmp 27) (.tmp 26) rfl ?_); go_must (rw [HEx.out]; refine step_store1 rfl _ _ _ rfl wr.heap.size 0 (.string (str (key.take 60))) _ _ rfl rfl rfl hb4' (by simp) info_str ?_); intro w5 hb5' hk5 hs5; have d2 : w5.cell? ⟨wr.heap.size, 2, none⟩ = some (.slice Av val.length cv) := cell_of_row w5 _ _ _ _ _ hb5'; have HK5 := Lib.hid ((HK4.out.mono (S' := fun j => wr.heap.size ≤ j) (fun _ _ h => h.elim)).trans hk5 (fun j _ h => by omega) |>.mono (S' := fun _ => False) (fun j hj h => by omega)); have HB5 := Lib.hid hb5'; have hz5 : wr.heap.size < w5.heap.size := by omega)
          | (go_at_call 10; refine Rets.use (cut_c _ val (HRV.out.kept HK5.out (fun _ _ h => h)) 4200) ?_; rintro v7 _ ⟨hr7, rfl⟩)
          | (go_at_call 11; refine Rets.use (copy_c v7 (val.take 4200) hr7 (by rw [List.length_take]; omega)) ?_; rintro v8 w8 hO8; have hk8 := hO8.2; have hz8 := hk8.size; have hb8' := hk8.heap HB5.out (fun h => h); have hone := Rd.one hO8.1.rd)
          | ((with_reducible refine at_store 23 (.tmp 32) (.tmp 31) rfl ?_); go_must (refine step_store1 rfl _ _ _ rfl wr.heap.size 2 v8 _ _ rfl rfl hone hb8' (by simp) info_bytes ?_); intro w9 hb9' hk9 hs9; have hb9' : w9.heap[wr.heap.size]? = some (.cells (chgC ⟨key.take 60, del, val.take 4200⟩ v8).toArray 41 (0, 0)) := hb9'; have HK9 := Lib.hid (((HK5.out.trans hk8 (fun _ _ h => h)).mono (S' := fun j => wr.heap.size ≤ j) (fun _ _ h => h.elim)).trans hk9 (fun j _ h => by omega) |>.mono (S' := fun _ => False) (fun j hj h => by omega)); have HV9 := Lib.hid ((hO8.1.mono (ok' := fun j => w5.heap.size ≤ j ∧ j < w8.heap.size) (fun j hj h => ⟨h, hj⟩)).kept hk9 (fun j h e => by omega)); have HO9 := Lib.hid (HO.out.kept HK9.out (fun _ _ h => h)))
          | ((with_reducible refine at_ 34 rfl ?_); go_must (refine step_load rfl _ _ rfl wr.heap.size 0 (chgC ⟨key.take 60, del, val.take 4200⟩ v8) _ _ _ _ rfl hb9' rfl Try.underlying41 rfl (info_chgC _ _) ?_))
          | ((with_reducible refine at_ 35 rfl ?_); go_must (refine step_lit rfl 22 _ 1 rfl [.agg (chgC ⟨key.take 60, del, val.take 4200⟩ v8).toArray] rfl rfl (by decide) 41 _ 3 Try.underlying22 row2_chg (by decide) (by decide) (by intro v hv; rw [List.mem_singleton] at hv; subst hv; exact chgC_cells _ v8 hone) ?_); intro w10 hb10 hk10 hs10)
          | ((with_reducible refine at_ 36 rfl ?_); go_must (refine step_push (ok := fun j => w.heap.size ≤ j) rfl _ _ rfl (.slice Al k cl) ((l.take k).map cutC) rfl ((HO9.out.mono (fun j _ h => h.1)).kept hk10 (fun _ _ h => h)) ⟨key.take 60, del, val.take 4200⟩ v8 w9.heap.size rfl (by rw [hb10]; exact congrArg _ (congrArg (fun z => Obj.cells z _ _) (chgC_flat _ v8 hone))) ((HV9.out.mono (fun j _ h => Nat.le_trans hwr (Nat.le_trans (Nat.le_of_lt (by first | exact hz5 | exact hz4)) h.1))).kept hk10 (fun _ _ h => h)) (fun j h e => by have h1 := (HO9.out.blk j h).2; have h2 := (HV9.out.2 j e).1; omega) (by rw [hlen]; omega) ?_); intro v11 w11 hO11 hk11; have HK11 := Lib.hid (((HK9.out.trans hk10 (fun _ _ h => h)).mono (S' := fun j => w.heap.size ≤ j) (fun _ _ h => h.elim)).trans hk11 (fun j _ h => (HO9.out.blk j h).1) |>.mono (S' := fun j => w.heap.size ≤ j) (fun _ _ h => h))))
        go_roundw
        case rel => exact ⟨k + 1, hlt, h20, by go_num, (HKr.out.mono (S' := fun j => w.heap.size ≤ j) (fun _ _ h => h.elim)).trans HK11.out (fun _ _ h => h) |>.mono (fun j hj h => by omega), by rw [HN2.out]; exact hO11.mono (fun j hj h => ⟨h.elim (fun h => h) (fun h => by omega), hj⟩)⟩
        case measure => simp [intOf]; omega
      · have HSl := Lib.hid (slice_to (l := key) (j := 0) (by omega))
        have HN2 := Lib.hid (show (l.take (k + 1)).map cutC = (l.take k).map cutC ++ [⟨key, del, val.take 4200⟩] by rw [HN.out]; unfold cutC; rw [List.take_of_length_le (show key.length ≤ 60 by omega)])
        go_wp2_with (first
          | ((with_reducible refine at_ 5 rfl ?_); go_must (refine step_alloc rfl _ rfl _ chgZ row_chg rfl ?_); intro w3 hb3' hk3 hs3)
          | ((with_reducible refine at_store 41 (.tmp 5) (.tmp 19) rfl ?_); go_must (refine step_store rfl _ _ _ rfl wr.heap.size 0 [.string (str key), .bool del, .slice Av val.length cv] _ _ rfl rfl hb3' (by simp [chgZ]) info_chg (by simp [Value.oneCell']) ?_); intro w4 hb4' hk4 hs4; rw [put_whole (by rfl)] at hb4'; have d0 : w4.cell? ⟨wr.heap.size, 0, none⟩ = some (.string (str key)) := cell_of_row w4 _ _ _ _ _ hb4'; have d2 : w4.cell? ⟨wr.heap.size, 2, none⟩ = some (.slice Av val.length cv) := cell_of_row w4 _ _ _ _ _ hb4'; have hsl := HSl.out w4; have HK4 := Lib.hid (((Keeps.refl (fun _ => False) wr).trans hk3 (fun _ _ h => h) |>.mono (S' := fun j => wr.heap.size ≤ j) (fun _ _ h => h.elim)).trans hk4 (fun j _ h => by omega) |>.mono (S' := fun _ => False) (fun j hj h => by omega)); have HB4 := Lib.hid hb4'; have hz4 : wr.heap.size < w4.heap.size := by omega)
          | (go_at_call 10; refine Rets.use (cut_c _ val (HRV.out.kept HK4.out (fun _ _ h => h)) 4200) ?_; rintro v7 _ ⟨hr7, rfl⟩)
          | (go_at_call 11; refine Rets.use (copy_c v7 (val.take 4200) hr7 (by rw [List.length_take]; omega)) ?_; rintro v8 w8 hO8; have hk8 := hO8.2; have hz8 := hk8.size; have hb8' := hk8.heap HB4.out (fun h => h); have hone := Rd.one hO8.1.rd)
          | ((with_reducible refine at_store 23 (.tmp 32) (.tmp 31) rfl ?_); go_must (refine step_store1 rfl _ _ _ rfl wr.heap.size 2 v8 _ _ rfl rfl hone hb8' (by simp) info_bytes ?_); intro w9 hb9' hk9 hs9; have hb9' : w9.heap[wr.heap.size]? = some (.cells (chgC ⟨key, del, val.take 4200⟩ v8).toArray 41 (0, 0)) := hb9'; have HK9 := Lib.hid (((HK4.out.trans hk8 (fun _ _ h => h)).mono (S' := fun j => wr.heap.size ≤ j) (fun _ _ h => h.elim)).trans hk9 (fun j _ h => by omega) |>.mono (S' := fun _ => False) (fun j hj h => by omega)); have HV9 := Lib.hid ((hO8.1.mono (ok' := fun j => w4.heap.size ≤ j ∧ j < w8.heap.size) (fun j hj h => ⟨h, hj⟩)).kept hk9 (fun j h e => by omega)); have HO9 := Lib.hid (HO.out.kept HK9.out (fun _ _ h => h)))
          | ((with_reducible refine at_ 34 rfl ?_); go_must (refine step_load rfl _ _ rfl wr.heap.size 0 (chgC ⟨key, del, val.take 4200⟩ v8) _ _ _ _ rfl hb9' rfl Try.underlying41 rfl (info_chgC _ _) ?_))
          | ((with_reducible refine at_ 35 rfl ?_); go_must (refine step_lit rfl 22 _ 1 rfl [.agg (chgC ⟨key, del, val.take 4200⟩ v8).toArray] rfl rfl (by decide) 41 _ 3 Try.underlying22 row2_chg (by decide) (by decide) (by intro v hv; rw [List.mem_singleton] at hv; subst hv; exact chgC_cells _ v8 hone) ?_); intro w10 hb10 hk10 hs10)
          | ((with_reducible refine at_ 36 rfl ?_); go_must (refine step_push (ok := fun j => w.heap.size ≤ j) rfl _ _ rfl (.slice Al k cl) ((l.take k).map cutC) rfl ((HO9.out.mono (fun j _ h => h.1)).kept hk10 (fun _ _ h => h)) ⟨key, del, val.take 4200⟩ v8 w9.heap.size rfl (by rw [hb10]; exact congrArg _ (congrArg (fun z => Obj.cells z _ _) (chgC_flat _ v8 hone))) ((HV9.out.mono (fun j _ h => Nat.le_trans hwr (Nat.le_trans (Nat.le_of_lt (by first | exact hz5 | exact hz4)) h.1))).kept hk10 (fun _ _ h => h)) (fun j h e => by have h1 := (HO9.out.blk j h).2; have h2 := (HV9.out.2 j e).1; omega) (by rw [hlen]; omega) ?_); intro v11 w11 hO11 hk11; have HK11 := Lib.hid (((HK9.out.trans hk10 (fun _ _ h => h)).mono (S' := fun j => w.heap.size ≤ j) (fun _ _ h => h.elim)).trans hk11 (fun j _ h => (HO9.out.blk j h).1) |>.mono (S' := fun j => w.heap.size ≤ j) (fun _ _ h => h))))
        go_roundw
        case rel => exact ⟨k + 1, hlt, h20, by go_num, (HKr.out.mono (S' := fun j => w.heap.size ≤ j) (fun _ _ h => h.elim)).trans HK11.out (fun _ _ h => h) |>.mono (fun j hj h => by omega), by rw [HN2.out]; exact hO11.mono (fun j hj h => ⟨h.elim (fun h => h) (fun h => by omega), hj⟩)⟩
        case measure => simp [intOf]; omega
    · have e : (l.take k).map cutC = fewC l := by
        unfold fewC
        congr 1
        rcases Nat.lt_or_ge k l.length with h | h
        · rw [show k = 20 by omega]
        · rw [List.take_of_length_le h, List.take_of_length_le (by omega)]
      rw [e] at HO
      by_cases hkl : k < l.length
      · obtain rfl : k = 20 := by omega
        go_wp2
        go_ret
        exact ⟨HKr.out, HO.out⟩
      · go_wp2
        go_ret
        exact ⟨HKr.out, HO.out⟩
end Go.Proofs.Ytbiohidelhfaiaa
end

section
namespace Go.Proofs.Ytbiohidelhfaiaa
open Go.RowKit Go.Canon Go.Mem Go.Args
open Go.Proofs.Ytbiohidelhfaiaa.Sto (Chg)
set_option linter.unusedVariables false
set_option linter.unusedSimpArgs false
/-! ### the arguments -/
abbrev KChg : Kd := .slice (.st (.fld .str (.fld .bool (.fld (.slice (.int .u8)) .fin))))
def toC (d : ByteArray × Bool × List Int × Unit) : Chg := ⟨bytesOf d.1, d.2.1, d.2.2.1⟩
theorem bytesOf_len (s : ByteArray) : (bytesOf s).length = s.size := by
  have := str_size (bytesOf s)
  rw [← str_of] at this
  exact this.symm
theorem chg_byte {w : World} {v : Value} {l : List Int} (h : Has w (.slice (.int .u8)) [v] l) : IsB l := by
  obtain ⟨A, c, _, _, _, _, h5⟩ := h
  intro x hx
  obtain ⟨i, hi, rfl⟩ := List.getElem_of_mem hx
  obtain ⟨a, es, _, _, _, h6⟩ := h5 i l[i] (List.getElem?_eq_getElem hi)
  have := h6.2
  simp [Lit.wf, IntKind.min, IntKind.max, IntKind.signed, IntKind.bits] at this
  omega
theorem KChg_of {W : World} {A : Option Addr} {n c : Nat} {x : List (ByteArray × Bool × List Int × Unit)} (H : Has W KChg [.slice A n c] x) : ∃ l : List Chg, ChgW l ∧ l.length ≤ maxLen ∧ Chgs W (fun k => k < W.heap.size) (.slice A n c) l := by
  obtain ⟨A', c', e, hlc, hcm, hz, hin⟩ := id H
  cases e
  refine ⟨x.map toC, ?_, by rw [List.length_map]; exact Nat.le_trans hlc hcm, A, c, by rw [List.length_map]; rfl, by rw [List.length_map]; exact hlc, hz, ?_⟩
  · intro d hd
    obtain ⟨y, hy, rfl⟩ := List.mem_map.1 hd
    obtain ⟨i, hi⟩ := List.mem_iff_getElem?.1 hy
    obtain ⟨a, es, _, _, _, hh⟩ := hin i y hi
    obtain ⟨c0, r0, _, _, ⟨_, hs⟩, c1, r1, _, _, _, c2, r2, _, h3, hb, _⟩ := hh
    obtain ⟨v, rfl⟩ : ∃ v, c2 = [v] := by
      cases c2 with
      | nil => cases h3
      | cons v t => cases t with
        | nil => exact ⟨v, rfl⟩
        | cons => cases h3
    exact ⟨bytesOf_byte _, chg_byte hb, by show (bytesOf y.1).length ≤ maxLen; rw [bytesOf_len]; exact hs, (Has.bytes hb).2⟩
  · intro i d hi
    rw [List.getElem?_map] at hi
    cases hx : x[i]? with
    | none => rw [hx] at hi; cases hi
    | some y =>
      rw [hx] at hi
      simp only [Option.map_some, Option.some.injEq] at hi
      subst hi
      have hpos : 0 < x.length := by have := (List.getElem?_eq_some_iff.1 hx).1; omega
      obtain ⟨b, o, c', e, _, _, hbW⟩ := Has.plain H (by decide) hpos
      cases e
      obtain ⟨es, hes, hcell, hh⟩ := Has.elem H hx
      obtain ⟨c0, r0, rfl, _, ⟨rfl, hs⟩, c1, r1, rfl, _, rfl, c2, r2, rfl, h3, hb, rfl⟩ := hh
      obtain ⟨v, rfl⟩ : ∃ v, c2 = [v] := by
        cases c2 with
        | nil => cases h3
        | cons v t => cases t with
          | nil => exact ⟨v, rfl⟩
          | cons => cases h3
      refine ⟨b, o, rfl, hbW, v, ?_, ?_, ?_, (Has.bytes hb).1⟩
      · have := hcell 0 _ rfl
        show W.cell? ⟨b, o + i * 3, none⟩ = some (.string (str (bytesOf y.1)))
        rw [← str_of]
        exact this
      · have := hcell 1 _ rfl
        exact this
      · have := hcell 2 _ rfl
        exact this
theorem encL_byte {l : List Chg} (hB : ChgB l) (hl : l.length ≤ 1000000) : IsB (Sto.encL l) := by
  have h9 : ∀ x, x < 18446744073709551616 → IsB (Sto.varF x) := fun x hx => var_byte 9 x (by
    have h10 : (128 : Nat) ^ (9 + 1) = 1180591620717411303424 := by decide
    omega)
  unfold Sto.encL
  refine (h9 _ (by omega)).app ?_
  intro x hx
  obtain ⟨c, hc, hx⟩ := List.mem_flatMap.1 hx
  obtain ⟨h1, h2, h3, h4⟩ := hB c hc
  unfold Sto.enc1 at hx
  rcases List.mem_cons.1 hx with h | h
  · split at h <;> omega
  · have hk : IsB (Sto.counted c.key) := (h9 _ (by omega)).app h1
    have hv : IsB (Sto.counted c.val) := (h9 _ (by omega)).app h2
    rcases List.mem_append.1 h with h | h
    · exact hk x h
    · split at h
      · simp at h
      · exact hv x h
theorem encL_len {l : List Chg} (h : Sto.chk l = 0) : (Sto.encL l).length ≤ 100000 := by
  have h1 := Sto.chk_good h
  have h2 := encs_len l (fun c hc => ⟨(h1.1 c hc).2.1, (h1.1 c hc).2.2⟩)
  have h3 := varF_len l.length
  unfold Sto.encL
  rw [List.length_append]; omega
end Go.Proofs.Ytbiohidelhfaiaa
end

section
namespace Go.Proofs.Ytbiohidelhfaiaa
open Go.RowKit Go.Canon Go.Mem
set_option linter.unusedVariables false
def Live (w : World) (ok : Nat → Prop) (u : Value) (n : Nat) : Prop := n = 0 ∨ ∃ g c cur, u = .slice (some ⟨g, 0, none⟩) n c ∧ ok g ∧ w.heap[g]? = some (.cells cur 5 (0, 0)) ∧ n ≤ cur.size
theorem Live.of_own {w : World} {ok : Nat → Prop} {u : Value} {n : Nat} {cs : List Value} (h : OwnRow w ok 5 1 u n cs) : Live w ok u n := by
  rcases Nat.eq_zero_or_pos n with h0 | h0
  · exact .inl h0
  · obtain ⟨g, cap, cur, e, hg, hb, h1, h2, h3, h4⟩ := h.form (by omega)
    exact .inr ⟨g, cap, cur, e, hg, hb, by omega⟩
theorem Live.mono {w : World} {ok ok' : Nat → Prop} {u : Value} {n : Nat} (h : Live w ok u n) (ho : ∀ j, u.ownBlock = some j → ok j → ok' j) : Live w ok' u n := by
  rcases h with h | ⟨g, c, cur, rfl, h1, h2⟩
  · exact .inl h
  · exact .inr ⟨g, c, cur, rfl, ho g rfl h1, h2⟩
theorem Live.kept {w w' : World} {ok S : Nat → Prop} {u : Value} {n : Nat} (h : Live w ok u n) (hk : Keeps S w w') (hn : ∀ k, ok k → ¬ S k) : Live w' ok u n := by
  rcases h with h | ⟨g, c, cur, e, h1, h2, h3⟩
  · exact .inl h
  · exact .inr ⟨g, c, cur, e, h1, hk.heap h2 (hn g h1), h3⟩
theorem Live.set {w w' : World} {ok : Nat → Prop} {u : Value} {n b o : Nat} {t : TypeId} {v : Value} {cs : List Value} (h : Live w ok u n) (hk : Keeps (· = b) w w') (hb : w.heap[b]? = some (.cells cs.toArray t (0, 0))) (hb' : w'.heap[b]? = some (.cells (cs.set o v).toArray t (0, 0))) : Live w' ok u n := by
  rcases h with h | ⟨g, c, cur, e, h1, h2, h3⟩
  · exact .inl h
  · by_cases hg : g = b
    · subst hg
      rw [hb] at h2
      simp only [Option.some.injEq, Obj.cells.injEq] at h2
      obtain ⟨rfl, rfl, _⟩ := h2
      exact .inr ⟨g, c, _, e, h1, hb', by simpa using h3⟩
    · exact .inr ⟨g, c, cur, e, h1, hk.heap h2 hg, h3⟩
theorem info_b1 : (Try.prog.info? 5).map (·.size) = some 1 := by kernel_rfl
end Go.Proofs.Ytbiohidelhfaiaa
end

section
namespace Go.Proofs.Ytbiohidelhfaiaa
open Go.RowKit Go.Canon Go.Mem Go.Args
open Go.Proofs.Ytbiohidelhfaiaa.Sto (Chg)
set_option linter.unusedVariables false
set_option linter.unusedSimpArgs false
set_option maxHeartbeats 6400000 in
set_option maxRecDepth 100000 in
theorem texts11_in (W : World) (v vb : Value) (l : List Chg) (b : List Int) (hB : ChgW l) (hl : l.length ≤ maxLen) (h : Chgs W (fun k => k < W.heap.size) v l) (hr : Rd W (fun k => k < W.heap.size) vb b.length (Disk.bytes8 b)) (hb : IsB b) : Calls Try.prog 3 #[v, vb] W (Rets (Yes W)) := by
  have HF := Lib.hid (few_c l hB hl v h (fun _ h => h))
  have HCu := Lib.hid (fun (w' : World) (K : Keeps (fun _ => False) W w') => cut_c vb b (hr.kept K (fun _ _ h => h)) 9000)
  have hB1 := fewC_B hB
  have hl1 := fewC_len l
  have hff := fewC_fewC l
  have hbb : IsB (b.take 9000) := hb.take _
  have hbl : (b.take 9000).length ≤ 9000 := by rw [List.length_take]; omega
  obtain ⟨A, c, hv, _⟩ := id h
  obtain ⟨Ab, cb, hvb, _⟩ := hr.slice
  clear h hB hr hb
  generalize fewC l = l1 at *
  generalize b.take 9000 = b1 at *
  have HFm := Lib.hid (fun (w' : World) (ok : Nat → Prop) (v : Value) (h : Chgs w' ok v l1) (hok : ∀ k, ok k → k < w'.heap.size) => few_c l1 hB1.wide (by simp only [maxLen]; omega) v h hok)
  rw [hff] at HFm
  have HB1 := Lib.hid hB1
  have HBb := Lib.hid hbb
  have HEn := Lib.hid (fun (w' : World) (ok : Nat → Prop) (v : Value) (h : Chgs w' ok v l1) (hok : ∀ k, ok k → k < w'.heap.size) => encode_c l1 hB1 (by omega) v h hok)
  have HRe := Lib.hid (fun (w' : World) (ok : Nat → Prop) (v : Value) (h : Chgs w' ok v l1) (hok : ∀ k, ok k → k < w'.heap.size) => rencode_c l1 hB1 (by omega) v h hok)
  have HCk := Lib.hid (fun (w' : World) (ok : Nat → Prop) (v : Value) (h : Chgs w' ok v l1) (hok : ∀ k, ok k → k < w'.heap.size) => check_c l1 hB1 (by omega) v h hok)
  have HRc := Lib.hid (fun (w' : World) (ok : Nat → Prop) (v : Value) (h : Chgs w' ok v l1) => rcheck_c l1 hB1 (by omega) v h)
  have HDe := Lib.hid (fun (w' : World) (ok : Nat → Prop) (v : Value) (h : Rd w' ok v b1.length (Disk.bytes8 b1)) (hok : ∀ k, ok k → k < w'.heap.size) => decode_c v b1 h hbb (by omega) hok)
  have HRd := Lib.hid (fun (w' : World) (ok : Nat → Prop) (v : Value) (h : Rd w' ok v b1.length (Disk.bytes8 b1)) (hok : ∀ k, ok k → k < w'.heap.size) => rdecode_c v b1 h hbb (by omega) hok)
  rw [Sto.dec_doc b1 hbb] at HRd
  have hEl : (Sto.enc l1).1.length ≤ 100000 := by
    unfold Sto.enc
    split
    · exact Nat.zero_le _
    · rename_i h
      exact encL_len (Classical.not_not.1 h)
  obtain ⟨hDB, hDl, _⟩ := dec_chgB hbb
  have HDB := Lib.hid hDB
  clear hbb hB1 hDB hff
  subst hv hvb
  generalize Sto.enc l1 = E at *
  generalize Sto.dec b1 = D at *
  generalize Sto.chk l1 = ck at *
  obtain ⟨E, e⟩ := E
  obtain ⟨D, f⟩ := D
  simp only at hEl hDl HDB
  have HAl := Lib.hid (fun (w' : World) (ok ok2 : Nat → Prop) (v v2 : Value) (h : Chgs w' ok v l1) (h2 : Chgs w' ok2 v2 l1) => alike_c l1 l1 HB1.out HB1.out (by omega) (by omega) v v2 h h2)
  rw [decide_eq_true (rfl : l1 = l1)] at HAl
  have HAd := Lib.hid (fun (w' : World) (ok ok2 : Nat → Prop) (v v2 : Value) (h : Chgs w' ok v D) (h2 : Chgs w' ok2 v2 D) => alike_c D D HDB.out HDB.out (by omega) (by omega) v v2 h h2)
  rw [decide_eq_true (rfl : D = D)] at HAd
  have q1 : (e != e) = false := by simp
  have q2 : (f != f) = false := by simp
  have q3 : (ck != ck) = false := by simp
  go_enter Try.func3, Try.ntmps3
  go_wp2_with (first
    | (go_at_call 9; refine Rets.use (HFm.out _ _ _ hO1.chgs (fun k h => h.2)) ?_; rintro v2 w2 ⟨hk2, hO2⟩; have hz2 := hk2.size)
    | (go_at_call 9; refine Rets.use HF.out ?_; rintro v1 w1 ⟨hk1, hO1⟩; have hz1 := hk1.size)
    | (go_at_call 10; refine Rets.use (HCu.out _ hk1) ?_; rintro vc _ ⟨hrc, rfl⟩)
    | (go_at_call 11; refine Rets.use (copy_c _ b1 (hrc.kept hk2 (fun _ _ h => h)) (by omega)) ?_; rintro v3 w3 ⟨hO3, hk3⟩; have hz3 := hk3.size; have hL3 := (hO1.chgs.kept hk2 (fun _ _ h => h)).kept hk3 (fun _ _ h => h); have hM3 := hO2.chgs.kept hk3 (fun _ _ h => h); have hc3 := (hrc.kept hk2 (fun _ _ h => h)).kept hk3 (fun _ _ h => h))
    | (go_at_call 12; refine Rets.use (HEn.out _ _ _ hM3 (fun k h => by omega)) ?_; rintro _ w4 ⟨hk4, u4, rfl, hO4⟩; have hz4 := hk4.size)
    | (go_at_call 13; refine Rets.use (HRe.out _ _ _ (hL3.kept hk4 (fun _ _ h => h)) (fun k h => by omega)) ?_; rintro _ w5 ⟨hk5, u5, rfl, hO5⟩; have hz5 := hk5.size; have hM5 := ((hM3.kept hk4 (fun _ _ h => h)).kept hk5 (fun _ _ h => h)).mono (ok' := fun j => j < w5.heap.size) (fun k h => by omega); have hL5 := ((hL3.kept hk4 (fun _ _ h => h)).kept hk5 (fun _ _ h => h)).mono (ok' := fun j => j < w5.heap.size) (fun k h => by omega); have hc5 := ((hc3.kept hk4 (fun _ _ h => h)).kept hk5 (fun _ _ h => h)).mono (ok' := fun j => j < w5.heap.size) (fun k (h : k < W.heap.size) => by omega); have hw5 := ((((hO3.mono (ok' := fun j => j < w3.heap.size) (fun j hj _ => hj)).rd.kept hk4 (fun _ _ h => h)).kept hk5 (fun _ _ h => h))).mono (ok' := fun j => j < w5.heap.size) (fun k (h : k < w3.heap.size) => by omega); have K05 := Lib.hid ((((hk1.trans hk2 (fun _ _ h => h)).trans hk3 (fun _ _ h => h)).trans hk4 (fun _ _ h => h)).trans hk5 (fun _ _ h => h)))
    | (go_at_call 14; refine Rets.use (HDe.out _ _ _ hw5 (fun k h => h)) ?_; rintro _ w6 ⟨hk6, u6, rfl, hO6⟩; have hz6 := hk6.size)
    | (go_at_call 15; refine Rets.use (HRd.out _ _ _ (hc5.kept hk6 (fun _ _ h => h)) (fun k (h : k < w5.heap.size) => by omega)) ?_; rintro _ w7 ⟨hk7, u7, rfl, hO7⟩; have hz7 := hk7.size)
    | (go_at_call 16; refine Rets.use (same_c _ _ E E ((((hO4.rd).kept hk5 (fun _ _ h => h)).kept hk6 (fun _ _ h => h)).kept hk7 (fun _ _ h => h)) (((hO5.rd).kept hk6 (fun _ _ h => h)).kept hk7 (fun _ _ h => h)) (by omega)) ?_; rintro _ w8 ⟨rfl, hk8⟩; rw [decide_eq_true (rfl : E = E)])
    | (go_at_call 17; refine Rets.use (HAd.out _ _ _ _ _ ((hO6.chgs.kept hk7 (fun _ _ h => h)).kept hk8 (fun _ _ h => h)) (hO7.chgs.kept hk8 (fun _ _ h => h))) ?_; rintro _ w9 ⟨rfl, hk9⟩; have hM9 := (((hM5.kept hk6 (fun _ _ h => h)).kept hk7 (fun _ _ h => h)).kept hk8 (fun _ _ h => h)).kept hk9 (fun _ _ h => h); have hz8 := hk8.size; have hz9 := hk9.size)
    | (go_at_call 18; refine Rets.use (HCk.out _ _ _ hM9 (fun k (h : k < w5.heap.size) => by omega)) ?_; rintro _ w10 ⟨rfl, hk10⟩)
    | (go_at_call 19; refine Rets.use (HRc.out _ _ _ (((((hL5.kept hk6 (fun _ _ h => h)).kept hk7 (fun _ _ h => h)).kept hk8 (fun _ _ h => h)).kept hk9 (fun _ _ h => h)).kept hk10 (fun _ _ h => h))) ?_; rintro _ w11 ⟨rfl, hk11⟩; obtain ⟨A6, c6, rfl, _⟩ := hO6.slice))
  have K7 := Lib.hid ((((hk7.trans hk8 (fun _ _ h => h)).trans hk9 (fun _ _ h => h)).trans hk10 (fun _ _ h => h)).trans hk11 (fun _ _ h => h))
  have K5 := Lib.hid (hk6.trans K7.out (fun _ _ h => h))
  have hO11 := hO6.kept K7.out (fun _ _ h => h)
  have HM5 := Lib.hid hM5
  have HL5 := Lib.hid hL5
  have Hc5 := Lib.hid hc5
  have Hw5 := Lib.hid hw5
  have hWw : W.heap.size ≤ w5.heap.size := K05.out.size
  have hw11 := K5.out.size
  clear hk1 hk2 hk3 hk4 hk5 hk6 hk7 hk8 hk9 hk10 hk11 hO1 hO2 hO3 hO4 hO5 hO6 hO7 hrc hc3 hL3 hM3 hM5 hL5 hc5 hw5 hM9
  obtain ⟨vs, hvs, hrow, hval, hap⟩ := hO11
  have HCell := Lib.hid (show ∀ (i : Nat) (c : Chg) (u : Value), D[i]? = some c → vs[i]? = some u → ∃ g Au cu, A6 = some ⟨g, 0, none⟩ ∧ w5.heap.size ≤ g ∧ w11.cell? ⟨g, i * 3 + 2, none⟩ = some u ∧ u = .slice Au c.val.length cu ∧ c.val.length ≤ 1000000 from fun i c u hc hu => by
    have hil := (List.getElem?_eq_some_iff.1 hc).1
    obtain ⟨g, cap, cur, e, hg, hb, _⟩ := hrow.form (by omega)
    cases e
    obtain ⟨Au, cu, hu2, _⟩ := (hval i c u hc hu).slice
    have := hrow.cells (g := g) (m := D.length) (c := c6) rfl (i * 3 + 2) u (by rw [chgCells_at D vs i c u hc hu 2 (by decide)]; rfl)
    exact ⟨g, Au, cu, rfl, hg, this, hu2, (HDB.out c (List.mem_of_getElem? hc)).2.2.2⟩)
  have HLv := Lib.hid (show ∀ (i : Nat) (c : Chg) (u : Value), D[i]? = some c → vs[i]? = some u → Live w11 (fun j => w5.heap.size ≤ j ∧ (Value.slice A6 D.length c6).ownBlock ≠ some j) u c.val.length from fun i c u hc hu =>
    (Live.of_own (hval i c u hc hu)).mono (fun j hj h => ⟨h, fun e => hap u (List.mem_of_getElem? hu) j e hj⟩))
  have hvl : ∀ i, i < D.length → ∃ u, vs[i]? = some u := fun i hi => ⟨vs[i]'(by omega), List.getElem?_eq_getElem (by omega)⟩
  have HVl := Lib.hid hvl
  clear hrow hval hap hvs hvl
  go_loopw [15] (fun iv wr => ∃ i : Nat, i ≤ D.length ∧ iv = .int .i64 i ∧ Keeps (fun j => w5.heap.size ≤ j ∧ (Value.slice A6 D.length c6).ownBlock ≠ some j) w11 wr ∧ Hid (∀ (i : Nat) (c : Chg) (u : Value), D[i]? = some c → vs[i]? = some u → Live wr (fun j => w5.heap.size ≤ j ∧ (Value.slice A6 D.length c6).ownBlock ≠ some j) u c.val.length)) (fun iv _ => D.length - (intOf iv).toNat)
  case atStart => exact ⟨0, Nat.zero_le _, rfl, Keeps.refl _ _, HLv⟩
  case round =>
    obtain ⟨i, hi, rfl, hkr, HLr⟩ := hrel
    have HKr := Lib.hid hkr
    clear hkr
    by_cases hlt : i < D.length
    · obtain ⟨u, hu⟩ := HVl.out i hlt
      have hc := List.getElem?_eq_getElem hlt
      obtain ⟨g, Au, cu, rfl, hg, hcell, rfl, hcl⟩ := HCell.out i _ _ hc hu
      have HC2 := Lib.hid hcell
      have HLi := Lib.hid (fun (w' : World) (h : ∀ (i : Nat) (c : Chg) (u : Value), D[i]? = some c → vs[i]? = some u → Live w' (fun j => w5.heap.size ≤ j ∧ (Value.slice (some ⟨g, 0, none⟩) D.length c6).ownBlock ≠ some j) u c.val.length) => h i _ _ hc hu)
      generalize D[i].val.length = n at *
      clear hc hu hcell
      go_wp2
      go_loopw [16] (fun kv wr => ∃ k : Nat, k ≤ n ∧ kv = .int .i64 k ∧ Keeps (fun j => w5.heap.size ≤ j ∧ (Value.slice (some ⟨g, 0, none⟩) D.length c6).ownBlock ≠ some j) w11 wr ∧ Hid (∀ (i : Nat) (c : Chg) (u : Value), D[i]? = some c → vs[i]? = some u → Live wr (fun j => w5.heap.size ≤ j ∧ (Value.slice (some ⟨g, 0, none⟩) D.length c6).ownBlock ≠ some j) u c.val.length)) (fun kv _ => n - (intOf kv).toNat)
      case atStart => exact ⟨0, Nat.zero_le _, rfl, HKr.out, HLr⟩
      case round =>
        obtain ⟨k, hk, rfl, hkk, HLk⟩ := hrel
        have d2 := hkk.cell HC2.out (fun h => h.2 rfl)
        have HKk := Lib.hid hkk
        clear hkk
        by_cases hkn : k < n
        · rcases HLi.out _ HLk.out with h0 | ⟨g2, c2, cur, e, hg2, hb, hn⟩
          · omega
          · cases e
            have hb' : wr.heap[g2]? = some (.cells cur.toList.toArray 5 (0, 0)) := by simpa using hb
            have HG2 := Lib.hid hg2
            clear hb hg2
            go_wp2_with ((with_reducible refine at_store 5 (.tmp 94) (.const (.int .u8 7)) rfl ?_); go_must (refine step_store1 rfl _ _ _ rfl g2 k (.int .u8 7) cur.toList _ rfl rfl rfl hb' (by rw [Array.length_toList]; omega) info_b1 ?_); intro wz hbz hkz hsz)
            go_roundw
            case rel => exact ⟨k + 1, by omega, by go_num, HKk.out.trans hkz (fun j _ e => by subst e; exact HG2.out), Lib.hid (fun i c u hc hu => (HLk.out i c u hc hu).set hkz hb' hbz)⟩
            case measure => simp [intOf]; omega
        · obtain rfl : k = n := by omega
          go_wp2
          go_roundw
          case rel => exact ⟨i + 1, by omega, by go_num, HKk.out, HLk⟩
          case measure => simp [intOf]; omega
    · have K12 := Lib.hid ((K5.out.mono (S' := fun j => w5.heap.size ≤ j) (fun _ _ h => h.elim)).trans HKr.out (fun j _ h => h.1))
      go_wp2_with (first
        | (go_at_call 17; refine Rets.use (HAl.out _ _ _ _ _ (HM5.out.kept K12.out (fun k (h : k < w5.heap.size) (h2 : w5.heap.size ≤ k) => by omega)) (HL5.out.kept K12.out (fun k (h : k < w5.heap.size) (h2 : w5.heap.size ≤ k) => by omega))) ?_; rintro _ w13 ⟨rfl, hk13⟩)
        | (go_at_call 16; refine Rets.use (same_c _ _ b1 b1 ((Hw5.out.kept K12.out (fun k (h : k < w5.heap.size) (h2 : w5.heap.size ≤ k) => by omega)).kept hk13 (fun _ _ h => h)) ((Hc5.out.kept K12.out (fun k (h : k < w5.heap.size) (h2 : w5.heap.size ≤ k) => by omega)).kept hk13 (fun _ _ h => h)) (by omega)) ?_; rintro _ w14 ⟨rfl, hk14⟩; rw [decide_eq_true (rfl : b1 = b1)])
        | (go_at_call 20; refine Rets.use (lives11_c _) ?_; rintro v9 w15 ⟨rfl, hk15⟩))
      go_ret
      exact ⟨rfl, ((((K05.out.mono (S' := fun j => w5.heap.size ≤ j) (fun _ _ h => h.elim)).trans K12.out (fun _ _ h => h)).mono (S' := fun _ => False) (fun j hj h => by omega)).trans hk13 (fun _ _ h => h)).trans hk14 (fun _ _ h => h) |>.trans hk15 (fun _ _ h => h)⟩
theorem storeTexts_walk (W : World) (a0 : Option Addr) (len0 cap0 : Nat) (x0 : List (ByteArray × Bool × List Int × Unit)) (H0 : Has W KChg [.slice a0 len0 cap0] x0) (a1 : Option Addr) (len1 cap1 : Nat) (x1 : List Int) (H1 : Has W (.slice (.int .u8)) [.slice a1 len1 cap1] x1) : Calls Try.prog 3 #[.slice a0 len0 cap0, .slice a1 len1 cap1] W (Rets (Yes W)) := by
  obtain ⟨l, h1, h2, h3⟩ := KChg_of H0
  exact texts11_in W _ _ l x1 h1 h2 h3 H1.bytes.1 (chg_byte H1)
end Go.Proofs.Ytbiohidelhfaiaa
end
