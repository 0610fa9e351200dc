/-
  Answers: the walks of Reason, lead, Answer, the program's and the document's.
-/
import Derived.Test.YtibegbmehpggbaaDoorAnsP
import Derived.Test.YtibegbmehpggbaaDoorWireV
import Derived.Test.YtibegbmehpggbaaDoorMarkA
import Derived.Test.YtibegbmehpggbaaDoorTxtE
import Derived.Test.YtibegbmehpggbaaDoorTxtD
namespace Go.Proofs.YtibegbmehpggbaaDoor
open Go.RowKit Go.Canon Go.Mem
set_option linter.unusedVariables false
set_option linter.unusedSimpArgs false
/-- The list of statuses, in memory. -/
def CodesIn (w : World) (b o c : Nat) : Prop := w.cell? ⟨0, 0, none⟩ = some (.slice (some ⟨b, o, none⟩) 12 c) ∧ ∀ (k : Nat) (x : Int), Ans.codes[k]? = some x → w.cell? ⟨b, o + k, none⟩ = some (.int .i64 x)
theorem CodesIn.kept {w w' : World} {b o c : Nat} (h : CodesIn w b o c) (hk : Keeps (fun _ => False) w w') : CodesIn w' b o c := ⟨hk.cell h.1 (fun h => h), fun k x hx => hk.cell (h.2 k x hx) (fun h => h)⟩
theorem reason_at {k : Nat} (h : k < Ans.tab.length) : Ans.reason Ans.tab[k].1 = Ans.tab[k].2 := by
  have : ∀ k : Fin 12, Ans.reason (Ans.tab[k.val]'(k.isLt)).1 = (Ans.tab[k.val]'(k.isLt)).2 := by decide
  exact this ⟨k, h⟩
theorem reason_none {x : Int} (h : ∀ p ∈ Ans.tab, p.1 ≠ x) : Ans.reason x = [] := by
  unfold Ans.reason
  rw [List.find?_eq_none.2 (fun p hp => by simpa using h p hp)]
theorem reason_len (x : Int) : (Ans.reason x).length ≤ 21 := by
  unfold Ans.reason
  split
  · rename_i p hp
    have h1 := List.mem_of_find?_eq_some hp
    have : (Ans.tab.all fun p => decide (p.2.length ≤ 21)) = true := by decide
    exact of_decide_eq_true (List.all_eq_true.1 this p h1)
  · exact Nat.zero_le _
theorem codes_at {k : Nat} (h : k < Ans.tab.length) : Ans.codes[k]? = some Ans.tab[k].1 := by unfold Ans.codes; rw [List.getElem?_map, List.getElem?_eq_getElem h]; rfl
theorem words_at {k : Nat} (h : k < Ans.tab.length) : (strs Ans.words)[k]? = some (.string (str Ans.tab[k].2)) := by unfold strs Ans.words; rw [List.getElem?_map, List.getElem?_map, List.getElem?_eq_getElem h]; rfl
theorem code_range {x : Int} (h : Ans.reason x ≠ []) : 0 ≤ x ∧ x ≤ 1000 := by
  have h1 := Ans.reason_mem h
  have : (Ans.codes.all fun c => decide (0 ≤ c ∧ c ≤ 1000)) = true := by decide
  exact of_decide_eq_true (List.all_eq_true.1 this x h1)
def SayIs (w : World) (l : List Int) : Value → World → Prop := fun v w' => v = .string (str l) ∧ Keeps (fun _ => False) w w'
set_option maxHeartbeats 1600000 in
set_option maxRecDepth 100000 in
theorem reasonW_c {w : World} {b o c : Nat} (hc : CodesIn w b o c) (x : Int) : Calls Tryd.prog 11 #[.int .i64 x] w (Rets (SayIs w (Ans.reason x))) := by
  have HC := Lib.hid hc
  clear hc
  go_enter Tryd.func11, Tryd.ntmps11
  go_wp2_with (first
    | ((with_reducible refine at_ 6 rfl ?_); go_must (refine step_lit rfl 41 _ 12 rfl (strs Ans.words) rfl rfl (by decide) 9 _ 1 Tryd.underlying41 row2_str (by decide) (by decide) (by intro v hv; obtain ⟨p, _, rfl⟩ := List.mem_map.1 hv; rfl) ?_); intro w2 hb2 hk2 hs2; have cg := hk2.cell HC.out.1 (fun h => h)))
  have HC2 := Lib.hid (HC.out.kept hk2)
  have HB2 := Lib.hid (show w2.heap[w.heap.size]? = some (.cells (strs Ans.words).toArray 9 (0, 0)) from hb2)
  clear hb2
  go_loopw [4, 5, 9] (fun q1 q2 i wr => ∃ k : Nat, k ≤ 12 ∧ i = .int .i64 k ∧ wr = w2 ∧ Hid (∀ p ∈ Ans.tab.take k, p.1 ≠ x)) (fun _ _ i _ => 12 - (intOf i).toNat)
  case atStart => exact ⟨0, Nat.zero_le _, rfl, rfl, Lib.hid (by simp)⟩
  case round =>
    obtain ⟨k, hk, rfl, hw, HN⟩ := hrel
    subst wr
    by_cases hlt : k < 12
    · have hlt2 : k < Ans.tab.length := hlt
      have cx := HC2.out.2 k _ (codes_at hlt2)
      have cs : w2.cell? ⟨w.heap.size, k, none⟩ = some (.string (str Ans.tab[k].2)) := (cell_of_row w2 _ k _ _ _ HB2.out).trans (by rw [List.getElem?_toArray]; exact words_at hlt2)
      have HR := Lib.hid (reason_at hlt2)
      have HT := Lib.hid (show Ans.tab.take (k + 1) = Ans.tab.take k ++ [Ans.tab[k]] by rw [List.take_add_one, List.getElem?_eq_getElem hlt2]; rfl)
      generalize Ans.tab[k] = p at *
      obtain ⟨p1, p2⟩ := p
      simp only at cx cs HR
      by_cases he : p1 = x
      · subst he
        have hq : (p1 == p1) = true := by simp
        go_wp2
        go_ret
        exact ⟨by rw [HR.out] <;> rfl, hk2⟩
      · have hq : (p1 == x) = false := by simpa using he
        have HN2 := Lib.hid (show ∀ p ∈ Ans.tab.take (k + 1), p.1 ≠ x by
          rw [HT.out]
          intro p hp
          rcases List.mem_append.1 hp with hp | hp
          · exact HN.out p hp
          · rw [List.mem_singleton] at hp; subst hp; exact he)
        clear he
        go_wp2
        go_roundw
        case rel => exact ⟨k + 1, by omega, by go_num, by trivial, HN2⟩
        case measure => simp [intOf]; omega
    · obtain rfl : k = 12 := by omega
      have HR := Lib.hid (reason_none (x := x) (fun p hp => HN.out p hp))
      go_wp2
      go_ret
      exact ⟨by rw [HR.out] <;> rfl, hk2⟩
set_option maxHeartbeats 1600000 in
set_option maxRecDepth 100000 in
theorem rreason_c (x : Int) (w : World) : Calls Tryd.prog 12 #[.int .i64 x] w (Rets (Only (.string (str (Ans.reason x))) w)) := by
  by_cases e0 : x = 200
  · subst e0
    go_enter Tryd.func12, Tryd.ntmps12
    go_wp2
    go_ret
    exact ⟨rfl, rfl⟩
  have d0 : (x == 200) = false := by simpa using e0
  by_cases e1 : x = 400
  · subst e1
    go_enter Tryd.func12, Tryd.ntmps12
    go_wp2
    go_ret
    exact ⟨rfl, rfl⟩
  have d1 : (x == 400) = false := by simpa using e1
  by_cases e2 : x = 401
  · subst e2
    go_enter Tryd.func12, Tryd.ntmps12
    go_wp2
    go_ret
    exact ⟨rfl, rfl⟩
  have d2 : (x == 401) = false := by simpa using e2
  by_cases e3 : x = 403
  · subst e3
    go_enter Tryd.func12, Tryd.ntmps12
    go_wp2
    go_ret
    exact ⟨rfl, rfl⟩
  have d3 : (x == 403) = false := by simpa using e3
  by_cases e4 : x = 404
  · subst e4
    go_enter Tryd.func12, Tryd.ntmps12
    go_wp2
    go_ret
    exact ⟨rfl, rfl⟩
  have d4 : (x == 404) = false := by simpa using e4
  by_cases e5 : x = 405
  · subst e5
    go_enter Tryd.func12, Tryd.ntmps12
    go_wp2
    go_ret
    exact ⟨rfl, rfl⟩
  have d5 : (x == 405) = false := by simpa using e5
  by_cases e6 : x = 409
  · subst e6
    go_enter Tryd.func12, Tryd.ntmps12
    go_wp2
    go_ret
    exact ⟨rfl, rfl⟩
  have d6 : (x == 409) = false := by simpa using e6
  by_cases e7 : x = 413
  · subst e7
    go_enter Tryd.func12, Tryd.ntmps12
    go_wp2
    go_ret
    exact ⟨rfl, rfl⟩
  have d7 : (x == 413) = false := by simpa using e7
  by_cases e8 : x = 422
  · subst e8
    go_enter Tryd.func12, Tryd.ntmps12
    go_wp2
    go_ret
    exact ⟨rfl, rfl⟩
  have d8 : (x == 422) = false := by simpa using e8
  by_cases e9 : x = 429
  · subst e9
    go_enter Tryd.func12, Tryd.ntmps12
    go_wp2
    go_ret
    exact ⟨rfl, rfl⟩
  have d9 : (x == 429) = false := by simpa using e9
  by_cases e10 : x = 503
  · subst e10
    go_enter Tryd.func12, Tryd.ntmps12
    go_wp2
    go_ret
    exact ⟨rfl, rfl⟩
  have d10 : (x == 503) = false := by simpa using e10
  by_cases e11 : x = 507
  · subst e11
    go_enter Tryd.func12, Tryd.ntmps12
    go_wp2
    go_ret
    exact ⟨rfl, rfl⟩
  have d11 : (x == 507) = false := by simpa using e11
  have HR := Lib.hid (reason_none (x := x) (by
    intro p hp
    simp only [Ans.tab, List.mem_cons, List.not_mem_nil, or_false] at hp
    rcases hp with rfl | rfl | rfl | rfl | rfl | rfl | rfl | rfl | rfl | rfl | rfl | rfl <;> first | exact fun e => e0 e.symm | exact fun e => e1 e.symm | exact fun e => e2 e.symm | exact fun e => e3 e.symm | exact fun e => e4 e.symm | exact fun e => e5 e.symm | exact fun e => e6 e.symm | exact fun e => e7 e.symm | exact fun e => e8 e.symm | exact fun e => e9 e.symm | exact fun e => e10 e.symm | exact fun e => e11 e.symm))
  clear e0 e1 e2 e3 e4 e5 e6 e7 e8 e9 e10 e11
  go_enter Tryd.func12, Tryd.ntmps12
  go_wp2
  go_ret
  exact ⟨by rw [HR.out] <;> rfl, rfl⟩
set_option maxHeartbeats 1600000 in
set_option maxRecDepth 100000 in
theorem leadW_c {w : World} {b o c : Nat} (hc : CodesIn w b o c) (x : Int) (h0 : 0 ≤ x) (h1 : x ≤ 1000) : Calls Tryd.prog 17 #[.int .i64 x] w (Rets (SayIs w (Ans.lead x))) := by
  have HC := Lib.hid hc
  have hdl := dec_len x
  have hrl := reason_len x
  obtain ⟨sd, hsd⟩ : ∃ s, s = str (decF x) := ⟨_, rfl⟩
  obtain ⟨sr, hsr⟩ : ∃ s, s = str (Ans.reason x) := ⟨_, rfl⟩
  obtain ⟨s1, hs1⟩ : ∃ s, s = str (Ans.h1 ++ decF x) := ⟨_, rfl⟩
  obtain ⟨s2, hs2⟩ : ∃ s, s = str (Ans.h1 ++ decF x ++ [32]) := ⟨_, rfl⟩
  obtain ⟨s3, hs3⟩ : ∃ s, s = str (Ans.h1 ++ decF x ++ [32] ++ Ans.reason x) := ⟨_, rfl⟩
  obtain ⟨s4, hs4⟩ : ∃ s, s = str (Ans.lead x) := ⟨_, rfl⟩
  have hl1 : Ans.h1.length = 9 := rfl
  have hl2 : Ans.h2.length = 18 := rfl
  have a1 : ∀ w', (Op.stringOp .add ⟨#[72, 84, 84, 80, 47, 49, 46, 49, 32]⟩ sd).run Tryd.prog w' = .ok (.string s1) w' := fun w' => by rw [hs1, hsd]; exact add_str (a := Ans.h1) (by omega) w'
  have a2 : ∀ w', (Op.stringOp .add s1 ⟨#[32]⟩).run Tryd.prog w' = .ok (.string s2) w' := fun w' => by rw [hs1, hs2]; exact add_str (b := [32]) (by simp only [List.length_append, List.length_cons, List.length_nil]; omega) w'
  have a3 : ∀ w', (Op.stringOp .add s2 sr).run Tryd.prog w' = .ok (.string s3) w' := fun w' => by rw [hs2, hs3, hsr]; exact add_str (by simp only [List.length_append, List.length_cons, List.length_nil]; omega) w'
  have a4 : ∀ w', (Op.stringOp .add s3 ⟨#[13, 10, 67, 111, 110, 116, 101, 110, 116, 45, 76, 101, 110, 103, 116, 104, 58, 32]⟩).run Tryd.prog w' = .ok (.string s4) w' := fun w' => by rw [hs3, hs4]; exact add_str (b := Ans.h2) (by simp only [List.length_append, List.length_cons, List.length_nil]; omega) w'
  have HD := Lib.hid (fun w => dec_c x (by omega) (by omega) w)
  have HR := Lib.hid (fun w' (hk : Keeps (fun _ => False) w w') => reasonW_c (HC.out.kept hk) x)
  unfold SayIs at HR
  rw [← hsd] at HD
  rw [← hsr] at HR
  have HS := Lib.hid hs4
  clear hc hsd hsr hs1 hs2 hs3 hs4 hdl hrl
  go_enter Tryd.func17, Tryd.ntmps17
  go_wp2_with (first
    | (go_at_call 18; refine Rets.use (HD.out _) ?_; rintro v2 w2 ⟨rfl, hk2⟩)
    | (go_at_call 11; refine Rets.use (HR.out _ hk2) ?_; rintro v3 w3 ⟨rfl, hk3⟩))
  go_ret
  exact ⟨by rw [← HS.out] <;> rfl, hk2.trans hk3 (fun _ _ h => h)⟩
def AnsIs (w : World) (p : List Int × Int) : Value → World → Prop := fun v w' => Keeps (fun _ => False) w w' ∧ ∃ u, v = .tuple #[u, .int .i64 p.2] ∧ Rd w' (fun k => w.heap.size ≤ k) u p.1.length (Disk.bytes8 p.1)
theorem decI_byte (n : Int) : IsB (decF n) := dec_byte n
theorem h1_b : IsB Ans.h1 := by unfold Ans.h1 IsB; simp
theorem h2_b : IsB Ans.h2 := by unfold Ans.h2 IsB; simp
theorem fin4_b : IsB Ans.fin4 := by unfold Ans.fin4 IsB; simp
theorem reason_b (x : Int) : IsB (Ans.reason x) := by
  unfold Ans.reason
  split
  · rename_i p hp
    have h1 := List.mem_of_find?_eq_some hp
    have : (Ans.tab.all fun p => p.2.all fun x => decide (0 ≤ x ∧ x < 256)) = true := by decide
    exact fun y hy => of_decide_eq_true (List.all_eq_true.1 (List.all_eq_true.1 this p h1) y hy)
  · exact IsB.nil
theorem lead_b (x : Int) : IsB (Ans.lead x) := (((h1_b.app (dec_byte x)).app (IsB.one (by decide))).app (reason_b x)).app h2_b
theorem lead_len (x : Int) : (Ans.lead x).length ≤ 80 := by
  have h1 := dec_len x
  have h2 := reason_len x
  have hl1 : Ans.h1.length = 9 := rfl
  have hl2 : Ans.h2.length = 18 := rfl
  unfold Ans.lead
  simp only [List.length_append, List.length_cons, List.length_nil]
  omega
set_option maxHeartbeats 3200000 in
set_option maxRecDepth 100000 in
theorem answerW_c {w : World} {ok : Nat → Prop} {b o c : Nat} (hc : CodesIn w b o c) (x : Int) (l : List Int) (hB : IsB l) (hl : l.length ≤ 1000000) (v : Value) (hr : Rd w ok v l.length (Disk.bytes8 l)) : Calls Tryd.prog 8 #[.int .i64 x, v] w (Rets (AnsIs w (Ans.answer x l))) := by
  obtain ⟨A, cc, rfl, _⟩ := hr.slice
  have HC := Lib.hid hc
  have HR0 := Lib.hid hr
  have HRs := Lib.hid (reasonW_c hc x)
  unfold SayIs at HRs
  clear hr
  by_cases h0 : Ans.reason x = []
  · have HA := Lib.hid (show Ans.answer x l = ([], 2) by unfold Ans.answer; rw [if_pos h0])
    rw [h0] at HRs
    have hE : ((str []).toList == []) = true := by rw [ByteArray.toList_eq]; rfl
    generalize str [] = s0 at *
    clear hc h0
    go_enter Tryd.func8, Tryd.ntmps8
    go_wp2_with (first
      | (go_at_call 11; refine Rets.use HRs.out ?_; rintro v2 w2 ⟨rfl, hk2⟩))
    go_ret2
    rw [HA.out]
    exact ⟨hk2, .slice none 0 0, rfl, Rd.nil _ _⟩
  · have hE := str_nil h0
    obtain ⟨hx0, hx1⟩ := code_range h0
    have HLd := Lib.hid (fun w' (hk : Keeps (fun _ => False) w w') => leadW_c (HC.out.kept hk) x hx0 hx1)
    unfold SayIs at HLd
    generalize str (Ans.reason x) = sr at *
    by_cases hbig : 8192 < l.length
    · have HA := Lib.hid (show Ans.answer x l = ([], 5) by unfold Ans.answer; rw [if_neg h0, if_pos hbig])
      clear hc h0
      go_enter Tryd.func8, Tryd.ntmps8
      go_wp2_with (first
        | (go_at_call 11; refine Rets.use HRs.out ?_; rintro v2 w2 ⟨rfl, hk2⟩))
      go_ret2
      rw [HA.out]
      exact ⟨hk2, .slice none 0 0, rfl, Rd.nil _ _⟩
    · have HA := Lib.hid (show Ans.answer x l = (Ans.text x l, 0) by unfold Ans.answer; rw [if_neg h0, if_neg hbig])
      have hdl := dec_len (l.length : Int)
      have hll := lead_len x
      have hl4 : Ans.fin4.length = 4 := rfl
      obtain ⟨sl, hsl⟩ : ∃ s, s = str (Ans.lead x) := ⟨_, rfl⟩
      obtain ⟨sd, hsd⟩ : ∃ s, s = str (decF (l.length : Int)) := ⟨_, rfl⟩
      obtain ⟨s1, hs1⟩ : ∃ s, s = str (Ans.lead x ++ decF (l.length : Int)) := ⟨_, rfl⟩
      obtain ⟨s2, hs2⟩ : ∃ s, s = str (Ans.lead x ++ decF (l.length : Int) ++ Ans.fin4) := ⟨_, rfl⟩
      have a1 : ∀ w', (Op.stringOp .add sl sd).run Tryd.prog w' = .ok (.string s1) w' := fun w' => by rw [hs1, hsl, hsd]; exact add_str (by omega) w'
      have a2 : ∀ w', (Op.stringOp .add s1 ⟨#[13, 10, 13, 10]⟩).run Tryd.prog w' = .ok (.string s2) w' := fun w' => by rw [hs1, hs2]; exact add_str (b := Ans.fin4) (by simp only [List.length_append]; omega) w'
      have HD := Lib.hid (fun w => dec_c (l.length : Int) (by omega) (by omega) w)
      rw [← hsd] at HD
      rw [← hsl] at HLd
      have HS := Lib.hid hs2
      have HFb := Lib.hid (show IsB (Ans.lead x ++ decF (l.length : Int) ++ Ans.fin4) from ((lead_b x).app (dec_byte _)).app fin4_b)
      have hfl : (Ans.lead x ++ decF (l.length : Int) ++ Ans.fin4).length ≤ 200 := by simp only [List.length_append]; omega
      obtain ⟨TX, hTX⟩ : ∃ t, Ans.text x l = t := ⟨_, rfl⟩
      have HTX := Lib.hid (show TX = (Ans.lead x ++ decF (l.length : Int) ++ Ans.fin4) ++ l by rw [← hTX]; rfl)
      have HTx := Lib.hid hTX
      clear hTX
      generalize Ans.lead x ++ decF (l.length : Int) ++ Ans.fin4 = F at *
      clear hc h0 hsl hsd hs1 hs2 hdl hll
      go_enter Tryd.func8, Tryd.ntmps8
      go_wp2_with (first
        | (go_at_call 11; refine Rets.use HRs.out ?_; rintro v2 w2 ⟨rfl, hk2⟩)
        | (go_at_call 17; refine Rets.use (HLd.out _ hk2) ?_; rintro v3 w3 ⟨rfl, hk3⟩)
        | (go_at_call 18; refine Rets.use (HD.out _) ?_; rintro v4 w4 ⟨rfl, hk4⟩; have HK4 := Lib.hid ((hk2.trans hk3 (fun _ _ h => h)).trans hk4 (fun _ _ h => h)))
        | ((with_reducible refine at_ 19 rfl ?_); go_must (refine step_str_mrow2 rfl _ _ _ rfl Tryd.underlying9 Tryd.underlying22 Tryd.underlying5 F HFb.out (by rw [← HS.out]; rfl) ?_); intro ce w5 hm5 hk5; have HM5 := Lib.hid hm5; have HK5 := Lib.hid (HK4.out.trans hk5 (fun _ _ h => h)); clear hm5)
        | ((with_reducible refine at_ 21 rfl ?_); go_must (refine step_append_m rfl _ _ _ rfl Tryd.underlying22 row_byte w4.heap.size ce F l rfl HM5.out (.slice A l.length cc) rfl (HR0.out.kept HK5.out (fun _ _ h => h)) (by omega) ?_); intro v6 w6 hr6 hk6; rw [← HTX.out] at hr6; have HR6 := Lib.hid hr6; obtain ⟨A6, c6, hv6, _⟩ := hr6.slice; subst hv6; have HK6 := Lib.hid hk6; clear hr6))
      go_ret2
      rw [HA.out]
      have z4 := HK4.out.size
      have z5 := HK5.out.size
      refine ⟨((HK5.out.mono (S' := fun k => w.heap.size ≤ k) (fun _ _ h => h.elim)).trans HK6.out (fun k _ h => by omega)).mono (S' := fun _ => False) (fun k hk h => by omega), .slice A6 _ c6, rfl, ?_⟩
      rw [HTx.out]
      exact HR6.out.mono (fun k h => by omega)
set_option maxHeartbeats 3200000 in
set_option maxRecDepth 100000 in
theorem ranswer_c {w : World} {ok : Nat → Prop} (x : Int) (l : List Int) (hB : IsB l) (hl : l.length ≤ 1000000) (v : Value) (hr : Rd w ok v l.length (Disk.bytes8 l)) : Calls Tryd.prog 9 #[.int .i64 x, v] w (Rets (AnsIs w (Ans.answer x l))) := by
  obtain ⟨A, cc, rfl, _⟩ := hr.slice
  have HR0 := Lib.hid hr
  have HRs := Lib.hid (fun w => rreason_c x w)
  clear hr
  by_cases h0 : Ans.reason x = []
  · have HA := Lib.hid (show Ans.answer x l = ([], 2) by unfold Ans.answer; rw [if_pos h0])
    rw [h0] at HRs
    have hE : ((str []).toList == []) = true := by rw [ByteArray.toList_eq]; rfl
    generalize str [] = s0 at *
    clear h0
    go_enter Tryd.func9, Tryd.ntmps9
    go_wp2_with (first
      | (go_at_call 12; refine Rets.use (HRs.out _) ?_; rintro _ _ ⟨rfl, rfl⟩))
    go_ret2
    rw [HA.out]
    exact ⟨Keeps.refl _ _, .slice none 0 0, rfl, Rd.nil _ _⟩
  · have hE := str_nil h0
    obtain ⟨hx0, hx1⟩ := code_range h0
    have hrl := reason_len x
    have HDx := Lib.hid (fun w => rdec64_c x (by omega) (by omega) w)
    obtain ⟨sr, hsr⟩ : ∃ s, s = str (Ans.reason x) := ⟨_, rfl⟩
    rw [← hsr] at hE HRs
    by_cases hbig : 8192 < l.length
    · have HA := Lib.hid (show Ans.answer x l = ([], 5) by unfold Ans.answer; rw [if_neg h0, if_pos hbig])
      clear h0 hsr
      go_enter Tryd.func9, Tryd.ntmps9
      go_wp2_with (first
        | (go_at_call 12; refine Rets.use (HRs.out _) ?_; rintro _ _ ⟨rfl, rfl⟩))
      go_ret2
      rw [HA.out]
      exact ⟨Keeps.refl _ _, .slice none 0 0, rfl, Rd.nil _ _⟩
    · have HA := Lib.hid (show Ans.answer x l = (Ans.text x l, 0) by unfold Ans.answer; rw [if_neg h0, if_neg hbig])
      have hdl := dec_len (l.length : Int)
      have hdx := dec_len x
      have hll := lead_len x
      have hl1 : Ans.h1.length = 9 := rfl
      have hl2 : Ans.h2.length = 18 := rfl
      have hl4 : Ans.fin4.length = 4 := rfl
      obtain ⟨sx, hsx⟩ : ∃ s, s = str (decF x) := ⟨_, rfl⟩
      obtain ⟨u1, hu1⟩ : ∃ s, s = str (Ans.h1 ++ decF x) := ⟨_, rfl⟩
      obtain ⟨u2, hu2⟩ : ∃ s, s = str (Ans.h1 ++ decF x ++ [32]) := ⟨_, rfl⟩
      obtain ⟨u3, hu3⟩ : ∃ s, s = str (Ans.h1 ++ decF x ++ [32] ++ Ans.reason x) := ⟨_, rfl⟩
      obtain ⟨sl, hsl⟩ : ∃ s, s = str (Ans.lead x) := ⟨_, rfl⟩
      obtain ⟨sd, hsd⟩ : ∃ s, s = str (decF (l.length : Int)) := ⟨_, rfl⟩
      obtain ⟨s1, hs1⟩ : ∃ s, s = str (Ans.lead x ++ decF (l.length : Int)) := ⟨_, rfl⟩
      obtain ⟨s2, hs2⟩ : ∃ s, s = str (Ans.lead x ++ decF (l.length : Int) ++ Ans.fin4) := ⟨_, rfl⟩
      have b1 : ∀ w', (Op.stringOp .add ⟨#[72, 84, 84, 80, 47, 49, 46, 49, 32]⟩ sx).run Tryd.prog w' = .ok (.string u1) w' := fun w' => by rw [hu1, hsx]; exact add_str (a := Ans.h1) (by omega) w'
      have b2 : ∀ w', (Op.stringOp .add u1 ⟨#[32]⟩).run Tryd.prog w' = .ok (.string u2) w' := fun w' => by rw [hu1, hu2]; exact add_str (b := [32]) (by simp only [List.length_append, List.length_cons, List.length_nil]; omega) w'
      have b3 : ∀ w', (Op.stringOp .add u2 sr).run Tryd.prog w' = .ok (.string u3) w' := fun w' => by rw [hu2, hu3, hsr]; exact add_str (by simp only [List.length_append, List.length_cons, List.length_nil]; omega) w'
      have b4 : ∀ w', (Op.stringOp .add u3 ⟨#[13, 10, 67, 111, 110, 116, 101, 110, 116, 45, 76, 101, 110, 103, 116, 104, 58, 32]⟩).run Tryd.prog w' = .ok (.string sl) w' := fun w' => by rw [hu3, hsl]; exact add_str (b := Ans.h2) (by simp only [List.length_append, List.length_cons, List.length_nil]; omega) w'
      have a1 : ∀ w', (Op.stringOp .add sl sd).run Tryd.prog w' = .ok (.string s1) w' := fun w' => by rw [hs1, hsl, hsd]; exact add_str (by omega) w'
      have a2 : ∀ w', (Op.stringOp .add s1 ⟨#[13, 10, 13, 10]⟩).run Tryd.prog w' = .ok (.string s2) w' := fun w' => by rw [hs1, hs2]; exact add_str (b := Ans.fin4) (by simp only [List.length_append]; omega) w'
      have HD := Lib.hid (fun w => rdec64_c (l.length : Int) (by omega) (by omega) w)
      rw [← hsd] at HD
      rw [← hsx] at HDx
      have HDj := Lib.hid (show ∀ (n : Int) (s : ByteArray), ((n = x ∧ s = sx) ∨ (n = (l.length : Int) ∧ s = sd)) → ∀ w : World, Calls Tryd.prog 19 #[.int .i64 n] w (Rets (Only (.string s) w)) by
        rintro n s (⟨rfl, rfl⟩ | ⟨rfl, rfl⟩) w
        · exact HDx.out w
        · exact HD.out w)
      clear HD HDx
      have HS := Lib.hid hs2
      have HFb := Lib.hid (show IsB (Ans.lead x ++ decF (l.length : Int) ++ Ans.fin4) from ((lead_b x).app (dec_byte _)).app fin4_b)
      have hfl : (Ans.lead x ++ decF (l.length : Int) ++ Ans.fin4).length ≤ 200 := by simp only [List.length_append]; omega
      obtain ⟨TX, hTX⟩ : ∃ t, Ans.text x l = t := ⟨_, rfl⟩
      have HTX := Lib.hid (show TX = (Ans.lead x ++ decF (l.length : Int) ++ Ans.fin4) ++ l by rw [← hTX]; rfl)
      have HTx := Lib.hid hTX
      clear hTX
      generalize Ans.lead x ++ decF (l.length : Int) ++ Ans.fin4 = F at *
      clear h0 hsr hsx hu1 hu2 hu3 hsl hsd hs1 hs2 hdl hll hdx hrl
      go_enter Tryd.func9, Tryd.ntmps9
      go_wp2_with (first
        | (go_at_call 12; refine Rets.use (HRs.out _) ?_; rintro _ _ ⟨rfl, rfl⟩)
        | (go_at_call 19; refine Rets.use (HDj.out _ _ (by first | exact .inl ⟨rfl, rfl⟩ | exact .inr ⟨rfl, rfl⟩) _) ?_; rintro _ _ ⟨rfl, rfl⟩)
        | ((with_reducible refine at_ 27 rfl ?_); go_must (refine step_str_mrow2 rfl _ _ _ rfl Tryd.underlying9 Tryd.underlying22 Tryd.underlying5 F HFb.out (by rw [← HS.out]; rfl) ?_); intro ce w5 hm5 hk5; have HM5 := Lib.hid hm5; have HK5 := Lib.hid hk5; clear hm5)
        | ((with_reducible refine at_ 29 rfl ?_); go_must (refine step_append_m rfl _ _ _ rfl Tryd.underlying22 row_byte w.heap.size ce F l rfl HM5.out (.slice A l.length cc) rfl (HR0.out.kept HK5.out (fun _ _ h => h)) (by omega) ?_); intro v6 w6 hr6 hk6; rw [← HTX.out] at hr6; have HR6 := Lib.hid hr6; obtain ⟨A6, c6, hv6, _⟩ := hr6.slice; subst hv6; have HK6 := Lib.hid hk6; clear hr6))
      go_ret2
      rw [HA.out]
      have z5 := HK5.out.size
      refine ⟨((HK5.out.mono (S' := fun k => w.heap.size ≤ k) (fun _ _ h => h.elim)).trans HK6.out (fun k _ h => by omega)).mono (S' := fun _ => False) (fun k hk h => by omega), .slice A6 _ c6, rfl, ?_⟩
      rw [HTx.out]
      exact HR6.out.mono (fun k h => by omega)
end Go.Proofs.YtibegbmehpggbaaDoor
