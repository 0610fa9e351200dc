/-
  Targets, the document's: Target.
-/
import Derived.Test.YtomnkdjlljobeaaRouteN
namespace Go.Proofs.Ytomnkdjlljobeaa
open Go.RowKit Go.Canon Go.Mem
set_option linter.unusedVariables false
set_option linter.unusedSimpArgs false
def tgtR (s : List Int) : AskP × ByteArray := match parseT s with
  | none => (zeroA, ⟨#[]⟩)
  | some x => x
def TgtPost (w : World) (r : AskP × ByteArray) : Value → World → Prop := fun v w' => Keeps (fun _ => False) w w' ∧ v = .tuple #[askV r.1 (.slice none 0 0), .string r.2]
theorem tgt_none {s : List Int} (h : parseT s = none) : tgtR s = (zeroA, ⟨#[]⟩) := by unfold tgtR; rw [h]
/-- The first piece is this name. -/
def isN (f : List Int) (n : List UInt8) : Bool := (str f).toList == n
theorem isN_one {f : List Int} {n m : List UInt8} (h : isN f n = true) (hm : n ≠ m) : isN f m = false := by
  unfold isN at *
  rw [eq_of_beq h, beq_eq_false_iff_ne]; exact hm
theorem isN_fit (f : List Int) (b : ByteArray) (n : List UInt8) (hb : b.toList = n) : (b.toList == (str f).toList) = isN f n := by
  unfold isN
  rw [hb, Bool.eq_iff_iff, beq_iff_eq, beq_iff_eq]
  exact eq_comm
theorem lst_uploads : (⟨#[117, 112, 108, 111, 97, 100, 115]⟩ : ByteArray).toList = [117, 112, 108, 111, 97, 100, 115] := by rw [ByteArray.toList_eq]
theorem lst_histories : (⟨#[104, 105, 115, 116, 111, 114, 105, 101, 115]⟩ : ByteArray).toList = [104, 105, 115, 116, 111, 114, 105, 101, 115] := by rw [ByteArray.toList_eq]
theorem lst_specs : (⟨#[115, 112, 101, 99, 115]⟩ : ByteArray).toList = [115, 112, 101, 99, 115] := by rw [ByteArray.toList_eq]
theorem lst_jobs : (⟨#[106, 111, 98, 115]⟩ : ByteArray).toList = [106, 111, 98, 115] := by rw [ByteArray.toList_eq]
theorem lst_head : (⟨#[104, 101, 97, 100]⟩ : ByteArray).toList = [104, 101, 97, 100] := by rw [ByteArray.toList_eq]
theorem lst_heads : (⟨#[104, 101, 97, 100, 115]⟩ : ByteArray).toList = [104, 101, 97, 100, 115] := by rw [ByteArray.toList_eq]
theorem lst_entries : (⟨#[101, 110, 116, 114, 105, 101, 115]⟩ : ByteArray).toList = [101, 110, 116, 114, 105, 101, 115] := by rw [ByteArray.toList_eq]
theorem lst_growth : (⟨#[103, 114, 111, 119, 116, 104]⟩ : ByteArray).toList = [103, 114, 111, 119, 116, 104] := by rw [ByteArray.toList_eq]
theorem lst_usage : (⟨#[117, 115, 97, 103, 101]⟩ : ByteArray).toList = [117, 115, 97, 103, 101] := by rw [ByteArray.toList_eq]
theorem pick_all (f : List Int) (ps : List (List Int)) : pickP f ps = formsL.find? fun g => g.fits f ps := rfl
theorem n00 : ((((0 : Nat) : Int)) == (((0 : Nat) : Int))) = true := by decide
theorem n01 : ((((0 : Nat) : Int)) == (((1 : Nat) : Int))) = false := by decide
theorem n02 : ((((0 : Nat) : Int)) == (((2 : Nat) : Int))) = false := by decide
theorem n10 : ((((1 : Nat) : Int)) == (((0 : Nat) : Int))) = false := by decide
theorem n11 : ((((1 : Nat) : Int)) == (((1 : Nat) : Int))) = true := by decide
theorem n12 : ((((1 : Nat) : Int)) == (((2 : Nat) : Int))) = false := by decide
theorem n20 : ((((2 : Nat) : Int)) == (((0 : Nat) : Int))) = false := by decide
theorem n21 : ((((2 : Nat) : Int)) == (((1 : Nat) : Int))) = false := by decide
theorem n22 : ((((2 : Nat) : Int)) == (((2 : Nat) : Int))) = true := by decide
theorem pick0 (f : List Int) (ps : List (List Int)) (h : ps.length = 0) : pickP f ps = (if isN f [104, 101, 97, 100] = true then some ⟨⟨#[104, 101, 97, 100]⟩, 0, false, sGET, 10⟩ else (if isN f [117, 115, 97, 103, 101] = true then some ⟨⟨#[117, 115, 97, 103, 101]⟩, 0, false, sGET, 9⟩ else none)) := by
  rw [pick_all]
  unfold formsL
  simp only [List.find?, FormP.fits, h, isN_fit f _ _ lst_uploads, isN_fit f _ _ lst_histories, isN_fit f _ _ lst_specs, isN_fit f _ _ lst_jobs, isN_fit f _ _ lst_head, isN_fit f _ _ lst_heads, isN_fit f _ _ lst_entries, isN_fit f _ _ lst_growth, isN_fit f _ _ lst_usage, n00, n10, n20, Bool.and_false, Bool.and_true]
  cases isN f [104, 101, 97, 100] <;> cases isN f [117, 115, 97, 103, 101] <;> rfl
theorem pick1 (f : List Int) (ps : List (List Int)) (h : ps.length = 1) : pickP f ps = (if isN f [117, 112, 108, 111, 97, 100, 115] = true then some ⟨⟨#[117, 112, 108, 111, 97, 100, 115]⟩, 1, false, sPUT, 1⟩ else (if isN f [104, 105, 115, 116, 111, 114, 105, 101, 115] = true then some ⟨⟨#[104, 105, 115, 116, 111, 114, 105, 101, 115]⟩, 1, false, sPOST, 2⟩ else (if isN f [115, 112, 101, 99, 115] = true then some ⟨⟨#[115, 112, 101, 99, 115]⟩, 1, false, sPUT, 3⟩ else (if isN f [106, 111, 98, 115] = true then some ⟨⟨#[106, 111, 98, 115]⟩, 1, true, sGET, 5⟩ else (if isN f [104, 101, 97, 100, 115] = true then some ⟨⟨#[104, 101, 97, 100, 115]⟩, 1, true, sGET, 6⟩ else none))))) := by
  rw [pick_all]
  unfold formsL
  simp only [List.find?, FormP.fits, h, isN_fit f _ _ lst_uploads, isN_fit f _ _ lst_histories, isN_fit f _ _ lst_specs, isN_fit f _ _ lst_jobs, isN_fit f _ _ lst_head, isN_fit f _ _ lst_heads, isN_fit f _ _ lst_entries, isN_fit f _ _ lst_growth, isN_fit f _ _ lst_usage, n01, n11, n21, Bool.and_false, Bool.and_true]
  cases isN f [117, 112, 108, 111, 97, 100, 115] <;> cases isN f [104, 105, 115, 116, 111, 114, 105, 101, 115] <;> cases isN f [115, 112, 101, 99, 115] <;> cases isN f [106, 111, 98, 115] <;> cases isN f [104, 101, 97, 100, 115] <;> rfl
theorem pick2 (f : List Int) (ps : List (List Int)) (h : ps.length = 2) : pickP f ps = (if isN f [106, 111, 98, 115] = true then some ⟨⟨#[106, 111, 98, 115]⟩, 2, false, sPOST, 4⟩ else (if isN f [101, 110, 116, 114, 105, 101, 115] = true then some ⟨⟨#[101, 110, 116, 114, 105, 101, 115]⟩, 2, true, sGET, 7⟩ else (if isN f [103, 114, 111, 119, 116, 104] = true then some ⟨⟨#[103, 114, 111, 119, 116, 104]⟩, 2, true, sGET, 8⟩ else none))) := by
  rw [pick_all]
  unfold formsL
  simp only [List.find?, FormP.fits, h, isN_fit f _ _ lst_uploads, isN_fit f _ _ lst_histories, isN_fit f _ _ lst_specs, isN_fit f _ _ lst_jobs, isN_fit f _ _ lst_head, isN_fit f _ _ lst_heads, isN_fit f _ _ lst_entries, isN_fit f _ _ lst_growth, isN_fit f _ _ lst_usage, n02, n12, n22, Bool.and_false, Bool.and_true]
  cases isN f [106, 111, 98, 115] <;> cases isN f [101, 110, 116, 114, 105, 101, 115] <;> cases isN f [103, 114, 111, 119, 116, 104] <;> rfl
set_option maxHeartbeats 12800000 in
set_option maxRecDepth 100000 in
theorem target23_c {w : World} (s : List Int) (hB : IsB s) (hl : s.length ≤ 1000000) : Calls Try.prog 45 #[.string (str s)] w (Rets (TgtPost w (tgtR s))) := by
  have HF := Lib.hid (fun w => rfields_c s hB hl 47 4 w)
  have HNo := Lib.hid (tgt_none (s := s))
  rcases fields_cases s with hf | ⟨x, ps, hf, hp3, hps⟩
  · have HT := Lib.hid (HNo.out (by unfold parseT partsF; rw [hf]))
    rw [hf] at HF
    clear hf HNo
    generalize str s = st at *
    go_enter Try.func45, Try.ntmps45
    go_wp2_with (first
      | ((with_reducible refine at_store 58 (.tmp 2) (.tmp 28) rfl ?_); go_must (refine step_store rfl _ _ _ rfl w.heap.size 0 (askC zeroA (.slice none 0 0)) _ _ rfl rfl hb0 (by simp [askC_len]) (info_askC _ _) (askC_one _) ?_); intro w8 hb8 hk8 hs8)
      | (go_at_call 54; go_loud (refine Rets.use (HF.out _) ?_); rintro _ w2 ⟨hk2, u2, rfl, hO2⟩; obtain ⟨hb0, hk2, hs2⟩ := after1 hk2; obtain ⟨A2, c2, rfl, _⟩ := hO2.slice; first | (obtain ⟨b2, o2, c2', e2, _, hbk2, hcell⟩ := hO2.rd.at (by simp [strs]); cases e2; have cx0 : w2.cell? ⟨b2, o2, none⟩ = some (.string (str _)) := hcell 0 _ rfl) | skip))
    have hk3 := hk2
    rw [put_whole (by rfl)] at hb8
    refine bodyPost_ret (ret_cell_tmp rfl (askC _ (.slice none 0 0)) _ rfl hb8 Try.underlying58 rfl (info_askC _ _)) rfl ?_
    exact ⟨hk3.trans hk8 (fun _ hk h => by omega), by rw [HT.out] <;> rfl⟩
  · cases ps with
    | nil =>
      have HT := Lib.hid (HNo.out (by unfold parseT partsF; rw [hf]; cases x <;> rfl))
      rw [hf] at HF
      clear hf HNo
      generalize str s = st at *
      go_enter Try.func45, Try.ntmps45
      go_wp2_with (first
        | ((with_reducible refine at_store 58 (.tmp 2) (.tmp 28) rfl ?_); go_must (refine step_store rfl _ _ _ rfl w.heap.size 0 (askC zeroA (.slice none 0 0)) _ _ rfl rfl hb0 (by simp [askC_len]) (info_askC _ _) (askC_one _) ?_); intro w8 hb8 hk8 hs8)
        | (go_at_call 54; go_loud (refine Rets.use (HF.out _) ?_); rintro _ w2 ⟨hk2, u2, rfl, hO2⟩; obtain ⟨hb0, hk2, hs2⟩ := after1 hk2; obtain ⟨A2, c2, rfl, _⟩ := hO2.slice; first | (obtain ⟨b2, o2, c2', e2, _, hbk2, hcell⟩ := hO2.rd.at (by simp [strs]); cases e2; have cx0 : w2.cell? ⟨b2, o2, none⟩ = some (.string (str _)) := hcell 0 _ rfl) | skip))
      have hk3 := hk2
      rw [put_whole (by rfl)] at hb8
      refine bodyPost_ret (ret_cell_tmp rfl (askC _ (.slice none 0 0)) _ rfl hb8 Try.underlying58 rfl (info_askC _ _)) rfl ?_
      exact ⟨hk3.trans hk8 (fun _ hk h => by omega), by rw [HT.out] <;> rfl⟩
    | cons f qs =>
      by_cases hx : x = []
      · subst hx
        have hE : ((str []).toList == []) = true := by rw [ByteArray.toList_eq]; rfl
        have HP := Lib.hid (show parseT s = match pickP f qs with | none => none | some g => if okP g.numbers qs = true then some (askP g.kind g.numbers qs, g.method) else none by unfold parseT partsF; rw [hf]; rfl)
        rw [hf] at HF
        have hB2 : ∀ p ∈ qs, IsB p ∧ p.length ≤ 1000000 := fun p hp => ⟨(hps p (by simp [hp])).2 hB, by have := (hps p (by simp [hp])).1; omega⟩
        clear hf hps
        generalize str s = st at *
        match qs, hp3 with
        | [], _ =>
          have HNu := Lib.hid (fun (w' : World) (v : Value) (hr : Rd w' (fun k => (w.alloc (.cells #[Value.int .i64 0, .string ⟨#[]⟩, .string ⟨#[]⟩, .slice none 0 0, .int .i64 0, .int .i64 0] 58)).heap.size ≤ k) v ([] : List (List Int)).length (strs [])) => (show Calls Try.prog 55 #[v] w' (Rets (fun v' w'' => Keeps (fun _ => False) w' w'' ∧ v' = .tuple #[.int .i64 (if okP true [] = true then numAt [] 0 else 0), .int .i64 (if okP true [] = true then numAt [] 1 else 0), .bool (okP true [])])) from numbers23_c [] hB2 (by simp) v hr))
          have HNa := Lib.hid (fun (w' : World) (v : Value) (hr : Rd w' (fun k => (w.alloc (.cells #[Value.int .i64 0, .string ⟨#[]⟩, .string ⟨#[]⟩, .slice none 0 0, .int .i64 0, .int .i64 0] 58)).heap.size ≤ k) v ([] : List (List Int)).length (strs [])) => names23_c [] hB2 (by simp) v hr)
          clear hB2
          cases h_head : isN f [104, 101, 97, 100] with
          | true =>
            have HT := Lib.hid (show tgtR s = (⟨10, [], [], [], 0, 0⟩, sGET) by unfold tgtR; rw [HP.out, pick0 f _ rfl]; simp [h_head, isN_one h_head (show ([104, 101, 97, 100] : List UInt8) ≠ [117, 115, 97, 103, 101] by decide)]; rfl)
            have g_head : ((str f).toList == [104, 101, 97, 100]) = true := h_head
            clear HNo HP
            go_enter Try.func45, Try.ntmps45
            go_wp2_with (first
              | ((with_reducible refine at_store 58 (.tmp 2) (.tmp 46) rfl ?_); go_must (refine step_store rfl _ _ _ rfl w.heap.size 0 (askC ⟨10, [], [], [], 0, 0⟩ (.slice none 0 0)) _ _ rfl rfl hb0 (by simp [askC_len]) (info_askC _ _) (askC_one _) ?_); intro w8 hb8 hk8 hs8)
              | (go_at_call 55; go_loud (refine Rets.use (HNu.out w2 _ hR6) ?_); rintro _ w3 ⟨hk3, rfl⟩; have hk3o := hk3; have hb0 := hk3.heap hb0 (fun h => h); have cx1 := hk3.cell cx1 (fun h => h); have hR7 := hR6.kept hk3 (fun _ _ h => h); have hk3 := hk2.trans hk3 (fun _ _ h => h))
              | ((with_reducible refine at_ 30 rfl ?_); go_must (refine step_slice_from rfl _ _ _ rfl 9 ht_strs hi_strs (some ⟨b2, o2, none⟩) _ c2 2 .i64 (strs ([] :: f :: [])) rfl rfl (by simp) hO2.rd (by simp [strs]) ?_); intro v6 hR6; have cx1 : w2.cell? ⟨b2, o2 + 1, none⟩ = some (.string (str f)) := hcell 1 _ rfl; obtain ⟨A6, c6, rfl, _⟩ := hR6.slice)
              | (go_at_call 54; go_loud (refine Rets.use (HF.out _) ?_); rintro _ w2 ⟨hk2, u2, rfl, hO2⟩; obtain ⟨hb0, hk2, hs2⟩ := after1 hk2; obtain ⟨A2, c2, rfl, _⟩ := hO2.slice; first | (obtain ⟨b2, o2, c2', e2, _, hbk2, hcell⟩ := hO2.rd.at (by simp [strs]); cases e2; have cx0 : w2.cell? ⟨b2, o2, none⟩ = some (.string (str _)) := hcell 0 _ rfl) | skip))
            rw [put_whole (by rfl)] at hb8
            refine bodyPost_ret (ret_cell_tmp rfl (askC _ (.slice none 0 0)) _ rfl hb8 Try.underlying58 rfl (info_askC _ _)) rfl ?_
            exact ⟨hk3.trans hk8 (fun _ hk h => by omega), by rw [HT.out] <;> rfl⟩
          | false =>
            cases h_usage : isN f [117, 115, 97, 103, 101] with
            | true =>
              have HT := Lib.hid (show tgtR s = (⟨9, [], [], [], 0, 0⟩, sGET) by unfold tgtR; rw [HP.out, pick0 f _ rfl]; simp [h_head, h_usage]; rfl)
              have g_head : ((str f).toList == [104, 101, 97, 100]) = false := h_head
              have g_usage : ((str f).toList == [117, 115, 97, 103, 101]) = true := h_usage
              clear HNo HP
              go_enter Try.func45, Try.ntmps45
              go_wp2_with (first
                | ((with_reducible refine at_store 58 (.tmp 2) (.tmp 56) rfl ?_); go_must (refine step_store rfl _ _ _ rfl w.heap.size 0 (askC ⟨9, [], [], [], 0, 0⟩ (.slice none 0 0)) _ _ rfl rfl hb0 (by simp [askC_len]) (info_askC _ _) (askC_one _) ?_); intro w8 hb8 hk8 hs8)
                | (go_at_call 55; go_loud (refine Rets.use (HNu.out w2 _ hR6) ?_); rintro _ w3 ⟨hk3, rfl⟩; have hk3o := hk3; have hb0 := hk3.heap hb0 (fun h => h); have cx1 := hk3.cell cx1 (fun h => h); have hR7 := hR6.kept hk3 (fun _ _ h => h); have hk3 := hk2.trans hk3 (fun _ _ h => h))
                | ((with_reducible refine at_ 30 rfl ?_); go_must (refine step_slice_from rfl _ _ _ rfl 9 ht_strs hi_strs (some ⟨b2, o2, none⟩) _ c2 2 .i64 (strs ([] :: f :: [])) rfl rfl (by simp) hO2.rd (by simp [strs]) ?_); intro v6 hR6; have cx1 : w2.cell? ⟨b2, o2 + 1, none⟩ = some (.string (str f)) := hcell 1 _ rfl; obtain ⟨A6, c6, rfl, _⟩ := hR6.slice)
                | (go_at_call 54; go_loud (refine Rets.use (HF.out _) ?_); rintro _ w2 ⟨hk2, u2, rfl, hO2⟩; obtain ⟨hb0, hk2, hs2⟩ := after1 hk2; obtain ⟨A2, c2, rfl, _⟩ := hO2.slice; first | (obtain ⟨b2, o2, c2', e2, _, hbk2, hcell⟩ := hO2.rd.at (by simp [strs]); cases e2; have cx0 : w2.cell? ⟨b2, o2, none⟩ = some (.string (str _)) := hcell 0 _ rfl) | skip))
              rw [put_whole (by rfl)] at hb8
              refine bodyPost_ret (ret_cell_tmp rfl (askC _ (.slice none 0 0)) _ rfl hb8 Try.underlying58 rfl (info_askC _ _)) rfl ?_
              exact ⟨hk3.trans hk8 (fun _ hk h => by omega), by rw [HT.out] <;> rfl⟩
            | false =>
              have HT := Lib.hid (HNo.out (by rw [HP.out, pick0 f _ rfl]; simp [h_head, h_usage]))
              have g_head : ((str f).toList == [104, 101, 97, 100]) = false := h_head
              have g_usage : ((str f).toList == [117, 115, 97, 103, 101]) = false := h_usage
              clear HNo HP
              go_enter Try.func45, Try.ntmps45
              go_wp2_with (first
                | ((with_reducible refine at_store 58 (.tmp 2) (.tmp 141) rfl ?_); go_must (refine step_store rfl _ _ _ rfl w.heap.size 0 (askC zeroA (.slice none 0 0)) _ _ rfl rfl hb0 (by simp [askC_len]) (info_askC _ _) (askC_one _) ?_); intro w8 hb8 hk8 hs8)
                | (go_at_call 55; go_loud (refine Rets.use (HNu.out w2 _ hR6) ?_); rintro _ w3 ⟨hk3, rfl⟩; have hk3o := hk3; have hb0 := hk3.heap hb0 (fun h => h); have cx1 := hk3.cell cx1 (fun h => h); have hR7 := hR6.kept hk3 (fun _ _ h => h); have hk3 := hk2.trans hk3 (fun _ _ h => h))
                | ((with_reducible refine at_ 30 rfl ?_); go_must (refine step_slice_from rfl _ _ _ rfl 9 ht_strs hi_strs (some ⟨b2, o2, none⟩) _ c2 2 .i64 (strs ([] :: f :: [])) rfl rfl (by simp) hO2.rd (by simp [strs]) ?_); intro v6 hR6; have cx1 : w2.cell? ⟨b2, o2 + 1, none⟩ = some (.string (str f)) := hcell 1 _ rfl; obtain ⟨A6, c6, rfl, _⟩ := hR6.slice)
                | (go_at_call 54; go_loud (refine Rets.use (HF.out _) ?_); rintro _ w2 ⟨hk2, u2, rfl, hO2⟩; obtain ⟨hb0, hk2, hs2⟩ := after1 hk2; obtain ⟨A2, c2, rfl, _⟩ := hO2.slice; first | (obtain ⟨b2, o2, c2', e2, _, hbk2, hcell⟩ := hO2.rd.at (by simp [strs]); cases e2; have cx0 : w2.cell? ⟨b2, o2, none⟩ = some (.string (str _)) := hcell 0 _ rfl) | skip))
              rw [put_whole (by rfl)] at hb8
              refine bodyPost_ret (ret_cell_tmp rfl (askC _ (.slice none 0 0)) _ rfl hb8 Try.underlying58 rfl (info_askC _ _)) rfl ?_
              exact ⟨hk3.trans hk8 (fun _ hk h => by omega), by rw [HT.out] <;> rfl⟩
        | [p], _ =>
          have HNu := Lib.hid (fun (w' : World) (v : Value) (hr : Rd w' (fun k => (w.alloc (.cells #[Value.int .i64 0, .string ⟨#[]⟩, .string ⟨#[]⟩, .slice none 0 0, .int .i64 0, .int .i64 0] 58)).heap.size ≤ k) v ([p] : List (List Int)).length (strs [p])) => (show Calls Try.prog 55 #[v] w' (Rets (fun v' w'' => Keeps (fun _ => False) w' w'' ∧ v' = .tuple #[.int .i64 (if okP true [p] = true then numAt [p] 0 else 0), .int .i64 (if okP true [p] = true then numAt [p] 1 else 0), .bool (okP true [p])])) from numbers23_c [p] hB2 (by simp) v hr))
          have HNa := Lib.hid (fun (w' : World) (v : Value) (hr : Rd w' (fun k => (w.alloc (.cells #[Value.int .i64 0, .string ⟨#[]⟩, .string ⟨#[]⟩, .slice none 0 0, .int .i64 0, .int .i64 0] 58)).heap.size ≤ k) v ([p] : List (List Int)).length (strs [p])) => names23_c [p] hB2 (by simp) v hr)
          clear hB2
          cases hnm : okP false [p] with
          | true =>
            rw [show ([p]).all nameF = true from hnm] at HNa
            cases h_uploads : isN f [117, 112, 108, 111, 97, 100, 115] with
            | true =>
              cases hnu : okP true [p] with
              | true =>
                rw [hnu] at HNu
                simp only [if_true] at HNu
                have HT := Lib.hid (show tgtR s = (⟨1, p, [], [], 0, 0⟩, sPUT) by unfold tgtR; rw [HP.out, pick1 f _ rfl]; simp [h_uploads, isN_one h_uploads (show ([117, 112, 108, 111, 97, 100, 115] : List UInt8) ≠ [104, 105, 115, 116, 111, 114, 105, 101, 115] by decide), isN_one h_uploads (show ([117, 112, 108, 111, 97, 100, 115] : List UInt8) ≠ [115, 112, 101, 99, 115] by decide), isN_one h_uploads (show ([117, 112, 108, 111, 97, 100, 115] : List UInt8) ≠ [106, 111, 98, 115] by decide), isN_one h_uploads (show ([117, 112, 108, 111, 97, 100, 115] : List UInt8) ≠ [104, 101, 97, 100, 115] by decide), hnm]; rfl)
                have g_uploads : ((str f).toList == [117, 112, 108, 111, 97, 100, 115]) = true := h_uploads
                clear HNo HP
                go_enter Try.func45, Try.ntmps45
                go_wp2_with (first
                  | ((with_reducible refine at_store 58 (.tmp 2) (.tmp 72) rfl ?_); go_must (refine step_store rfl _ _ _ rfl w.heap.size 0 (askC ⟨1, p, [], [], 0, 0⟩ (.slice none 0 0)) _ _ rfl rfl hb0 (by simp [askC_len]) (info_askC _ _) (askC_one _) ?_); intro w8 hb8 hk8 hs8)
                  | (go_at_call 56; go_loud (refine Rets.use (HNa.out w3 _ hR7) ?_); rintro _ _ ⟨rfl, rfl⟩)
                  | (go_at_call 55; go_loud (refine Rets.use (HNu.out w2 _ hR6) ?_); rintro _ w3 ⟨hk3, rfl⟩; have hk3o := hk3; have hb0 := hk3.heap hb0 (fun h => h); have cx1 := hk3.cell cx1 (fun h => h); have hR7 := hR6.kept hk3 (fun _ _ h => h); have hk3 := hk2.trans hk3 (fun _ _ h => h); have cp := (hk3o.cell cp (fun h => h)))
                  | ((with_reducible refine at_ 30 rfl ?_); go_must (refine step_slice_from rfl _ _ _ rfl 9 ht_strs hi_strs (some ⟨b2, o2, none⟩) _ c2 2 .i64 (strs ([] :: f :: [p])) rfl rfl (by simp) hO2.rd (by simp [strs]) ?_); intro v6 hR6; have cx1 : w2.cell? ⟨b2, o2 + 1, none⟩ = some (.string (str f)) := hcell 1 _ rfl; obtain ⟨b6, o6, c6, rfl, _, _, hp6⟩ := hR6.at (by simp [strs]); have cp : w2.cell? ⟨b6, o6, none⟩ = some (.string (str p)) := hp6 0 _ rfl; clear hp6)
                  | (go_at_call 54; go_loud (refine Rets.use (HF.out _) ?_); rintro _ w2 ⟨hk2, u2, rfl, hO2⟩; obtain ⟨hb0, hk2, hs2⟩ := after1 hk2; obtain ⟨A2, c2, rfl, _⟩ := hO2.slice; first | (obtain ⟨b2, o2, c2', e2, _, hbk2, hcell⟩ := hO2.rd.at (by simp [strs]); cases e2; have cx0 : w2.cell? ⟨b2, o2, none⟩ = some (.string (str _)) := hcell 0 _ rfl) | skip))
                rw [put_whole (by rfl)] at hb8
                refine bodyPost_ret (ret_cell_tmp rfl (askC _ (.slice none 0 0)) _ rfl hb8 Try.underlying58 rfl (info_askC _ _)) rfl ?_
                exact ⟨hk3.trans hk8 (fun _ hk h => by omega), by rw [HT.out] <;> rfl⟩
              | false =>
                rw [hnu] at HNu
                simp only [Bool.false_eq_true, if_false] at HNu
                have HT := Lib.hid (show tgtR s = (⟨1, p, [], [], 0, 0⟩, sPUT) by unfold tgtR; rw [HP.out, pick1 f _ rfl]; simp [h_uploads, isN_one h_uploads (show ([117, 112, 108, 111, 97, 100, 115] : List UInt8) ≠ [104, 105, 115, 116, 111, 114, 105, 101, 115] by decide), isN_one h_uploads (show ([117, 112, 108, 111, 97, 100, 115] : List UInt8) ≠ [115, 112, 101, 99, 115] by decide), isN_one h_uploads (show ([117, 112, 108, 111, 97, 100, 115] : List UInt8) ≠ [106, 111, 98, 115] by decide), isN_one h_uploads (show ([117, 112, 108, 111, 97, 100, 115] : List UInt8) ≠ [104, 101, 97, 100, 115] by decide), hnm]; rfl)
                have g_uploads : ((str f).toList == [117, 112, 108, 111, 97, 100, 115]) = true := h_uploads
                clear HNo HP
                go_enter Try.func45, Try.ntmps45
                go_wp2_with (first
                  | ((with_reducible refine at_store 58 (.tmp 2) (.tmp 72) rfl ?_); go_must (refine step_store rfl _ _ _ rfl w.heap.size 0 (askC ⟨1, p, [], [], 0, 0⟩ (.slice none 0 0)) _ _ rfl rfl hb0 (by simp [askC_len]) (info_askC _ _) (askC_one _) ?_); intro w8 hb8 hk8 hs8)
                  | (go_at_call 56; go_loud (refine Rets.use (HNa.out w3 _ hR7) ?_); rintro _ _ ⟨rfl, rfl⟩)
                  | (go_at_call 55; go_loud (refine Rets.use (HNu.out w2 _ hR6) ?_); rintro _ w3 ⟨hk3, rfl⟩; have hk3o := hk3; have hb0 := hk3.heap hb0 (fun h => h); have cx1 := hk3.cell cx1 (fun h => h); have hR7 := hR6.kept hk3 (fun _ _ h => h); have hk3 := hk2.trans hk3 (fun _ _ h => h); have cp := (hk3o.cell cp (fun h => h)))
                  | ((with_reducible refine at_ 30 rfl ?_); go_must (refine step_slice_from rfl _ _ _ rfl 9 ht_strs hi_strs (some ⟨b2, o2, none⟩) _ c2 2 .i64 (strs ([] :: f :: [p])) rfl rfl (by simp) hO2.rd (by simp [strs]) ?_); intro v6 hR6; have cx1 : w2.cell? ⟨b2, o2 + 1, none⟩ = some (.string (str f)) := hcell 1 _ rfl; obtain ⟨b6, o6, c6, rfl, _, _, hp6⟩ := hR6.at (by simp [strs]); have cp : w2.cell? ⟨b6, o6, none⟩ = some (.string (str p)) := hp6 0 _ rfl; clear hp6)
                  | (go_at_call 54; go_loud (refine Rets.use (HF.out _) ?_); rintro _ w2 ⟨hk2, u2, rfl, hO2⟩; obtain ⟨hb0, hk2, hs2⟩ := after1 hk2; obtain ⟨A2, c2, rfl, _⟩ := hO2.slice; first | (obtain ⟨b2, o2, c2', e2, _, hbk2, hcell⟩ := hO2.rd.at (by simp [strs]); cases e2; have cx0 : w2.cell? ⟨b2, o2, none⟩ = some (.string (str _)) := hcell 0 _ rfl) | skip))
                rw [put_whole (by rfl)] at hb8
                refine bodyPost_ret (ret_cell_tmp rfl (askC _ (.slice none 0 0)) _ rfl hb8 Try.underlying58 rfl (info_askC _ _)) rfl ?_
                exact ⟨hk3.trans hk8 (fun _ hk h => by omega), by rw [HT.out] <;> rfl⟩
            | false =>
              cases h_histories : isN f [104, 105, 115, 116, 111, 114, 105, 101, 115] with
              | true =>
                cases hnu : okP true [p] with
                | true =>
                  rw [hnu] at HNu
                  simp only [if_true] at HNu
                  have HT := Lib.hid (show tgtR s = (⟨2, p, [], [], 0, 0⟩, sPOST) by unfold tgtR; rw [HP.out, pick1 f _ rfl]; simp [h_uploads, h_histories, isN_one h_histories (show ([104, 105, 115, 116, 111, 114, 105, 101, 115] : List UInt8) ≠ [115, 112, 101, 99, 115] by decide), isN_one h_histories (show ([104, 105, 115, 116, 111, 114, 105, 101, 115] : List UInt8) ≠ [106, 111, 98, 115] by decide), isN_one h_histories (show ([104, 105, 115, 116, 111, 114, 105, 101, 115] : List UInt8) ≠ [104, 101, 97, 100, 115] by decide), hnm]; rfl)
                  have g_uploads : ((str f).toList == [117, 112, 108, 111, 97, 100, 115]) = false := h_uploads
                  have g_histories : ((str f).toList == [104, 105, 115, 116, 111, 114, 105, 101, 115]) = true := h_histories
                  clear HNo HP
                  go_enter Try.func45, Try.ntmps45
                  go_wp2_with (first
                    | ((with_reducible refine at_store 58 (.tmp 2) (.tmp 78) rfl ?_); go_must (refine step_store rfl _ _ _ rfl w.heap.size 0 (askC ⟨2, p, [], [], 0, 0⟩ (.slice none 0 0)) _ _ rfl rfl hb0 (by simp [askC_len]) (info_askC _ _) (askC_one _) ?_); intro w8 hb8 hk8 hs8)
                    | (go_at_call 56; go_loud (refine Rets.use (HNa.out w3 _ hR7) ?_); rintro _ _ ⟨rfl, rfl⟩)
                    | (go_at_call 55; go_loud (refine Rets.use (HNu.out w2 _ hR6) ?_); rintro _ w3 ⟨hk3, rfl⟩; have hk3o := hk3; have hb0 := hk3.heap hb0 (fun h => h); have cx1 := hk3.cell cx1 (fun h => h); have hR7 := hR6.kept hk3 (fun _ _ h => h); have hk3 := hk2.trans hk3 (fun _ _ h => h); have cp := (hk3o.cell cp (fun h => h)))
                    | ((with_reducible refine at_ 30 rfl ?_); go_must (refine step_slice_from rfl _ _ _ rfl 9 ht_strs hi_strs (some ⟨b2, o2, none⟩) _ c2 2 .i64 (strs ([] :: f :: [p])) rfl rfl (by simp) hO2.rd (by simp [strs]) ?_); intro v6 hR6; have cx1 : w2.cell? ⟨b2, o2 + 1, none⟩ = some (.string (str f)) := hcell 1 _ rfl; obtain ⟨b6, o6, c6, rfl, _, _, hp6⟩ := hR6.at (by simp [strs]); have cp : w2.cell? ⟨b6, o6, none⟩ = some (.string (str p)) := hp6 0 _ rfl; clear hp6)
                    | (go_at_call 54; go_loud (refine Rets.use (HF.out _) ?_); rintro _ w2 ⟨hk2, u2, rfl, hO2⟩; obtain ⟨hb0, hk2, hs2⟩ := after1 hk2; obtain ⟨A2, c2, rfl, _⟩ := hO2.slice; first | (obtain ⟨b2, o2, c2', e2, _, hbk2, hcell⟩ := hO2.rd.at (by simp [strs]); cases e2; have cx0 : w2.cell? ⟨b2, o2, none⟩ = some (.string (str _)) := hcell 0 _ rfl) | skip))
                  rw [put_whole (by rfl)] at hb8
                  refine bodyPost_ret (ret_cell_tmp rfl (askC _ (.slice none 0 0)) _ rfl hb8 Try.underlying58 rfl (info_askC _ _)) rfl ?_
                  exact ⟨hk3.trans hk8 (fun _ hk h => by omega), by rw [HT.out] <;> rfl⟩
                | false =>
                  rw [hnu] at HNu
                  simp only [Bool.false_eq_true, if_false] at HNu
                  have HT := Lib.hid (show tgtR s = (⟨2, p, [], [], 0, 0⟩, sPOST) by unfold tgtR; rw [HP.out, pick1 f _ rfl]; simp [h_uploads, h_histories, isN_one h_histories (show ([104, 105, 115, 116, 111, 114, 105, 101, 115] : List UInt8) ≠ [115, 112, 101, 99, 115] by decide), isN_one h_histories (show ([104, 105, 115, 116, 111, 114, 105, 101, 115] : List UInt8) ≠ [106, 111, 98, 115] by decide), isN_one h_histories (show ([104, 105, 115, 116, 111, 114, 105, 101, 115] : List UInt8) ≠ [104, 101, 97, 100, 115] by decide), hnm]; rfl)
                  have g_uploads : ((str f).toList == [117, 112, 108, 111, 97, 100, 115]) = false := h_uploads
                  have g_histories : ((str f).toList == [104, 105, 115, 116, 111, 114, 105, 101, 115]) = true := h_histories
                  clear HNo HP
                  go_enter Try.func45, Try.ntmps45
                  go_wp2_with (first
                    | ((with_reducible refine at_store 58 (.tmp 2) (.tmp 78) rfl ?_); go_must (refine step_store rfl _ _ _ rfl w.heap.size 0 (askC ⟨2, p, [], [], 0, 0⟩ (.slice none 0 0)) _ _ rfl rfl hb0 (by simp [askC_len]) (info_askC _ _) (askC_one _) ?_); intro w8 hb8 hk8 hs8)
                    | (go_at_call 56; go_loud (refine Rets.use (HNa.out w3 _ hR7) ?_); rintro _ _ ⟨rfl, rfl⟩)
                    | (go_at_call 55; go_loud (refine Rets.use (HNu.out w2 _ hR6) ?_); rintro _ w3 ⟨hk3, rfl⟩; have hk3o := hk3; have hb0 := hk3.heap hb0 (fun h => h); have cx1 := hk3.cell cx1 (fun h => h); have hR7 := hR6.kept hk3 (fun _ _ h => h); have hk3 := hk2.trans hk3 (fun _ _ h => h); have cp := (hk3o.cell cp (fun h => h)))
                    | ((with_reducible refine at_ 30 rfl ?_); go_must (refine step_slice_from rfl _ _ _ rfl 9 ht_strs hi_strs (some ⟨b2, o2, none⟩) _ c2 2 .i64 (strs ([] :: f :: [p])) rfl rfl (by simp) hO2.rd (by simp [strs]) ?_); intro v6 hR6; have cx1 : w2.cell? ⟨b2, o2 + 1, none⟩ = some (.string (str f)) := hcell 1 _ rfl; obtain ⟨b6, o6, c6, rfl, _, _, hp6⟩ := hR6.at (by simp [strs]); have cp : w2.cell? ⟨b6, o6, none⟩ = some (.string (str p)) := hp6 0 _ rfl; clear hp6)
                    | (go_at_call 54; go_loud (refine Rets.use (HF.out _) ?_); rintro _ w2 ⟨hk2, u2, rfl, hO2⟩; obtain ⟨hb0, hk2, hs2⟩ := after1 hk2; obtain ⟨A2, c2, rfl, _⟩ := hO2.slice; first | (obtain ⟨b2, o2, c2', e2, _, hbk2, hcell⟩ := hO2.rd.at (by simp [strs]); cases e2; have cx0 : w2.cell? ⟨b2, o2, none⟩ = some (.string (str _)) := hcell 0 _ rfl) | skip))
                  rw [put_whole (by rfl)] at hb8
                  refine bodyPost_ret (ret_cell_tmp rfl (askC _ (.slice none 0 0)) _ rfl hb8 Try.underlying58 rfl (info_askC _ _)) rfl ?_
                  exact ⟨hk3.trans hk8 (fun _ hk h => by omega), by rw [HT.out] <;> rfl⟩
              | false =>
                cases h_specs : isN f [115, 112, 101, 99, 115] with
                | true =>
                  cases hnu : okP true [p] with
                  | true =>
                    rw [hnu] at HNu
                    simp only [if_true] at HNu
                    have HT := Lib.hid (show tgtR s = (⟨3, p, [], [], 0, 0⟩, sPUT) by unfold tgtR; rw [HP.out, pick1 f _ rfl]; simp [h_uploads, h_histories, h_specs, isN_one h_specs (show ([115, 112, 101, 99, 115] : List UInt8) ≠ [106, 111, 98, 115] by decide), isN_one h_specs (show ([115, 112, 101, 99, 115] : List UInt8) ≠ [104, 101, 97, 100, 115] by decide), hnm]; rfl)
                    have g_uploads : ((str f).toList == [117, 112, 108, 111, 97, 100, 115]) = false := h_uploads
                    have g_histories : ((str f).toList == [104, 105, 115, 116, 111, 114, 105, 101, 115]) = false := h_histories
                    have g_specs : ((str f).toList == [115, 112, 101, 99, 115]) = true := h_specs
                    clear HNo HP
                    go_enter Try.func45, Try.ntmps45
                    go_wp2_with (first
                      | ((with_reducible refine at_store 58 (.tmp 2) (.tmp 84) rfl ?_); go_must (refine step_store rfl _ _ _ rfl w.heap.size 0 (askC ⟨3, p, [], [], 0, 0⟩ (.slice none 0 0)) _ _ rfl rfl hb0 (by simp [askC_len]) (info_askC _ _) (askC_one _) ?_); intro w8 hb8 hk8 hs8)
                      | (go_at_call 56; go_loud (refine Rets.use (HNa.out w3 _ hR7) ?_); rintro _ _ ⟨rfl, rfl⟩)
                      | (go_at_call 55; go_loud (refine Rets.use (HNu.out w2 _ hR6) ?_); rintro _ w3 ⟨hk3, rfl⟩; have hk3o := hk3; have hb0 := hk3.heap hb0 (fun h => h); have cx1 := hk3.cell cx1 (fun h => h); have hR7 := hR6.kept hk3 (fun _ _ h => h); have hk3 := hk2.trans hk3 (fun _ _ h => h); have cp := (hk3o.cell cp (fun h => h)))
                      | ((with_reducible refine at_ 30 rfl ?_); go_must (refine step_slice_from rfl _ _ _ rfl 9 ht_strs hi_strs (some ⟨b2, o2, none⟩) _ c2 2 .i64 (strs ([] :: f :: [p])) rfl rfl (by simp) hO2.rd (by simp [strs]) ?_); intro v6 hR6; have cx1 : w2.cell? ⟨b2, o2 + 1, none⟩ = some (.string (str f)) := hcell 1 _ rfl; obtain ⟨b6, o6, c6, rfl, _, _, hp6⟩ := hR6.at (by simp [strs]); have cp : w2.cell? ⟨b6, o6, none⟩ = some (.string (str p)) := hp6 0 _ rfl; clear hp6)
                      | (go_at_call 54; go_loud (refine Rets.use (HF.out _) ?_); rintro _ w2 ⟨hk2, u2, rfl, hO2⟩; obtain ⟨hb0, hk2, hs2⟩ := after1 hk2; obtain ⟨A2, c2, rfl, _⟩ := hO2.slice; first | (obtain ⟨b2, o2, c2', e2, _, hbk2, hcell⟩ := hO2.rd.at (by simp [strs]); cases e2; have cx0 : w2.cell? ⟨b2, o2, none⟩ = some (.string (str _)) := hcell 0 _ rfl) | skip))
                    rw [put_whole (by rfl)] at hb8
                    refine bodyPost_ret (ret_cell_tmp rfl (askC _ (.slice none 0 0)) _ rfl hb8 Try.underlying58 rfl (info_askC _ _)) rfl ?_
                    exact ⟨hk3.trans hk8 (fun _ hk h => by omega), by rw [HT.out] <;> rfl⟩
                  | false =>
                    rw [hnu] at HNu
                    simp only [Bool.false_eq_true, if_false] at HNu
                    have HT := Lib.hid (show tgtR s = (⟨3, p, [], [], 0, 0⟩, sPUT) by unfold tgtR; rw [HP.out, pick1 f _ rfl]; simp [h_uploads, h_histories, h_specs, isN_one h_specs (show ([115, 112, 101, 99, 115] : List UInt8) ≠ [106, 111, 98, 115] by decide), isN_one h_specs (show ([115, 112, 101, 99, 115] : List UInt8) ≠ [104, 101, 97, 100, 115] by decide), hnm]; rfl)
                    have g_uploads : ((str f).toList == [117, 112, 108, 111, 97, 100, 115]) = false := h_uploads
                    have g_histories : ((str f).toList == [104, 105, 115, 116, 111, 114, 105, 101, 115]) = false := h_histories
                    have g_specs : ((str f).toList == [115, 112, 101, 99, 115]) = true := h_specs
                    clear HNo HP
                    go_enter Try.func45, Try.ntmps45
                    go_wp2_with (first
                      | ((with_reducible refine at_store 58 (.tmp 2) (.tmp 84) rfl ?_); go_must (refine step_store rfl _ _ _ rfl w.heap.size 0 (askC ⟨3, p, [], [], 0, 0⟩ (.slice none 0 0)) _ _ rfl rfl hb0 (by simp [askC_len]) (info_askC _ _) (askC_one _) ?_); intro w8 hb8 hk8 hs8)
                      | (go_at_call 56; go_loud (refine Rets.use (HNa.out w3 _ hR7) ?_); rintro _ _ ⟨rfl, rfl⟩)
                      | (go_at_call 55; go_loud (refine Rets.use (HNu.out w2 _ hR6) ?_); rintro _ w3 ⟨hk3, rfl⟩; have hk3o := hk3; have hb0 := hk3.heap hb0 (fun h => h); have cx1 := hk3.cell cx1 (fun h => h); have hR7 := hR6.kept hk3 (fun _ _ h => h); have hk3 := hk2.trans hk3 (fun _ _ h => h); have cp := (hk3o.cell cp (fun h => h)))
                      | ((with_reducible refine at_ 30 rfl ?_); go_must (refine step_slice_from rfl _ _ _ rfl 9 ht_strs hi_strs (some ⟨b2, o2, none⟩) _ c2 2 .i64 (strs ([] :: f :: [p])) rfl rfl (by simp) hO2.rd (by simp [strs]) ?_); intro v6 hR6; have cx1 : w2.cell? ⟨b2, o2 + 1, none⟩ = some (.string (str f)) := hcell 1 _ rfl; obtain ⟨b6, o6, c6, rfl, _, _, hp6⟩ := hR6.at (by simp [strs]); have cp : w2.cell? ⟨b6, o6, none⟩ = some (.string (str p)) := hp6 0 _ rfl; clear hp6)
                      | (go_at_call 54; go_loud (refine Rets.use (HF.out _) ?_); rintro _ w2 ⟨hk2, u2, rfl, hO2⟩; obtain ⟨hb0, hk2, hs2⟩ := after1 hk2; obtain ⟨A2, c2, rfl, _⟩ := hO2.slice; first | (obtain ⟨b2, o2, c2', e2, _, hbk2, hcell⟩ := hO2.rd.at (by simp [strs]); cases e2; have cx0 : w2.cell? ⟨b2, o2, none⟩ = some (.string (str _)) := hcell 0 _ rfl) | skip))
                    rw [put_whole (by rfl)] at hb8
                    refine bodyPost_ret (ret_cell_tmp rfl (askC _ (.slice none 0 0)) _ rfl hb8 Try.underlying58 rfl (info_askC _ _)) rfl ?_
                    exact ⟨hk3.trans hk8 (fun _ hk h => by omega), by rw [HT.out] <;> rfl⟩
                | false =>
                  cases hnu : okP true [p] with
                  | true =>
                    rw [hnu] at HNu
                    simp only [if_true] at HNu
                    cases h_jobs : isN f [106, 111, 98, 115] with
                    | true =>
                      have HT := Lib.hid (show tgtR s = (⟨5, [], [], [], numAt [p] 0, 0⟩, sGET) by unfold tgtR; rw [HP.out, pick1 f _ rfl]; simp [h_uploads, h_histories, h_specs, h_jobs, isN_one h_jobs (show ([106, 111, 98, 115] : List UInt8) ≠ [104, 101, 97, 100, 115] by decide), hnm, hnu]; rfl)
                      have g_uploads : ((str f).toList == [117, 112, 108, 111, 97, 100, 115]) = false := h_uploads
                      have g_histories : ((str f).toList == [104, 105, 115, 116, 111, 114, 105, 101, 115]) = false := h_histories
                      have g_specs : ((str f).toList == [115, 112, 101, 99, 115]) = false := h_specs
                      have g_jobs : ((str f).toList == [106, 111, 98, 115]) = true := h_jobs
                      clear HNo HP
                      go_enter Try.func45, Try.ntmps45
                      go_wp2_with (first
                        | ((with_reducible refine at_store 58 (.tmp 2) (.tmp 97) rfl ?_); go_must (refine step_store rfl _ _ _ rfl w.heap.size 0 (askC ⟨5, [], [], [], numAt [p] 0, 0⟩ (.slice none 0 0)) _ _ rfl rfl hb0 (by simp [askC_len]) (info_askC _ _) (askC_one _) ?_); intro w8 hb8 hk8 hs8)
                        | (go_at_call 56; go_loud (refine Rets.use (HNa.out w3 _ hR7) ?_); rintro _ _ ⟨rfl, rfl⟩)
                        | (go_at_call 55; go_loud (refine Rets.use (HNu.out w2 _ hR6) ?_); rintro _ w3 ⟨hk3, rfl⟩; have hk3o := hk3; have hb0 := hk3.heap hb0 (fun h => h); have cx1 := hk3.cell cx1 (fun h => h); have hR7 := hR6.kept hk3 (fun _ _ h => h); have hk3 := hk2.trans hk3 (fun _ _ h => h); have cp := (hk3o.cell cp (fun h => h)))
                        | ((with_reducible refine at_ 30 rfl ?_); go_must (refine step_slice_from rfl _ _ _ rfl 9 ht_strs hi_strs (some ⟨b2, o2, none⟩) _ c2 2 .i64 (strs ([] :: f :: [p])) rfl rfl (by simp) hO2.rd (by simp [strs]) ?_); intro v6 hR6; have cx1 : w2.cell? ⟨b2, o2 + 1, none⟩ = some (.string (str f)) := hcell 1 _ rfl; obtain ⟨b6, o6, c6, rfl, _, _, hp6⟩ := hR6.at (by simp [strs]); have cp : w2.cell? ⟨b6, o6, none⟩ = some (.string (str p)) := hp6 0 _ rfl; clear hp6)
                        | (go_at_call 54; go_loud (refine Rets.use (HF.out _) ?_); rintro _ w2 ⟨hk2, u2, rfl, hO2⟩; obtain ⟨hb0, hk2, hs2⟩ := after1 hk2; obtain ⟨A2, c2, rfl, _⟩ := hO2.slice; first | (obtain ⟨b2, o2, c2', e2, _, hbk2, hcell⟩ := hO2.rd.at (by simp [strs]); cases e2; have cx0 : w2.cell? ⟨b2, o2, none⟩ = some (.string (str _)) := hcell 0 _ rfl) | skip))
                      rw [put_whole (by rfl)] at hb8
                      refine bodyPost_ret (ret_cell_tmp rfl (askC _ (.slice none 0 0)) _ rfl hb8 Try.underlying58 rfl (info_askC _ _)) rfl ?_
                      exact ⟨hk3.trans hk8 (fun _ hk h => by omega), by rw [HT.out] <;> rfl⟩
                    | false =>
                      cases h_heads : isN f [104, 101, 97, 100, 115] with
                      | true =>
                        have HT := Lib.hid (show tgtR s = (⟨6, [], [], [], numAt [p] 0, 0⟩, sGET) by unfold tgtR; rw [HP.out, pick1 f _ rfl]; simp [h_uploads, h_histories, h_specs, h_jobs, h_heads, hnm, hnu]; rfl)
                        have g_uploads : ((str f).toList == [117, 112, 108, 111, 97, 100, 115]) = false := h_uploads
                        have g_histories : ((str f).toList == [104, 105, 115, 116, 111, 114, 105, 101, 115]) = false := h_histories
                        have g_specs : ((str f).toList == [115, 112, 101, 99, 115]) = false := h_specs
                        have g_jobs : ((str f).toList == [106, 111, 98, 115]) = false := h_jobs
                        have g_heads : ((str f).toList == [104, 101, 97, 100, 115]) = true := h_heads
                        clear HNo HP
                        go_enter Try.func45, Try.ntmps45
                        go_wp2_with (first
                          | ((with_reducible refine at_store 58 (.tmp 2) (.tmp 101) rfl ?_); go_must (refine step_store rfl _ _ _ rfl w.heap.size 0 (askC ⟨6, [], [], [], numAt [p] 0, 0⟩ (.slice none 0 0)) _ _ rfl rfl hb0 (by simp [askC_len]) (info_askC _ _) (askC_one _) ?_); intro w8 hb8 hk8 hs8)
                          | (go_at_call 56; go_loud (refine Rets.use (HNa.out w3 _ hR7) ?_); rintro _ _ ⟨rfl, rfl⟩)
                          | (go_at_call 55; go_loud (refine Rets.use (HNu.out w2 _ hR6) ?_); rintro _ w3 ⟨hk3, rfl⟩; have hk3o := hk3; have hb0 := hk3.heap hb0 (fun h => h); have cx1 := hk3.cell cx1 (fun h => h); have hR7 := hR6.kept hk3 (fun _ _ h => h); have hk3 := hk2.trans hk3 (fun _ _ h => h); have cp := (hk3o.cell cp (fun h => h)))
                          | ((with_reducible refine at_ 30 rfl ?_); go_must (refine step_slice_from rfl _ _ _ rfl 9 ht_strs hi_strs (some ⟨b2, o2, none⟩) _ c2 2 .i64 (strs ([] :: f :: [p])) rfl rfl (by simp) hO2.rd (by simp [strs]) ?_); intro v6 hR6; have cx1 : w2.cell? ⟨b2, o2 + 1, none⟩ = some (.string (str f)) := hcell 1 _ rfl; obtain ⟨b6, o6, c6, rfl, _, _, hp6⟩ := hR6.at (by simp [strs]); have cp : w2.cell? ⟨b6, o6, none⟩ = some (.string (str p)) := hp6 0 _ rfl; clear hp6)
                          | (go_at_call 54; go_loud (refine Rets.use (HF.out _) ?_); rintro _ w2 ⟨hk2, u2, rfl, hO2⟩; obtain ⟨hb0, hk2, hs2⟩ := after1 hk2; obtain ⟨A2, c2, rfl, _⟩ := hO2.slice; first | (obtain ⟨b2, o2, c2', e2, _, hbk2, hcell⟩ := hO2.rd.at (by simp [strs]); cases e2; have cx0 : w2.cell? ⟨b2, o2, none⟩ = some (.string (str _)) := hcell 0 _ rfl) | skip))
                        rw [put_whole (by rfl)] at hb8
                        refine bodyPost_ret (ret_cell_tmp rfl (askC _ (.slice none 0 0)) _ rfl hb8 Try.underlying58 rfl (info_askC _ _)) rfl ?_
                        exact ⟨hk3.trans hk8 (fun _ hk h => by omega), by rw [HT.out] <;> rfl⟩
                      | false =>
                        have HT := Lib.hid (HNo.out (by rw [HP.out, pick1 f _ rfl]; simp [h_uploads, h_histories, h_specs, h_jobs, h_heads, hnm, hnu]))
                        have g_uploads : ((str f).toList == [117, 112, 108, 111, 97, 100, 115]) = false := h_uploads
                        have g_histories : ((str f).toList == [104, 105, 115, 116, 111, 114, 105, 101, 115]) = false := h_histories
                        have g_specs : ((str f).toList == [115, 112, 101, 99, 115]) = false := h_specs
                        have g_jobs : ((str f).toList == [106, 111, 98, 115]) = false := h_jobs
                        have g_heads : ((str f).toList == [104, 101, 97, 100, 115]) = false := h_heads
                        clear HNo HP
                        go_enter Try.func45, Try.ntmps45
                        go_wp2_with (first
                          | ((with_reducible refine at_store 58 (.tmp 2) (.tmp 141) rfl ?_); go_must (refine step_store rfl _ _ _ rfl w.heap.size 0 (askC zeroA (.slice none 0 0)) _ _ rfl rfl hb0 (by simp [askC_len]) (info_askC _ _) (askC_one _) ?_); intro w8 hb8 hk8 hs8)
                          | (go_at_call 56; go_loud (refine Rets.use (HNa.out w3 _ hR7) ?_); rintro _ _ ⟨rfl, rfl⟩)
                          | (go_at_call 55; go_loud (refine Rets.use (HNu.out w2 _ hR6) ?_); rintro _ w3 ⟨hk3, rfl⟩; have hk3o := hk3; have hb0 := hk3.heap hb0 (fun h => h); have cx1 := hk3.cell cx1 (fun h => h); have hR7 := hR6.kept hk3 (fun _ _ h => h); have hk3 := hk2.trans hk3 (fun _ _ h => h); have cp := (hk3o.cell cp (fun h => h)))
                          | ((with_reducible refine at_ 30 rfl ?_); go_must (refine step_slice_from rfl _ _ _ rfl 9 ht_strs hi_strs (some ⟨b2, o2, none⟩) _ c2 2 .i64 (strs ([] :: f :: [p])) rfl rfl (by simp) hO2.rd (by simp [strs]) ?_); intro v6 hR6; have cx1 : w2.cell? ⟨b2, o2 + 1, none⟩ = some (.string (str f)) := hcell 1 _ rfl; obtain ⟨b6, o6, c6, rfl, _, _, hp6⟩ := hR6.at (by simp [strs]); have cp : w2.cell? ⟨b6, o6, none⟩ = some (.string (str p)) := hp6 0 _ rfl; clear hp6)
                          | (go_at_call 54; go_loud (refine Rets.use (HF.out _) ?_); rintro _ w2 ⟨hk2, u2, rfl, hO2⟩; obtain ⟨hb0, hk2, hs2⟩ := after1 hk2; obtain ⟨A2, c2, rfl, _⟩ := hO2.slice; first | (obtain ⟨b2, o2, c2', e2, _, hbk2, hcell⟩ := hO2.rd.at (by simp [strs]); cases e2; have cx0 : w2.cell? ⟨b2, o2, none⟩ = some (.string (str _)) := hcell 0 _ rfl) | skip))
                        rw [put_whole (by rfl)] at hb8
                        refine bodyPost_ret (ret_cell_tmp rfl (askC _ (.slice none 0 0)) _ rfl hb8 Try.underlying58 rfl (info_askC _ _)) rfl ?_
                        exact ⟨hk3.trans hk8 (fun _ hk h => by omega), by rw [HT.out] <;> rfl⟩
                  | false =>
                    rw [hnu] at HNu
                    simp only [Bool.false_eq_true, if_false] at HNu
                    have HT := Lib.hid (HNo.out (by rw [HP.out, pick1 f _ rfl]; cases isN f [106, 111, 98, 115] <;> cases isN f [104, 101, 97, 100, 115] <;> simp [h_uploads, h_histories, h_specs, hnm, hnu]))
                    have g_uploads : ((str f).toList == [117, 112, 108, 111, 97, 100, 115]) = false := h_uploads
                    have g_histories : ((str f).toList == [104, 105, 115, 116, 111, 114, 105, 101, 115]) = false := h_histories
                    have g_specs : ((str f).toList == [115, 112, 101, 99, 115]) = false := h_specs
                    clear HNo HP
                    go_enter Try.func45, Try.ntmps45
                    go_wp2_with (first
                      | ((with_reducible refine at_store 58 (.tmp 2) (.tmp 141) rfl ?_); go_must (refine step_store rfl _ _ _ rfl w.heap.size 0 (askC zeroA (.slice none 0 0)) _ _ rfl rfl hb0 (by simp [askC_len]) (info_askC _ _) (askC_one _) ?_); intro w8 hb8 hk8 hs8)
                      | (go_at_call 56; go_loud (refine Rets.use (HNa.out w3 _ hR7) ?_); rintro _ _ ⟨rfl, rfl⟩)
                      | (go_at_call 55; go_loud (refine Rets.use (HNu.out w2 _ hR6) ?_); rintro _ w3 ⟨hk3, rfl⟩; have hk3o := hk3; have hb0 := hk3.heap hb0 (fun h => h); have cx1 := hk3.cell cx1 (fun h => h); have hR7 := hR6.kept hk3 (fun _ _ h => h); have hk3 := hk2.trans hk3 (fun _ _ h => h); have cp := (hk3o.cell cp (fun h => h)))
                      | ((with_reducible refine at_ 30 rfl ?_); go_must (refine step_slice_from rfl _ _ _ rfl 9 ht_strs hi_strs (some ⟨b2, o2, none⟩) _ c2 2 .i64 (strs ([] :: f :: [p])) rfl rfl (by simp) hO2.rd (by simp [strs]) ?_); intro v6 hR6; have cx1 : w2.cell? ⟨b2, o2 + 1, none⟩ = some (.string (str f)) := hcell 1 _ rfl; obtain ⟨b6, o6, c6, rfl, _, _, hp6⟩ := hR6.at (by simp [strs]); have cp : w2.cell? ⟨b6, o6, none⟩ = some (.string (str p)) := hp6 0 _ rfl; clear hp6)
                      | (go_at_call 54; go_loud (refine Rets.use (HF.out _) ?_); rintro _ w2 ⟨hk2, u2, rfl, hO2⟩; obtain ⟨hb0, hk2, hs2⟩ := after1 hk2; obtain ⟨A2, c2, rfl, _⟩ := hO2.slice; first | (obtain ⟨b2, o2, c2', e2, _, hbk2, hcell⟩ := hO2.rd.at (by simp [strs]); cases e2; have cx0 : w2.cell? ⟨b2, o2, none⟩ = some (.string (str _)) := hcell 0 _ rfl) | skip))
                    rw [put_whole (by rfl)] at hb8
                    refine bodyPost_ret (ret_cell_tmp rfl (askC _ (.slice none 0 0)) _ rfl hb8 Try.underlying58 rfl (info_askC _ _)) rfl ?_
                    exact ⟨hk3.trans hk8 (fun _ hk h => by omega), by rw [HT.out] <;> rfl⟩
          | false =>
            rw [show ([p]).all nameF = false from hnm] at HNa
            cases hnu : okP true [p] with
            | true =>
              rw [hnu] at HNu
              simp only [if_true] at HNu
              cases h_jobs : isN f [106, 111, 98, 115] with
              | true =>
                have HT := Lib.hid (show tgtR s = (⟨5, [], [], [], numAt [p] 0, 0⟩, sGET) by unfold tgtR; rw [HP.out, pick1 f _ rfl]; simp [h_jobs, isN_one h_jobs (show ([106, 111, 98, 115] : List UInt8) ≠ [117, 112, 108, 111, 97, 100, 115] by decide), isN_one h_jobs (show ([106, 111, 98, 115] : List UInt8) ≠ [104, 105, 115, 116, 111, 114, 105, 101, 115] by decide), isN_one h_jobs (show ([106, 111, 98, 115] : List UInt8) ≠ [115, 112, 101, 99, 115] by decide), isN_one h_jobs (show ([106, 111, 98, 115] : List UInt8) ≠ [104, 101, 97, 100, 115] by decide), hnm, hnu]; rfl)
                have g_jobs : ((str f).toList == [106, 111, 98, 115]) = true := h_jobs
                clear HNo HP
                go_enter Try.func45, Try.ntmps45
                go_wp2_with (first
                  | ((with_reducible refine at_store 58 (.tmp 2) (.tmp 97) rfl ?_); go_must (refine step_store rfl _ _ _ rfl w.heap.size 0 (askC ⟨5, [], [], [], numAt [p] 0, 0⟩ (.slice none 0 0)) _ _ rfl rfl hb0 (by simp [askC_len]) (info_askC _ _) (askC_one _) ?_); intro w8 hb8 hk8 hs8)
                  | (go_at_call 56; go_loud (refine Rets.use (HNa.out w3 _ hR7) ?_); rintro _ _ ⟨rfl, rfl⟩)
                  | (go_at_call 55; go_loud (refine Rets.use (HNu.out w2 _ hR6) ?_); rintro _ w3 ⟨hk3, rfl⟩; have hk3o := hk3; have hb0 := hk3.heap hb0 (fun h => h); have cx1 := hk3.cell cx1 (fun h => h); have hR7 := hR6.kept hk3 (fun _ _ h => h); have hk3 := hk2.trans hk3 (fun _ _ h => h); have cp := (hk3o.cell cp (fun h => h)))
                  | ((with_reducible refine at_ 30 rfl ?_); go_must (refine step_slice_from rfl _ _ _ rfl 9 ht_strs hi_strs (some ⟨b2, o2, none⟩) _ c2 2 .i64 (strs ([] :: f :: [p])) rfl rfl (by simp) hO2.rd (by simp [strs]) ?_); intro v6 hR6; have cx1 : w2.cell? ⟨b2, o2 + 1, none⟩ = some (.string (str f)) := hcell 1 _ rfl; obtain ⟨b6, o6, c6, rfl, _, _, hp6⟩ := hR6.at (by simp [strs]); have cp : w2.cell? ⟨b6, o6, none⟩ = some (.string (str p)) := hp6 0 _ rfl; clear hp6)
                  | (go_at_call 54; go_loud (refine Rets.use (HF.out _) ?_); rintro _ w2 ⟨hk2, u2, rfl, hO2⟩; obtain ⟨hb0, hk2, hs2⟩ := after1 hk2; obtain ⟨A2, c2, rfl, _⟩ := hO2.slice; first | (obtain ⟨b2, o2, c2', e2, _, hbk2, hcell⟩ := hO2.rd.at (by simp [strs]); cases e2; have cx0 : w2.cell? ⟨b2, o2, none⟩ = some (.string (str _)) := hcell 0 _ rfl) | skip))
                rw [put_whole (by rfl)] at hb8
                refine bodyPost_ret (ret_cell_tmp rfl (askC _ (.slice none 0 0)) _ rfl hb8 Try.underlying58 rfl (info_askC _ _)) rfl ?_
                exact ⟨hk3.trans hk8 (fun _ hk h => by omega), by rw [HT.out] <;> rfl⟩
              | false =>
                cases h_heads : isN f [104, 101, 97, 100, 115] with
                | true =>
                  have HT := Lib.hid (show tgtR s = (⟨6, [], [], [], numAt [p] 0, 0⟩, sGET) by unfold tgtR; rw [HP.out, pick1 f _ rfl]; simp [h_jobs, h_heads, isN_one h_heads (show ([104, 101, 97, 100, 115] : List UInt8) ≠ [117, 112, 108, 111, 97, 100, 115] by decide), isN_one h_heads (show ([104, 101, 97, 100, 115] : List UInt8) ≠ [104, 105, 115, 116, 111, 114, 105, 101, 115] by decide), isN_one h_heads (show ([104, 101, 97, 100, 115] : List UInt8) ≠ [115, 112, 101, 99, 115] by decide), hnm, hnu]; rfl)
                  have g_jobs : ((str f).toList == [106, 111, 98, 115]) = false := h_jobs
                  have g_heads : ((str f).toList == [104, 101, 97, 100, 115]) = true := h_heads
                  clear HNo HP
                  go_enter Try.func45, Try.ntmps45
                  go_wp2_with (first
                    | ((with_reducible refine at_store 58 (.tmp 2) (.tmp 101) rfl ?_); go_must (refine step_store rfl _ _ _ rfl w.heap.size 0 (askC ⟨6, [], [], [], numAt [p] 0, 0⟩ (.slice none 0 0)) _ _ rfl rfl hb0 (by simp [askC_len]) (info_askC _ _) (askC_one _) ?_); intro w8 hb8 hk8 hs8)
                    | (go_at_call 56; go_loud (refine Rets.use (HNa.out w3 _ hR7) ?_); rintro _ _ ⟨rfl, rfl⟩)
                    | (go_at_call 55; go_loud (refine Rets.use (HNu.out w2 _ hR6) ?_); rintro _ w3 ⟨hk3, rfl⟩; have hk3o := hk3; have hb0 := hk3.heap hb0 (fun h => h); have cx1 := hk3.cell cx1 (fun h => h); have hR7 := hR6.kept hk3 (fun _ _ h => h); have hk3 := hk2.trans hk3 (fun _ _ h => h); have cp := (hk3o.cell cp (fun h => h)))
                    | ((with_reducible refine at_ 30 rfl ?_); go_must (refine step_slice_from rfl _ _ _ rfl 9 ht_strs hi_strs (some ⟨b2, o2, none⟩) _ c2 2 .i64 (strs ([] :: f :: [p])) rfl rfl (by simp) hO2.rd (by simp [strs]) ?_); intro v6 hR6; have cx1 : w2.cell? ⟨b2, o2 + 1, none⟩ = some (.string (str f)) := hcell 1 _ rfl; obtain ⟨b6, o6, c6, rfl, _, _, hp6⟩ := hR6.at (by simp [strs]); have cp : w2.cell? ⟨b6, o6, none⟩ = some (.string (str p)) := hp6 0 _ rfl; clear hp6)
                    | (go_at_call 54; go_loud (refine Rets.use (HF.out _) ?_); rintro _ w2 ⟨hk2, u2, rfl, hO2⟩; obtain ⟨hb0, hk2, hs2⟩ := after1 hk2; obtain ⟨A2, c2, rfl, _⟩ := hO2.slice; first | (obtain ⟨b2, o2, c2', e2, _, hbk2, hcell⟩ := hO2.rd.at (by simp [strs]); cases e2; have cx0 : w2.cell? ⟨b2, o2, none⟩ = some (.string (str _)) := hcell 0 _ rfl) | skip))
                  rw [put_whole (by rfl)] at hb8
                  refine bodyPost_ret (ret_cell_tmp rfl (askC _ (.slice none 0 0)) _ rfl hb8 Try.underlying58 rfl (info_askC _ _)) rfl ?_
                  exact ⟨hk3.trans hk8 (fun _ hk h => by omega), by rw [HT.out] <;> rfl⟩
                | false =>
                  have HT := Lib.hid (HNo.out (by rw [HP.out, pick1 f _ rfl]; cases isN f [117, 112, 108, 111, 97, 100, 115] <;> cases isN f [104, 105, 115, 116, 111, 114, 105, 101, 115] <;> cases isN f [115, 112, 101, 99, 115] <;> simp [h_jobs, h_heads, hnm, hnu]))
                  have g_jobs : ((str f).toList == [106, 111, 98, 115]) = false := h_jobs
                  have g_heads : ((str f).toList == [104, 101, 97, 100, 115]) = false := h_heads
                  clear HNo HP
                  go_enter Try.func45, Try.ntmps45
                  go_wp2_with (first
                    | ((with_reducible refine at_store 58 (.tmp 2) (.tmp 141) rfl ?_); go_must (refine step_store rfl _ _ _ rfl w.heap.size 0 (askC zeroA (.slice none 0 0)) _ _ rfl rfl hb0 (by simp [askC_len]) (info_askC _ _) (askC_one _) ?_); intro w8 hb8 hk8 hs8)
                    | (go_at_call 56; go_loud (refine Rets.use (HNa.out w3 _ hR7) ?_); rintro _ _ ⟨rfl, rfl⟩)
                    | (go_at_call 55; go_loud (refine Rets.use (HNu.out w2 _ hR6) ?_); rintro _ w3 ⟨hk3, rfl⟩; have hk3o := hk3; have hb0 := hk3.heap hb0 (fun h => h); have cx1 := hk3.cell cx1 (fun h => h); have hR7 := hR6.kept hk3 (fun _ _ h => h); have hk3 := hk2.trans hk3 (fun _ _ h => h); have cp := (hk3o.cell cp (fun h => h)))
                    | ((with_reducible refine at_ 30 rfl ?_); go_must (refine step_slice_from rfl _ _ _ rfl 9 ht_strs hi_strs (some ⟨b2, o2, none⟩) _ c2 2 .i64 (strs ([] :: f :: [p])) rfl rfl (by simp) hO2.rd (by simp [strs]) ?_); intro v6 hR6; have cx1 : w2.cell? ⟨b2, o2 + 1, none⟩ = some (.string (str f)) := hcell 1 _ rfl; obtain ⟨b6, o6, c6, rfl, _, _, hp6⟩ := hR6.at (by simp [strs]); have cp : w2.cell? ⟨b6, o6, none⟩ = some (.string (str p)) := hp6 0 _ rfl; clear hp6)
                    | (go_at_call 54; go_loud (refine Rets.use (HF.out _) ?_); rintro _ w2 ⟨hk2, u2, rfl, hO2⟩; obtain ⟨hb0, hk2, hs2⟩ := after1 hk2; obtain ⟨A2, c2, rfl, _⟩ := hO2.slice; first | (obtain ⟨b2, o2, c2', e2, _, hbk2, hcell⟩ := hO2.rd.at (by simp [strs]); cases e2; have cx0 : w2.cell? ⟨b2, o2, none⟩ = some (.string (str _)) := hcell 0 _ rfl) | skip))
                  rw [put_whole (by rfl)] at hb8
                  refine bodyPost_ret (ret_cell_tmp rfl (askC _ (.slice none 0 0)) _ rfl hb8 Try.underlying58 rfl (info_askC _ _)) rfl ?_
                  exact ⟨hk3.trans hk8 (fun _ hk h => by omega), by rw [HT.out] <;> rfl⟩
            | false =>
              rw [hnu] at HNu
              simp only [Bool.false_eq_true, if_false] at HNu
              have HT := Lib.hid (HNo.out (by rw [HP.out, pick1 f _ rfl]; cases isN f [117, 112, 108, 111, 97, 100, 115] <;> cases isN f [104, 105, 115, 116, 111, 114, 105, 101, 115] <;> cases isN f [115, 112, 101, 99, 115] <;> cases isN f [106, 111, 98, 115] <;> cases isN f [104, 101, 97, 100, 115] <;> simp [hnm, hnu]))
              clear HNo HP
              go_enter Try.func45, Try.ntmps45
              go_wp2_with (first
                | ((with_reducible refine at_store 58 (.tmp 2) (.tmp 141) rfl ?_); go_must (refine step_store rfl _ _ _ rfl w.heap.size 0 (askC zeroA (.slice none 0 0)) _ _ rfl rfl hb0 (by simp [askC_len]) (info_askC _ _) (askC_one _) ?_); intro w8 hb8 hk8 hs8)
                | (go_at_call 56; go_loud (refine Rets.use (HNa.out w3 _ hR7) ?_); rintro _ _ ⟨rfl, rfl⟩)
                | (go_at_call 55; go_loud (refine Rets.use (HNu.out w2 _ hR6) ?_); rintro _ w3 ⟨hk3, rfl⟩; have hk3o := hk3; have hb0 := hk3.heap hb0 (fun h => h); have cx1 := hk3.cell cx1 (fun h => h); have hR7 := hR6.kept hk3 (fun _ _ h => h); have hk3 := hk2.trans hk3 (fun _ _ h => h); have cp := (hk3o.cell cp (fun h => h)))
                | ((with_reducible refine at_ 30 rfl ?_); go_must (refine step_slice_from rfl _ _ _ rfl 9 ht_strs hi_strs (some ⟨b2, o2, none⟩) _ c2 2 .i64 (strs ([] :: f :: [p])) rfl rfl (by simp) hO2.rd (by simp [strs]) ?_); intro v6 hR6; have cx1 : w2.cell? ⟨b2, o2 + 1, none⟩ = some (.string (str f)) := hcell 1 _ rfl; obtain ⟨b6, o6, c6, rfl, _, _, hp6⟩ := hR6.at (by simp [strs]); have cp : w2.cell? ⟨b6, o6, none⟩ = some (.string (str p)) := hp6 0 _ rfl; clear hp6)
                | (go_at_call 54; go_loud (refine Rets.use (HF.out _) ?_); rintro _ w2 ⟨hk2, u2, rfl, hO2⟩; obtain ⟨hb0, hk2, hs2⟩ := after1 hk2; obtain ⟨A2, c2, rfl, _⟩ := hO2.slice; first | (obtain ⟨b2, o2, c2', e2, _, hbk2, hcell⟩ := hO2.rd.at (by simp [strs]); cases e2; have cx0 : w2.cell? ⟨b2, o2, none⟩ = some (.string (str _)) := hcell 0 _ rfl) | skip))
              rw [put_whole (by rfl)] at hb8
              refine bodyPost_ret (ret_cell_tmp rfl (askC _ (.slice none 0 0)) _ rfl hb8 Try.underlying58 rfl (info_askC _ _)) rfl ?_
              exact ⟨hk3.trans hk8 (fun _ hk h => by omega), by rw [HT.out] <;> rfl⟩
        | [p, q], _ =>
          have HNu := Lib.hid (fun (w' : World) (v : Value) (hr : Rd w' (fun k => (w.alloc (.cells #[Value.int .i64 0, .string ⟨#[]⟩, .string ⟨#[]⟩, .slice none 0 0, .int .i64 0, .int .i64 0] 58)).heap.size ≤ k) v ([p, q] : List (List Int)).length (strs [p, q])) => (show Calls Try.prog 55 #[v] w' (Rets (fun v' w'' => Keeps (fun _ => False) w' w'' ∧ v' = .tuple #[.int .i64 (if okP true [p, q] = true then numAt [p, q] 0 else 0), .int .i64 (if okP true [p, q] = true then numAt [p, q] 1 else 0), .bool (okP true [p, q])])) from numbers23_c [p, q] hB2 (by simp) v hr))
          have HNa := Lib.hid (fun (w' : World) (v : Value) (hr : Rd w' (fun k => (w.alloc (.cells #[Value.int .i64 0, .string ⟨#[]⟩, .string ⟨#[]⟩, .slice none 0 0, .int .i64 0, .int .i64 0] 58)).heap.size ≤ k) v ([p, q] : List (List Int)).length (strs [p, q])) => names23_c [p, q] hB2 (by simp) v hr)
          clear hB2
          cases hnm : okP false [p, q] with
          | true =>
            rw [show ([p, q]).all nameF = true from hnm] at HNa
            cases h_jobs : isN f [106, 111, 98, 115] with
            | true =>
              cases hnu : okP true [p, q] with
              | true =>
                rw [hnu] at HNu
                simp only [if_true] at HNu
                have HT := Lib.hid (show tgtR s = (⟨4, p, q, [], 0, 0⟩, sPOST) by unfold tgtR; rw [HP.out, pick2 f _ rfl]; simp [h_jobs, isN_one h_jobs (show ([106, 111, 98, 115] : List UInt8) ≠ [101, 110, 116, 114, 105, 101, 115] by decide), isN_one h_jobs (show ([106, 111, 98, 115] : List UInt8) ≠ [103, 114, 111, 119, 116, 104] by decide), hnm]; rfl)
                have g_jobs : ((str f).toList == [106, 111, 98, 115]) = true := h_jobs
                clear HNo HP
                go_enter Try.func45, Try.ntmps45
                go_wp2_with (first
                  | (go_at_call 56; go_loud (refine Rets.use (HNa.out w3 _ hR7) ?_); rintro _ _ ⟨rfl, rfl⟩)
                  | (go_at_call 55; go_loud (refine Rets.use (HNu.out w2 _ hR6) ?_); rintro _ w3 ⟨hk3, rfl⟩; have hk3o := hk3; have hb0 := hk3.heap hb0 (fun h => h); have cx1 := hk3.cell cx1 (fun h => h); have hR7 := hR6.kept hk3 (fun _ _ h => h); have hk3 := hk2.trans hk3 (fun _ _ h => h); have cp := (hk3o.cell cp (fun h => h)); have cq := (hk3o.cell cq (fun h => h)))
                  | ((with_reducible refine at_ 30 rfl ?_); go_must (refine step_slice_from rfl _ _ _ rfl 9 ht_strs hi_strs (some ⟨b2, o2, none⟩) _ c2 2 .i64 (strs ([] :: f :: [p, q])) rfl rfl (by simp) hO2.rd (by simp [strs]) ?_); intro v6 hR6; have cx1 : w2.cell? ⟨b2, o2 + 1, none⟩ = some (.string (str f)) := hcell 1 _ rfl; obtain ⟨b6, o6, c6, rfl, _, _, hp6⟩ := hR6.at (by simp [strs]); have cp : w2.cell? ⟨b6, o6, none⟩ = some (.string (str p)) := hp6 0 _ rfl; have cq : w2.cell? ⟨b6, o6 + 1, none⟩ = some (.string (str q)) := hp6 1 _ rfl; clear hp6)
                  | (go_at_call 54; go_loud (refine Rets.use (HF.out _) ?_); rintro _ w2 ⟨hk2, u2, rfl, hO2⟩; obtain ⟨hb0, hk2, hs2⟩ := after1 hk2; obtain ⟨A2, c2, rfl, _⟩ := hO2.slice; first | (obtain ⟨b2, o2, c2', e2, _, hbk2, hcell⟩ := hO2.rd.at (by simp [strs]); cases e2; have cx0 : w2.cell? ⟨b2, o2, none⟩ = some (.string (str _)) := hcell 0 _ rfl) | skip))
                refine Canon.row [0, 1, 3, 4, 2, 5, 6, 7, 8] (by kernel_rfl) (by kernel_rfl) (by repeat (first | (with_reducible exact Safe.body) | (with_reducible apply Safe.then) | (with_reducible apply Safe.inBlock) | (dsimp +zetaDelta only))) ?_
                simp only [Canon.pick, Canon.wpPlan, List.getElem?_toArray, List.getElem?_cons_zero, List.getElem?_cons_succ]
                have KD : Keeps (fun _ => False) w3 w3.drew := (Keeps.refl _ w3).drew
                have hb0 := KD.heap hb0 (fun h => h)
                have cp := KD.cell cp (fun h => h)
                have cq := KD.cell cq (fun h => h)
                have hk3 := hk3.trans KD (fun _ _ h => h)
                clear KD
                generalize w3.drew = w4 at *
                go_wp2_with ((with_reducible refine at_store 58 (.tmp 2) (.tmp 121) rfl ?_); go_must (refine step_store rfl _ _ _ rfl w.heap.size 0 (askC ⟨4, p, q, [], 0, 0⟩ (.slice none 0 0)) _ _ rfl rfl hb0 (by simp [askC_len]) (info_askC _ _) (askC_one _) ?_); intro w8 hb8 hk8 hs8)
                refine ⟨by rfl, trivial, ?_⟩
                go_wp2
                rw [put_whole (by rfl)] at hb8
                refine bodyPost_ret (ret_cell_tmp rfl (askC _ (.slice none 0 0)) _ rfl hb8 Try.underlying58 rfl (info_askC _ _)) rfl ?_
                exact ⟨hk3.trans hk8 (fun _ hk h => by omega), by rw [HT.out] <;> rfl⟩
              | false =>
                rw [hnu] at HNu
                simp only [Bool.false_eq_true, if_false] at HNu
                have HT := Lib.hid (show tgtR s = (⟨4, p, q, [], 0, 0⟩, sPOST) by unfold tgtR; rw [HP.out, pick2 f _ rfl]; simp [h_jobs, isN_one h_jobs (show ([106, 111, 98, 115] : List UInt8) ≠ [101, 110, 116, 114, 105, 101, 115] by decide), isN_one h_jobs (show ([106, 111, 98, 115] : List UInt8) ≠ [103, 114, 111, 119, 116, 104] by decide), hnm]; rfl)
                have g_jobs : ((str f).toList == [106, 111, 98, 115]) = true := h_jobs
                clear HNo HP
                go_enter Try.func45, Try.ntmps45
                go_wp2_with (first
                  | (go_at_call 56; go_loud (refine Rets.use (HNa.out w3 _ hR7) ?_); rintro _ _ ⟨rfl, rfl⟩)
                  | (go_at_call 55; go_loud (refine Rets.use (HNu.out w2 _ hR6) ?_); rintro _ w3 ⟨hk3, rfl⟩; have hk3o := hk3; have hb0 := hk3.heap hb0 (fun h => h); have cx1 := hk3.cell cx1 (fun h => h); have hR7 := hR6.kept hk3 (fun _ _ h => h); have hk3 := hk2.trans hk3 (fun _ _ h => h); have cp := (hk3o.cell cp (fun h => h)); have cq := (hk3o.cell cq (fun h => h)))
                  | ((with_reducible refine at_ 30 rfl ?_); go_must (refine step_slice_from rfl _ _ _ rfl 9 ht_strs hi_strs (some ⟨b2, o2, none⟩) _ c2 2 .i64 (strs ([] :: f :: [p, q])) rfl rfl (by simp) hO2.rd (by simp [strs]) ?_); intro v6 hR6; have cx1 : w2.cell? ⟨b2, o2 + 1, none⟩ = some (.string (str f)) := hcell 1 _ rfl; obtain ⟨b6, o6, c6, rfl, _, _, hp6⟩ := hR6.at (by simp [strs]); have cp : w2.cell? ⟨b6, o6, none⟩ = some (.string (str p)) := hp6 0 _ rfl; have cq : w2.cell? ⟨b6, o6 + 1, none⟩ = some (.string (str q)) := hp6 1 _ rfl; clear hp6)
                  | (go_at_call 54; go_loud (refine Rets.use (HF.out _) ?_); rintro _ w2 ⟨hk2, u2, rfl, hO2⟩; obtain ⟨hb0, hk2, hs2⟩ := after1 hk2; obtain ⟨A2, c2, rfl, _⟩ := hO2.slice; first | (obtain ⟨b2, o2, c2', e2, _, hbk2, hcell⟩ := hO2.rd.at (by simp [strs]); cases e2; have cx0 : w2.cell? ⟨b2, o2, none⟩ = some (.string (str _)) := hcell 0 _ rfl) | skip))
                refine Canon.row [0, 1, 3, 4, 2, 5, 6, 7, 8] (by kernel_rfl) (by kernel_rfl) (by repeat (first | (with_reducible exact Safe.body) | (with_reducible apply Safe.then) | (with_reducible apply Safe.inBlock) | (dsimp +zetaDelta only))) ?_
                simp only [Canon.pick, Canon.wpPlan, List.getElem?_toArray, List.getElem?_cons_zero, List.getElem?_cons_succ]
                have KD : Keeps (fun _ => False) w3 w3.drew := (Keeps.refl _ w3).drew
                have hb0 := KD.heap hb0 (fun h => h)
                have cp := KD.cell cp (fun h => h)
                have cq := KD.cell cq (fun h => h)
                have hk3 := hk3.trans KD (fun _ _ h => h)
                clear KD
                generalize w3.drew = w4 at *
                go_wp2_with ((with_reducible refine at_store 58 (.tmp 2) (.tmp 121) rfl ?_); go_must (refine step_store rfl _ _ _ rfl w.heap.size 0 (askC ⟨4, p, q, [], 0, 0⟩ (.slice none 0 0)) _ _ rfl rfl hb0 (by simp [askC_len]) (info_askC _ _) (askC_one _) ?_); intro w8 hb8 hk8 hs8)
                refine ⟨by rfl, trivial, ?_⟩
                go_wp2
                rw [put_whole (by rfl)] at hb8
                refine bodyPost_ret (ret_cell_tmp rfl (askC _ (.slice none 0 0)) _ rfl hb8 Try.underlying58 rfl (info_askC _ _)) rfl ?_
                exact ⟨hk3.trans hk8 (fun _ hk h => by omega), by rw [HT.out] <;> rfl⟩
            | false =>
              cases hnu : okP true [p, q] with
              | true =>
                rw [hnu] at HNu
                simp only [if_true] at HNu
                cases h_entries : isN f [101, 110, 116, 114, 105, 101, 115] with
                | true =>
                  have HT := Lib.hid (show tgtR s = (⟨7, [], [], [], numAt [p, q] 0, numAt [p, q] 1⟩, sGET) by unfold tgtR; rw [HP.out, pick2 f _ rfl]; simp [h_jobs, h_entries, isN_one h_entries (show ([101, 110, 116, 114, 105, 101, 115] : List UInt8) ≠ [103, 114, 111, 119, 116, 104] by decide), hnm, hnu]; rfl)
                  have g_jobs : ((str f).toList == [106, 111, 98, 115]) = false := h_jobs
                  have g_entries : ((str f).toList == [101, 110, 116, 114, 105, 101, 115]) = true := h_entries
                  clear HNo HP
                  go_enter Try.func45, Try.ntmps45
                  go_wp2_with (first
                    | ((with_reducible refine at_store 58 (.tmp 2) (.tmp 135) rfl ?_); go_must (refine step_store rfl _ _ _ rfl w.heap.size 0 (askC ⟨7, [], [], [], numAt [p, q] 0, numAt [p, q] 1⟩ (.slice none 0 0)) _ _ rfl rfl hb0 (by simp [askC_len]) (info_askC _ _) (askC_one _) ?_); intro w8 hb8 hk8 hs8)
                    | (go_at_call 56; go_loud (refine Rets.use (HNa.out w3 _ hR7) ?_); rintro _ _ ⟨rfl, rfl⟩)
                    | (go_at_call 55; go_loud (refine Rets.use (HNu.out w2 _ hR6) ?_); rintro _ w3 ⟨hk3, rfl⟩; have hk3o := hk3; have hb0 := hk3.heap hb0 (fun h => h); have cx1 := hk3.cell cx1 (fun h => h); have hR7 := hR6.kept hk3 (fun _ _ h => h); have hk3 := hk2.trans hk3 (fun _ _ h => h); have cp := (hk3o.cell cp (fun h => h)); have cq := (hk3o.cell cq (fun h => h)))
                    | ((with_reducible refine at_ 30 rfl ?_); go_must (refine step_slice_from rfl _ _ _ rfl 9 ht_strs hi_strs (some ⟨b2, o2, none⟩) _ c2 2 .i64 (strs ([] :: f :: [p, q])) rfl rfl (by simp) hO2.rd (by simp [strs]) ?_); intro v6 hR6; have cx1 : w2.cell? ⟨b2, o2 + 1, none⟩ = some (.string (str f)) := hcell 1 _ rfl; obtain ⟨b6, o6, c6, rfl, _, _, hp6⟩ := hR6.at (by simp [strs]); have cp : w2.cell? ⟨b6, o6, none⟩ = some (.string (str p)) := hp6 0 _ rfl; have cq : w2.cell? ⟨b6, o6 + 1, none⟩ = some (.string (str q)) := hp6 1 _ rfl; clear hp6)
                    | (go_at_call 54; go_loud (refine Rets.use (HF.out _) ?_); rintro _ w2 ⟨hk2, u2, rfl, hO2⟩; obtain ⟨hb0, hk2, hs2⟩ := after1 hk2; obtain ⟨A2, c2, rfl, _⟩ := hO2.slice; first | (obtain ⟨b2, o2, c2', e2, _, hbk2, hcell⟩ := hO2.rd.at (by simp [strs]); cases e2; have cx0 : w2.cell? ⟨b2, o2, none⟩ = some (.string (str _)) := hcell 0 _ rfl) | skip))
                  rw [put_whole (by rfl)] at hb8
                  refine bodyPost_ret (ret_cell_tmp rfl (askC _ (.slice none 0 0)) _ rfl hb8 Try.underlying58 rfl (info_askC _ _)) rfl ?_
                  exact ⟨hk3.trans hk8 (fun _ hk h => by omega), by rw [HT.out] <;> rfl⟩
                | false =>
                  cases h_growth : isN f [103, 114, 111, 119, 116, 104] with
                  | true =>
                    have HT := Lib.hid (show tgtR s = (⟨8, [], [], [], numAt [p, q] 0, numAt [p, q] 1⟩, sGET) by unfold tgtR; rw [HP.out, pick2 f _ rfl]; simp [h_jobs, h_entries, h_growth, hnm, hnu]; rfl)
                    have g_jobs : ((str f).toList == [106, 111, 98, 115]) = false := h_jobs
                    have g_entries : ((str f).toList == [101, 110, 116, 114, 105, 101, 115]) = false := h_entries
                    have g_growth : ((str f).toList == [103, 114, 111, 119, 116, 104]) = true := h_growth
                    clear HNo HP
                    go_enter Try.func45, Try.ntmps45
                    go_wp2_with (first
                      | ((with_reducible refine at_store 58 (.tmp 2) (.tmp 140) rfl ?_); go_must (refine step_store rfl _ _ _ rfl w.heap.size 0 (askC ⟨8, [], [], [], numAt [p, q] 0, numAt [p, q] 1⟩ (.slice none 0 0)) _ _ rfl rfl hb0 (by simp [askC_len]) (info_askC _ _) (askC_one _) ?_); intro w8 hb8 hk8 hs8)
                      | (go_at_call 56; go_loud (refine Rets.use (HNa.out w3 _ hR7) ?_); rintro _ _ ⟨rfl, rfl⟩)
                      | (go_at_call 55; go_loud (refine Rets.use (HNu.out w2 _ hR6) ?_); rintro _ w3 ⟨hk3, rfl⟩; have hk3o := hk3; have hb0 := hk3.heap hb0 (fun h => h); have cx1 := hk3.cell cx1 (fun h => h); have hR7 := hR6.kept hk3 (fun _ _ h => h); have hk3 := hk2.trans hk3 (fun _ _ h => h); have cp := (hk3o.cell cp (fun h => h)); have cq := (hk3o.cell cq (fun h => h)))
                      | ((with_reducible refine at_ 30 rfl ?_); go_must (refine step_slice_from rfl _ _ _ rfl 9 ht_strs hi_strs (some ⟨b2, o2, none⟩) _ c2 2 .i64 (strs ([] :: f :: [p, q])) rfl rfl (by simp) hO2.rd (by simp [strs]) ?_); intro v6 hR6; have cx1 : w2.cell? ⟨b2, o2 + 1, none⟩ = some (.string (str f)) := hcell 1 _ rfl; obtain ⟨b6, o6, c6, rfl, _, _, hp6⟩ := hR6.at (by simp [strs]); have cp : w2.cell? ⟨b6, o6, none⟩ = some (.string (str p)) := hp6 0 _ rfl; have cq : w2.cell? ⟨b6, o6 + 1, none⟩ = some (.string (str q)) := hp6 1 _ rfl; clear hp6)
                      | (go_at_call 54; go_loud (refine Rets.use (HF.out _) ?_); rintro _ w2 ⟨hk2, u2, rfl, hO2⟩; obtain ⟨hb0, hk2, hs2⟩ := after1 hk2; obtain ⟨A2, c2, rfl, _⟩ := hO2.slice; first | (obtain ⟨b2, o2, c2', e2, _, hbk2, hcell⟩ := hO2.rd.at (by simp [strs]); cases e2; have cx0 : w2.cell? ⟨b2, o2, none⟩ = some (.string (str _)) := hcell 0 _ rfl) | skip))
                    rw [put_whole (by rfl)] at hb8
                    refine bodyPost_ret (ret_cell_tmp rfl (askC _ (.slice none 0 0)) _ rfl hb8 Try.underlying58 rfl (info_askC _ _)) rfl ?_
                    exact ⟨hk3.trans hk8 (fun _ hk h => by omega), by rw [HT.out] <;> rfl⟩
                  | false =>
                    have HT := Lib.hid (HNo.out (by rw [HP.out, pick2 f _ rfl];  simp [h_jobs, h_entries, h_growth, hnm, hnu]))
                    have g_jobs : ((str f).toList == [106, 111, 98, 115]) = false := h_jobs
                    have g_entries : ((str f).toList == [101, 110, 116, 114, 105, 101, 115]) = false := h_entries
                    have g_growth : ((str f).toList == [103, 114, 111, 119, 116, 104]) = false := h_growth
                    clear HNo HP
                    go_enter Try.func45, Try.ntmps45
                    go_wp2_with (first
                      | ((with_reducible refine at_store 58 (.tmp 2) (.tmp 141) rfl ?_); go_must (refine step_store rfl _ _ _ rfl w.heap.size 0 (askC zeroA (.slice none 0 0)) _ _ rfl rfl hb0 (by simp [askC_len]) (info_askC _ _) (askC_one _) ?_); intro w8 hb8 hk8 hs8)
                      | (go_at_call 56; go_loud (refine Rets.use (HNa.out w3 _ hR7) ?_); rintro _ _ ⟨rfl, rfl⟩)
                      | (go_at_call 55; go_loud (refine Rets.use (HNu.out w2 _ hR6) ?_); rintro _ w3 ⟨hk3, rfl⟩; have hk3o := hk3; have hb0 := hk3.heap hb0 (fun h => h); have cx1 := hk3.cell cx1 (fun h => h); have hR7 := hR6.kept hk3 (fun _ _ h => h); have hk3 := hk2.trans hk3 (fun _ _ h => h); have cp := (hk3o.cell cp (fun h => h)); have cq := (hk3o.cell cq (fun h => h)))
                      | ((with_reducible refine at_ 30 rfl ?_); go_must (refine step_slice_from rfl _ _ _ rfl 9 ht_strs hi_strs (some ⟨b2, o2, none⟩) _ c2 2 .i64 (strs ([] :: f :: [p, q])) rfl rfl (by simp) hO2.rd (by simp [strs]) ?_); intro v6 hR6; have cx1 : w2.cell? ⟨b2, o2 + 1, none⟩ = some (.string (str f)) := hcell 1 _ rfl; obtain ⟨b6, o6, c6, rfl, _, _, hp6⟩ := hR6.at (by simp [strs]); have cp : w2.cell? ⟨b6, o6, none⟩ = some (.string (str p)) := hp6 0 _ rfl; have cq : w2.cell? ⟨b6, o6 + 1, none⟩ = some (.string (str q)) := hp6 1 _ rfl; clear hp6)
                      | (go_at_call 54; go_loud (refine Rets.use (HF.out _) ?_); rintro _ w2 ⟨hk2, u2, rfl, hO2⟩; obtain ⟨hb0, hk2, hs2⟩ := after1 hk2; obtain ⟨A2, c2, rfl, _⟩ := hO2.slice; first | (obtain ⟨b2, o2, c2', e2, _, hbk2, hcell⟩ := hO2.rd.at (by simp [strs]); cases e2; have cx0 : w2.cell? ⟨b2, o2, none⟩ = some (.string (str _)) := hcell 0 _ rfl) | skip))
                    rw [put_whole (by rfl)] at hb8
                    refine bodyPost_ret (ret_cell_tmp rfl (askC _ (.slice none 0 0)) _ rfl hb8 Try.underlying58 rfl (info_askC _ _)) rfl ?_
                    exact ⟨hk3.trans hk8 (fun _ hk h => by omega), by rw [HT.out] <;> rfl⟩
              | false =>
                rw [hnu] at HNu
                simp only [Bool.false_eq_true, if_false] at HNu
                have HT := Lib.hid (HNo.out (by rw [HP.out, pick2 f _ rfl]; cases isN f [101, 110, 116, 114, 105, 101, 115] <;> cases isN f [103, 114, 111, 119, 116, 104] <;> simp [h_jobs, hnm, hnu]))
                have g_jobs : ((str f).toList == [106, 111, 98, 115]) = false := h_jobs
                clear HNo HP
                go_enter Try.func45, Try.ntmps45
                go_wp2_with (first
                  | ((with_reducible refine at_store 58 (.tmp 2) (.tmp 141) rfl ?_); go_must (refine step_store rfl _ _ _ rfl w.heap.size 0 (askC zeroA (.slice none 0 0)) _ _ rfl rfl hb0 (by simp [askC_len]) (info_askC _ _) (askC_one _) ?_); intro w8 hb8 hk8 hs8)
                  | (go_at_call 56; go_loud (refine Rets.use (HNa.out w3 _ hR7) ?_); rintro _ _ ⟨rfl, rfl⟩)
                  | (go_at_call 55; go_loud (refine Rets.use (HNu.out w2 _ hR6) ?_); rintro _ w3 ⟨hk3, rfl⟩; have hk3o := hk3; have hb0 := hk3.heap hb0 (fun h => h); have cx1 := hk3.cell cx1 (fun h => h); have hR7 := hR6.kept hk3 (fun _ _ h => h); have hk3 := hk2.trans hk3 (fun _ _ h => h); have cp := (hk3o.cell cp (fun h => h)); have cq := (hk3o.cell cq (fun h => h)))
                  | ((with_reducible refine at_ 30 rfl ?_); go_must (refine step_slice_from rfl _ _ _ rfl 9 ht_strs hi_strs (some ⟨b2, o2, none⟩) _ c2 2 .i64 (strs ([] :: f :: [p, q])) rfl rfl (by simp) hO2.rd (by simp [strs]) ?_); intro v6 hR6; have cx1 : w2.cell? ⟨b2, o2 + 1, none⟩ = some (.string (str f)) := hcell 1 _ rfl; obtain ⟨b6, o6, c6, rfl, _, _, hp6⟩ := hR6.at (by simp [strs]); have cp : w2.cell? ⟨b6, o6, none⟩ = some (.string (str p)) := hp6 0 _ rfl; have cq : w2.cell? ⟨b6, o6 + 1, none⟩ = some (.string (str q)) := hp6 1 _ rfl; clear hp6)
                  | (go_at_call 54; go_loud (refine Rets.use (HF.out _) ?_); rintro _ w2 ⟨hk2, u2, rfl, hO2⟩; obtain ⟨hb0, hk2, hs2⟩ := after1 hk2; obtain ⟨A2, c2, rfl, _⟩ := hO2.slice; first | (obtain ⟨b2, o2, c2', e2, _, hbk2, hcell⟩ := hO2.rd.at (by simp [strs]); cases e2; have cx0 : w2.cell? ⟨b2, o2, none⟩ = some (.string (str _)) := hcell 0 _ rfl) | skip))
                rw [put_whole (by rfl)] at hb8
                refine bodyPost_ret (ret_cell_tmp rfl (askC _ (.slice none 0 0)) _ rfl hb8 Try.underlying58 rfl (info_askC _ _)) rfl ?_
                exact ⟨hk3.trans hk8 (fun _ hk h => by omega), by rw [HT.out] <;> rfl⟩
          | false =>
            rw [show ([p, q]).all nameF = false from hnm] at HNa
            cases hnu : okP true [p, q] with
            | true =>
              rw [hnu] at HNu
              simp only [if_true] at HNu
              cases h_entries : isN f [101, 110, 116, 114, 105, 101, 115] with
              | true =>
                have HT := Lib.hid (show tgtR s = (⟨7, [], [], [], numAt [p, q] 0, numAt [p, q] 1⟩, sGET) by unfold tgtR; rw [HP.out, pick2 f _ rfl]; simp [h_entries, isN_one h_entries (show ([101, 110, 116, 114, 105, 101, 115] : List UInt8) ≠ [106, 111, 98, 115] by decide), isN_one h_entries (show ([101, 110, 116, 114, 105, 101, 115] : List UInt8) ≠ [103, 114, 111, 119, 116, 104] by decide), hnm, hnu]; rfl)
                have g_entries : ((str f).toList == [101, 110, 116, 114, 105, 101, 115]) = true := h_entries
                clear HNo HP
                go_enter Try.func45, Try.ntmps45
                go_wp2_with (first
                  | ((with_reducible refine at_store 58 (.tmp 2) (.tmp 135) rfl ?_); go_must (refine step_store rfl _ _ _ rfl w.heap.size 0 (askC ⟨7, [], [], [], numAt [p, q] 0, numAt [p, q] 1⟩ (.slice none 0 0)) _ _ rfl rfl hb0 (by simp [askC_len]) (info_askC _ _) (askC_one _) ?_); intro w8 hb8 hk8 hs8)
                  | (go_at_call 56; go_loud (refine Rets.use (HNa.out w3 _ hR7) ?_); rintro _ _ ⟨rfl, rfl⟩)
                  | (go_at_call 55; go_loud (refine Rets.use (HNu.out w2 _ hR6) ?_); rintro _ w3 ⟨hk3, rfl⟩; have hk3o := hk3; have hb0 := hk3.heap hb0 (fun h => h); have cx1 := hk3.cell cx1 (fun h => h); have hR7 := hR6.kept hk3 (fun _ _ h => h); have hk3 := hk2.trans hk3 (fun _ _ h => h); have cp := (hk3o.cell cp (fun h => h)); have cq := (hk3o.cell cq (fun h => h)))
                  | ((with_reducible refine at_ 30 rfl ?_); go_must (refine step_slice_from rfl _ _ _ rfl 9 ht_strs hi_strs (some ⟨b2, o2, none⟩) _ c2 2 .i64 (strs ([] :: f :: [p, q])) rfl rfl (by simp) hO2.rd (by simp [strs]) ?_); intro v6 hR6; have cx1 : w2.cell? ⟨b2, o2 + 1, none⟩ = some (.string (str f)) := hcell 1 _ rfl; obtain ⟨b6, o6, c6, rfl, _, _, hp6⟩ := hR6.at (by simp [strs]); have cp : w2.cell? ⟨b6, o6, none⟩ = some (.string (str p)) := hp6 0 _ rfl; have cq : w2.cell? ⟨b6, o6 + 1, none⟩ = some (.string (str q)) := hp6 1 _ rfl; clear hp6)
                  | (go_at_call 54; go_loud (refine Rets.use (HF.out _) ?_); rintro _ w2 ⟨hk2, u2, rfl, hO2⟩; obtain ⟨hb0, hk2, hs2⟩ := after1 hk2; obtain ⟨A2, c2, rfl, _⟩ := hO2.slice; first | (obtain ⟨b2, o2, c2', e2, _, hbk2, hcell⟩ := hO2.rd.at (by simp [strs]); cases e2; have cx0 : w2.cell? ⟨b2, o2, none⟩ = some (.string (str _)) := hcell 0 _ rfl) | skip))
                rw [put_whole (by rfl)] at hb8
                refine bodyPost_ret (ret_cell_tmp rfl (askC _ (.slice none 0 0)) _ rfl hb8 Try.underlying58 rfl (info_askC _ _)) rfl ?_
                exact ⟨hk3.trans hk8 (fun _ hk h => by omega), by rw [HT.out] <;> rfl⟩
              | false =>
                cases h_growth : isN f [103, 114, 111, 119, 116, 104] with
                | true =>
                  have HT := Lib.hid (show tgtR s = (⟨8, [], [], [], numAt [p, q] 0, numAt [p, q] 1⟩, sGET) by unfold tgtR; rw [HP.out, pick2 f _ rfl]; simp [h_entries, h_growth, isN_one h_growth (show ([103, 114, 111, 119, 116, 104] : List UInt8) ≠ [106, 111, 98, 115] by decide), hnm, hnu]; rfl)
                  have g_entries : ((str f).toList == [101, 110, 116, 114, 105, 101, 115]) = false := h_entries
                  have g_growth : ((str f).toList == [103, 114, 111, 119, 116, 104]) = true := h_growth
                  clear HNo HP
                  go_enter Try.func45, Try.ntmps45
                  go_wp2_with (first
                    | ((with_reducible refine at_store 58 (.tmp 2) (.tmp 140) rfl ?_); go_must (refine step_store rfl _ _ _ rfl w.heap.size 0 (askC ⟨8, [], [], [], numAt [p, q] 0, numAt [p, q] 1⟩ (.slice none 0 0)) _ _ rfl rfl hb0 (by simp [askC_len]) (info_askC _ _) (askC_one _) ?_); intro w8 hb8 hk8 hs8)
                    | (go_at_call 56; go_loud (refine Rets.use (HNa.out w3 _ hR7) ?_); rintro _ _ ⟨rfl, rfl⟩)
                    | (go_at_call 55; go_loud (refine Rets.use (HNu.out w2 _ hR6) ?_); rintro _ w3 ⟨hk3, rfl⟩; have hk3o := hk3; have hb0 := hk3.heap hb0 (fun h => h); have cx1 := hk3.cell cx1 (fun h => h); have hR7 := hR6.kept hk3 (fun _ _ h => h); have hk3 := hk2.trans hk3 (fun _ _ h => h); have cp := (hk3o.cell cp (fun h => h)); have cq := (hk3o.cell cq (fun h => h)))
                    | ((with_reducible refine at_ 30 rfl ?_); go_must (refine step_slice_from rfl _ _ _ rfl 9 ht_strs hi_strs (some ⟨b2, o2, none⟩) _ c2 2 .i64 (strs ([] :: f :: [p, q])) rfl rfl (by simp) hO2.rd (by simp [strs]) ?_); intro v6 hR6; have cx1 : w2.cell? ⟨b2, o2 + 1, none⟩ = some (.string (str f)) := hcell 1 _ rfl; obtain ⟨b6, o6, c6, rfl, _, _, hp6⟩ := hR6.at (by simp [strs]); have cp : w2.cell? ⟨b6, o6, none⟩ = some (.string (str p)) := hp6 0 _ rfl; have cq : w2.cell? ⟨b6, o6 + 1, none⟩ = some (.string (str q)) := hp6 1 _ rfl; clear hp6)
                    | (go_at_call 54; go_loud (refine Rets.use (HF.out _) ?_); rintro _ w2 ⟨hk2, u2, rfl, hO2⟩; obtain ⟨hb0, hk2, hs2⟩ := after1 hk2; obtain ⟨A2, c2, rfl, _⟩ := hO2.slice; first | (obtain ⟨b2, o2, c2', e2, _, hbk2, hcell⟩ := hO2.rd.at (by simp [strs]); cases e2; have cx0 : w2.cell? ⟨b2, o2, none⟩ = some (.string (str _)) := hcell 0 _ rfl) | skip))
                  rw [put_whole (by rfl)] at hb8
                  refine bodyPost_ret (ret_cell_tmp rfl (askC _ (.slice none 0 0)) _ rfl hb8 Try.underlying58 rfl (info_askC _ _)) rfl ?_
                  exact ⟨hk3.trans hk8 (fun _ hk h => by omega), by rw [HT.out] <;> rfl⟩
                | false =>
                  have HT := Lib.hid (HNo.out (by rw [HP.out, pick2 f _ rfl]; cases isN f [106, 111, 98, 115] <;> simp [h_entries, h_growth, hnm, hnu]))
                  have g_entries : ((str f).toList == [101, 110, 116, 114, 105, 101, 115]) = false := h_entries
                  have g_growth : ((str f).toList == [103, 114, 111, 119, 116, 104]) = false := h_growth
                  clear HNo HP
                  go_enter Try.func45, Try.ntmps45
                  go_wp2_with (first
                    | ((with_reducible refine at_store 58 (.tmp 2) (.tmp 141) rfl ?_); go_must (refine step_store rfl _ _ _ rfl w.heap.size 0 (askC zeroA (.slice none 0 0)) _ _ rfl rfl hb0 (by simp [askC_len]) (info_askC _ _) (askC_one _) ?_); intro w8 hb8 hk8 hs8)
                    | (go_at_call 56; go_loud (refine Rets.use (HNa.out w3 _ hR7) ?_); rintro _ _ ⟨rfl, rfl⟩)
                    | (go_at_call 55; go_loud (refine Rets.use (HNu.out w2 _ hR6) ?_); rintro _ w3 ⟨hk3, rfl⟩; have hk3o := hk3; have hb0 := hk3.heap hb0 (fun h => h); have cx1 := hk3.cell cx1 (fun h => h); have hR7 := hR6.kept hk3 (fun _ _ h => h); have hk3 := hk2.trans hk3 (fun _ _ h => h); have cp := (hk3o.cell cp (fun h => h)); have cq := (hk3o.cell cq (fun h => h)))
                    | ((with_reducible refine at_ 30 rfl ?_); go_must (refine step_slice_from rfl _ _ _ rfl 9 ht_strs hi_strs (some ⟨b2, o2, none⟩) _ c2 2 .i64 (strs ([] :: f :: [p, q])) rfl rfl (by simp) hO2.rd (by simp [strs]) ?_); intro v6 hR6; have cx1 : w2.cell? ⟨b2, o2 + 1, none⟩ = some (.string (str f)) := hcell 1 _ rfl; obtain ⟨b6, o6, c6, rfl, _, _, hp6⟩ := hR6.at (by simp [strs]); have cp : w2.cell? ⟨b6, o6, none⟩ = some (.string (str p)) := hp6 0 _ rfl; have cq : w2.cell? ⟨b6, o6 + 1, none⟩ = some (.string (str q)) := hp6 1 _ rfl; clear hp6)
                    | (go_at_call 54; go_loud (refine Rets.use (HF.out _) ?_); rintro _ w2 ⟨hk2, u2, rfl, hO2⟩; obtain ⟨hb0, hk2, hs2⟩ := after1 hk2; obtain ⟨A2, c2, rfl, _⟩ := hO2.slice; first | (obtain ⟨b2, o2, c2', e2, _, hbk2, hcell⟩ := hO2.rd.at (by simp [strs]); cases e2; have cx0 : w2.cell? ⟨b2, o2, none⟩ = some (.string (str _)) := hcell 0 _ rfl) | skip))
                  rw [put_whole (by rfl)] at hb8
                  refine bodyPost_ret (ret_cell_tmp rfl (askC _ (.slice none 0 0)) _ rfl hb8 Try.underlying58 rfl (info_askC _ _)) rfl ?_
                  exact ⟨hk3.trans hk8 (fun _ hk h => by omega), by rw [HT.out] <;> rfl⟩
            | false =>
              rw [hnu] at HNu
              simp only [Bool.false_eq_true, if_false] at HNu
              have HT := Lib.hid (HNo.out (by rw [HP.out, pick2 f _ rfl]; cases isN f [106, 111, 98, 115] <;> cases isN f [101, 110, 116, 114, 105, 101, 115] <;> cases isN f [103, 114, 111, 119, 116, 104] <;> simp [hnm, hnu]))
              clear HNo HP
              go_enter Try.func45, Try.ntmps45
              go_wp2_with (first
                | ((with_reducible refine at_store 58 (.tmp 2) (.tmp 141) rfl ?_); go_must (refine step_store rfl _ _ _ rfl w.heap.size 0 (askC zeroA (.slice none 0 0)) _ _ rfl rfl hb0 (by simp [askC_len]) (info_askC _ _) (askC_one _) ?_); intro w8 hb8 hk8 hs8)
                | (go_at_call 56; go_loud (refine Rets.use (HNa.out w3 _ hR7) ?_); rintro _ _ ⟨rfl, rfl⟩)
                | (go_at_call 55; go_loud (refine Rets.use (HNu.out w2 _ hR6) ?_); rintro _ w3 ⟨hk3, rfl⟩; have hk3o := hk3; have hb0 := hk3.heap hb0 (fun h => h); have cx1 := hk3.cell cx1 (fun h => h); have hR7 := hR6.kept hk3 (fun _ _ h => h); have hk3 := hk2.trans hk3 (fun _ _ h => h); have cp := (hk3o.cell cp (fun h => h)); have cq := (hk3o.cell cq (fun h => h)))
                | ((with_reducible refine at_ 30 rfl ?_); go_must (refine step_slice_from rfl _ _ _ rfl 9 ht_strs hi_strs (some ⟨b2, o2, none⟩) _ c2 2 .i64 (strs ([] :: f :: [p, q])) rfl rfl (by simp) hO2.rd (by simp [strs]) ?_); intro v6 hR6; have cx1 : w2.cell? ⟨b2, o2 + 1, none⟩ = some (.string (str f)) := hcell 1 _ rfl; obtain ⟨b6, o6, c6, rfl, _, _, hp6⟩ := hR6.at (by simp [strs]); have cp : w2.cell? ⟨b6, o6, none⟩ = some (.string (str p)) := hp6 0 _ rfl; have cq : w2.cell? ⟨b6, o6 + 1, none⟩ = some (.string (str q)) := hp6 1 _ rfl; clear hp6)
                | (go_at_call 54; go_loud (refine Rets.use (HF.out _) ?_); rintro _ w2 ⟨hk2, u2, rfl, hO2⟩; obtain ⟨hb0, hk2, hs2⟩ := after1 hk2; obtain ⟨A2, c2, rfl, _⟩ := hO2.slice; first | (obtain ⟨b2, o2, c2', e2, _, hbk2, hcell⟩ := hO2.rd.at (by simp [strs]); cases e2; have cx0 : w2.cell? ⟨b2, o2, none⟩ = some (.string (str _)) := hcell 0 _ rfl) | skip))
              rw [put_whole (by rfl)] at hb8
              refine bodyPost_ret (ret_cell_tmp rfl (askC _ (.slice none 0 0)) _ rfl hb8 Try.underlying58 rfl (info_askC _ _)) rfl ?_
              exact ⟨hk3.trans hk8 (fun _ hk h => by omega), by rw [HT.out] <;> rfl⟩
      · have hE := str_nil hx
        have HT := Lib.hid (HNo.out (by unfold parseT partsF; rw [hf]; cases x with | nil => exact (hx rfl).elim | cons => rfl))
        rw [hf] at HF
        clear hf HNo
        generalize str s = st at *
        go_enter Try.func45, Try.ntmps45
        go_wp2_with (first
          | ((with_reducible refine at_store 58 (.tmp 2) (.tmp 28) rfl ?_); go_must (refine step_store rfl _ _ _ rfl w.heap.size 0 (askC zeroA (.slice none 0 0)) _ _ rfl rfl hb0 (by simp [askC_len]) (info_askC _ _) (askC_one _) ?_); intro w8 hb8 hk8 hs8)
          | (go_at_call 54; go_loud (refine Rets.use (HF.out _) ?_); rintro _ w2 ⟨hk2, u2, rfl, hO2⟩; obtain ⟨hb0, hk2, hs2⟩ := after1 hk2; obtain ⟨A2, c2, rfl, _⟩ := hO2.slice; first | (obtain ⟨b2, o2, c2', e2, _, hbk2, hcell⟩ := hO2.rd.at (by simp [strs]); cases e2; have cx0 : w2.cell? ⟨b2, o2, none⟩ = some (.string (str _)) := hcell 0 _ rfl) | skip))
        have hk3 := hk2
        rw [put_whole (by rfl)] at hb8
        refine bodyPost_ret (ret_cell_tmp rfl (askC _ (.slice none 0 0)) _ rfl hb8 Try.underlying58 rfl (info_askC _ _)) rfl ?_
        exact ⟨hk3.trans hk8 (fun _ hk h => by omega), by rw [HT.out] <;> rfl⟩
end Go.Proofs.Ytomnkdjlljobeaa

