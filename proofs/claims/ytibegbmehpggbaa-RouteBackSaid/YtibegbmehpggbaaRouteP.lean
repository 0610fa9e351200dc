/-
  Targets, the program's: Parse.
-/
import Derived.Test.YtibegbmehpggbaaRouteA
import Derived.Test.YtibegbmehpggbaaClone
namespace Go.Proofs.Ytibegbmehpggbaa
open Go.RowKit Go.Canon Go.Mem
set_option linter.unusedVariables false
set_option linter.unusedSimpArgs false
def zeroA : AskP := ⟨0, [], [], [], 0, 0⟩
def partsF (s : List Int) : Option (List Int × List (List Int)) := match fieldsF 47 s 4 with
  | ([] :: f :: ps, true) => some (f, ps)
  | _ => none
def FormP.fits (g : FormP) (f : List Int) (ps : List (List Int)) : Bool := (g.first.toList == (str f).toList) && (((g.pieces : Nat) : Int) == (ps.length : Int))
def pickP (f : List Int) (ps : List (List Int)) : Option FormP := formsL.find? fun g => g.fits f ps
def parseT (s : List Int) : Option (AskP × ByteArray) := match partsF s with
  | none => none
  | some (f, ps) => match pickP f ps with
    | none => none
    | some g => if okP g.numbers ps = true then some (askP g.kind g.numbers ps, g.method) else none
def parseP (r : ReqP) : AskP × Int := match parseT r.target with
  | none => (zeroA, 404)
  | some (q, m) => if (str r.method).toList == m.toList then (if m.toList == [80, 85, 84] then ({ q with body := r.body }, 200) else (q, 200)) else (zeroA, 405)
def ParsePost (w : World) (r : AskP × Int) : Value → World → Prop := fun v w' => Keeps (fun _ => False) w w' ∧ ∃ u, v = .tuple #[askV r.1 u, .int .i64 r.2] ∧ OwnRow w' (fun k => w.heap.size ≤ k) 5 1 u r.1.body.length (Disk.bytes8 r.1.body)
theorem parse_none {r : ReqP} (h : parseT r.target = none) : parseP r = (zeroA, 404) := by unfold parseP; rw [h]
theorem ret_zero {w w' : World} {r : ReqP} {c : Int} (h : parseP r = (zeroA, c)) (hk : Keeps (fun _ => False) w w') : ParsePost w (parseP r) (.tuple #[askV zeroA (.slice none 0 0), .int .i64 c]) w' := by
  rw [h]
  exact ⟨hk, _, rfl, OwnRow.nil _ _ _ _⟩
theorem build_ask0 (w : World) : (Instr.build 66 #[]).run Try.prog w = .ok (askV zeroA (.slice none 0 0)) w := by kernel_rfl
theorem fields_cases (l : List Int) : fieldsF 47 l 4 = ([], false) ∨ ∃ x ps, fieldsF 47 l 4 = (x :: ps, true) ∧ ps.length ≤ 3 ∧ ∀ p ∈ x :: ps, p.length ≤ l.length ∧ (IsB l → IsB p) := by
  unfold fieldsF
  split
  · exact .inl rfl
  · rename_i h
    right
    cases hs : splitF 47 l with
    | nil => exact (splitF_ne 47 l hs).elim
    | cons x ps =>
      refine ⟨x, ps, rfl, by rw [hs] at h; simp at h; omega, fun p hp => ⟨split_short 47 l p (by rw [hs]; exact hp), fun hB => split_byte 47 hB p (by rw [hs]; exact hp)⟩⟩
theorem ht_strs : Try.prog.underlying 88 = some (.slice (Try.prog.elem 88)) := by kernel_rfl
theorem hi_strs : (Try.prog.info? (Try.prog.elem 88)).map (·.size) = some 1 := by kernel_rfl
theorem info_form : (Try.prog.info? 87).map (·.size) = some 5 := by kernel_rfl
theorem forms_at {k : Nat} (h : k < formsL.length) : ((formsL.flatMap FormP.cells).drop (k * 5)).take 5 = formsL[k].cells := by
  have : ∀ k : Fin 10, ((formsL.flatMap FormP.cells).drop (k.val * 5)).take 5 = (formsL[k.val]'(k.isLt)).cells := fun k => by
    match k with
    | ⟨0, _⟩ | ⟨1, _⟩ | ⟨2, _⟩ | ⟨3, _⟩ | ⟨4, _⟩ | ⟨5, _⟩ | ⟨6, _⟩ | ⟨7, _⟩ | ⟨8, _⟩ | ⟨9, _⟩ => rfl
  exact this ⟨k, h⟩
theorem forms_take {k : Nat} (h : k < formsL.length) : formsL.take (k + 1) = formsL.take k ++ [formsL[k]] := by
  rw [List.take_add_one, List.getElem?_eq_getElem h]; rfl
theorem forms_pick {k : Nat} {f : List Int} {ps : List (List Int)} (h : k < formsL.length) (hn : ∀ g ∈ formsL.take k, FormP.fits g f ps = false) (hf : FormP.fits formsL[k] f ps = true) : pickP f ps = some formsL[k] := by
  unfold pickP
  conv => lhs; rw [← List.take_append_drop k formsL]
  rw [List.find?_append, List.find?_eq_none.2 (fun g hg => by rw [hn g hg]; simp), List.drop_eq_getElem_cons h, List.find?_cons, hf]
  rfl
theorem forms_none {f : List Int} {ps : List (List Int)} (hn : ∀ g ∈ formsL.take 10, FormP.fits g f ps = false) : pickP f ps = none := List.find?_eq_none.2 (fun g hg => by rw [hn g hg]; simp)
set_option maxHeartbeats 3200000 in
set_option maxRecDepth 100000 in
theorem parse23_c {w : World} {ok : Nat → Prop} (r : ReqP) (hr : r.Ok) (hl : r.target.length ≤ 1000000) (hl2 : r.body.length ≤ 1000000) (v : Value) (h1 : Rd w ok v r.body.length (Disk.bytes8 r.body)) : Calls Try.prog 32 #[reqV r v] w (Rets (ParsePost w (parseP r))) := by
  obtain ⟨A, c, rfl, _⟩ := h1.slice
  have HR := Lib.hid h1.lt
  have HF := Lib.hid (fun w => fields_c r.target hr.target hl 47 4 w)
  have HB := Lib.hid hr
  have HZ := Lib.hid (fun c h w' => ret_zero (w := w) (w' := w') (r := r) (c := c) h)
  have HNo := Lib.hid (parse_none (r := r))
  clear h1 hr
  unfold reqV
  rcases fields_cases r.target with hf | ⟨x, ps, hf, hp3, hps⟩
  · have HT := Lib.hid (HNo.out (by unfold parseT partsF; rw [hf]))
    rw [hf] at HF
    clear hf HNo
    generalize str r.target = st at *
    go_enter Try.func32, Try.ntmps32
    go_wp2_with (first
      | ((with_reducible refine at_store 66 (.tmp 2) (.tmp 29) rfl ?_); go_must (refine step_store rfl _ _ _ rfl (w.heap.size + 1) 0 (askC zeroA (.slice none 0 0)) _ _ rfl rfl hb1 (by simp [askC_len]) (info_askC _ _) (askC_one _) ?_); intro w8 hb8 hk8 hs8)
      | (go_at_call 45; go_loud (refine Rets.use (HF.out _) ?_); rintro _ w2 ⟨hk2, u2, rfl, hO2⟩; obtain ⟨hb0, hb1, hk2, hs2⟩ := after2 hk2; obtain ⟨A2, c2, rfl, _⟩ := hO2.slice; first | (obtain ⟨b2, o2, c2', e2, _, hbk2, hcell⟩ := hO2.rd.at (by simp [strs]); cases e2; have cx0 : w2.cell? ⟨b2, o2, none⟩ = some (.string (str _)) := hcell 0 _ rfl) | skip))
    rw [put_whole (by rfl)] at hb8
    refine bodyPost_ret (ret_cell_tmp rfl (askC zeroA (.slice none 0 0)) _ rfl hb8 Try.underlying66 rfl (info_askC _ _)) rfl ?_
    exact HZ.out _ HT.out _ (hk2.trans hk8 (fun _ hk h => by omega))
  · cases ps with
    | nil =>
      have HT := Lib.hid (HNo.out (by unfold parseT partsF; rw [hf]; cases x <;> rfl))
      rw [hf] at HF
      clear hf HNo
      generalize str r.target = st at *
      go_enter Try.func32, Try.ntmps32
      go_wp2_with (first
        | ((with_reducible refine at_store 66 (.tmp 2) (.tmp 29) rfl ?_); go_must (refine step_store rfl _ _ _ rfl (w.heap.size + 1) 0 (askC zeroA (.slice none 0 0)) _ _ rfl rfl hb1 (by simp [askC_len]) (info_askC _ _) (askC_one _) ?_); intro w8 hb8 hk8 hs8)
        | (go_at_call 45; go_loud (refine Rets.use (HF.out _) ?_); rintro _ w2 ⟨hk2, u2, rfl, hO2⟩; obtain ⟨hb0, hb1, hk2, hs2⟩ := after2 hk2; obtain ⟨A2, c2, rfl, _⟩ := hO2.slice; first | (obtain ⟨b2, o2, c2', e2, _, hbk2, hcell⟩ := hO2.rd.at (by simp [strs]); cases e2; have cx0 : w2.cell? ⟨b2, o2, none⟩ = some (.string (str _)) := hcell 0 _ rfl) | skip))
      rw [put_whole (by rfl)] at hb8
      refine bodyPost_ret (ret_cell_tmp rfl (askC zeroA (.slice none 0 0)) _ rfl hb8 Try.underlying66 rfl (info_askC _ _)) rfl ?_
      exact HZ.out _ HT.out _ (hk2.trans hk8 (fun _ hk h => by omega))
    | cons f qs =>
      by_cases hx : x = []
      · subst hx
        have hE : ((str []).toList == []) = true := by rw [ByteArray.toList_eq]; rfl
        have HP := Lib.hid (show partsF r.target = some (f, qs) by unfold partsF; rw [hf])
        rw [hf] at HF
        clear hf
        generalize str r.target = st at *
        go_enter Try.func32, Try.ntmps32
        go_wp2_with (first
          | (go_at_call 43; go_loud (refine Rets.use (forms_c _) ?_); rintro _ w3 ⟨rfl, hbF, hk3⟩)
          | (go_at_call 45; go_loud (refine Rets.use (HF.out _) ?_); rintro _ w2 ⟨hk2, u2, rfl, hO2⟩; obtain ⟨hb0, hb1, hk2, hs2⟩ := after2 hk2; obtain ⟨A2, c2, rfl, _⟩ := hO2.slice; first | (obtain ⟨b2, o2, c2', e2, _, hbk2, hcell⟩ := hO2.rd.at (by simp [strs]); cases e2; have cx0 : w2.cell? ⟨b2, o2, none⟩ = some (.string (str _)) := hcell 0 _ rfl) | skip))
        have cx1 : w2.cell? ⟨b2, o2 + 1, none⟩ = some (.string (str f)) := hcell 1 _ rfl
        have HQ := Lib.hid hO2.rd
        have H0 := Lib.hid (hk3.heap hb0 (fun h => h))
        have H1 := Lib.hid (hk3.heap hb1 (fun h => h))
        have HF3 := Lib.hid hbF
        have HK3 := Lib.hid (hk2.trans hk3 (fun _ _ h => h))
        have cx1 := hk3.cell cx1 (fun h => h)
        have hs3 := hk3.size
        have HBq := Lib.hid (show ∀ p ∈ qs, IsB p ∧ p.length ≤ 1000000 from fun p hp => ⟨(hps p (by simp [hp])).2 HB.out.target, by have := (hps p (by simp [hp])).1; omega⟩)
        have hcc : qs.length + 1 + 1 ≤ c2 := by obtain ⟨_, _, e, h, _⟩ := hO2.slice; cases e; exact h
        clear hcell hO2 hb0 hb1 hbF hk2 hps cx0 HF
        go_loopw [7, 8, 9, 32] (fun q1 q2 q3 i wr => ∃ k : Nat, k ≤ 10 ∧ i = .int .i64 k ∧ Hid (∀ g ∈ formsL.take k, FormP.fits g f qs = false) ∧ Keeps (fun _ => False) w3 wr) (fun _ _ _ i _ => 10 - (intOf i).toNat)
        case atStart => exact ⟨0, Nat.zero_le _, rfl, Lib.hid (by simp), Keeps.refl _ _⟩
        case round =>
          obtain ⟨k, hk, rfl, HN, hkr⟩ := hrel
          have HKr := Lib.hid hkr
          have hszr := hkr.size
          have cx1 := hkr.cell cx1 (fun h => h)
          clear hkr
          by_cases hlt : k < 10
          · have hlt2 : k < formsL.length := hlt
            have HG := Lib.hid (forms_at hlt2)
            have HGn := Lib.hid (forms_take hlt2)
            have HGm := Lib.hid (forms_pick (f := f) (ps := qs) hlt2 HN.out)
            generalize formsL[k] = g at *
            obtain ⟨gf, gp, gn, gm, gk⟩ := g
            unfold FormP.fits at HGm
            simp only at HGm
            go_wp2_with ((with_reducible refine at_ 35 rfl ?_); go_must (refine step_load rfl _ _ rfl w2.heap.size (k * 5) [.string gf, .int .i64 gp, .bool gn, .string gm, .int .i64 gk] _ _ (0, 0) _ rfl (HKr.out.heap HF3.out (fun h => h)) HG.out Try.underlying87 rfl info_form ?_))
            refine name_ fun w4 hw4 => ?_
            obtain ⟨hb4, hk4, hs4⟩ := alloc1 hw4
            clear hw4
            refine Canon.row [0, 2, 3, 1, 4, 5, 6, 7, 9, 10, 11, 8, 12, 13] (by kernel_rfl) (by kernel_rfl) (by repeat (first | (with_reducible exact Safe.body) | (with_reducible apply Safe.then) | (with_reducible apply Safe.inBlock) | (dsimp +zetaDelta only))) ?_
            simp only [Canon.pick, Canon.wpPlan, List.getElem?_toArray, List.getElem?_cons_zero, List.getElem?_cons_succ]
            have KD : Keeps (fun _ => False) w4 w4.drew := (Keeps.refl _ w4).drew
            have hsd : w4.drew.heap.size = w4.heap.size := rfl
            have cx1 := KD.cell (hk4.cell cx1 (fun h => h)) (fun h => h)
            have H4 := Lib.hid (KD.heap hb4 (fun h => h))
            have HKr := Lib.hid ((HKr.out.trans hk4 (fun _ _ h => h)).trans KD (fun _ _ h => h))
            clear KD hsd hb4 hk4 hs4
            generalize w4.drew = w5 at *
            have f0 : w5.cell? ⟨wr.heap.size, 0, none⟩ = some (.string gf) := (cell_of_row w5 _ 0 _ _ _ H4.out).trans rfl
            have f1 : w5.cell? ⟨wr.heap.size, 1, none⟩ = some (.int .i64 gp) := (cell_of_row w5 _ 1 _ _ _ H4.out).trans rfl
            have hq2 : qs.length ≤ 2 := by simpa using hp3
            have hl3 : (qs.length : Int) + 1 + 1 - 2 = qs.length := by omega
            cases hff : gf.toList == (str f).toList with
            | false =>
              rw [hff] at HGm
              go_wp2
              refine ⟨by rfl, trivial, ?_⟩
              go_wp2
              go_roundw
              case rel => exact ⟨k + 1, by omega, by go_num, Lib.hid (by rw [HGn.out]; intro g hg; rcases List.mem_append.1 hg with hg | hg; exact HN.out g hg; rw [List.mem_singleton] at hg; subst hg; unfold FormP.fits; simp only [hff]; rfl), HKr.out⟩
              case measure => simp [intOf]; omega
            | true =>
              cases hpp : ((gp : Nat) : Int) == (qs.length : Int) with
              | false =>
                have hpn : (((gp : Nat) : Int) != (qs.length : Int)) = true := by simpa using hpp
                go_wp2
                refine ⟨by rfl, trivial, ?_⟩
                go_wp2
                go_roundw
                case rel => exact ⟨k + 1, by omega, by go_num, Lib.hid (by rw [HGn.out]; intro g hg; rcases List.mem_append.1 hg with hg | hg; exact HN.out g hg; rw [List.mem_singleton] at hg; subst hg; unfold FormP.fits; simp only [hff, hpp]; rfl), HKr.out⟩
                case measure => simp [intOf]; omega
              | true =>
                have hpn : (((gp : Nat) : Int) != (qs.length : Int)) = false := by simpa using hpp
                have HGp := Lib.hid (HGm.out (by rw [hff, hpp]; rfl))
                go_wp2
                refine ⟨by rfl, trivial, ?_⟩
                go_wp2
                refine Canon.region [0, 3, 7] [] [] (.seg [1, 2] (.fork 0 (.fork 3 (.seg [4, 5, 6] (.loud 7 (.seg [8, 9] .stop))) 7 (.loud 3 (.seg [4, 5, 6, 8, 9] .stop))) 7 (.loud 0 (.loud 3 (.seg [4, 5, 6, 8, 9] .stop))))) (by kernel_rfl) (by kernel_rfl) (by repeat (first | (with_reducible exact Safe.body) | (with_reducible apply Safe.then) | (with_reducible apply Safe.inBlock) | (dsimp +zetaDelta only))) ?_
                simp only [Canon.pick, Canon.wpPlan, List.getElem?_toArray, List.getElem?_cons_zero, List.getElem?_cons_succ]
                have KD : Keeps (fun _ => False) w5 w5.drew := (Keeps.refl _ w5).drew
                have H4 := Lib.hid (KD.heap H4.out (fun h => h))
                have HKr := Lib.hid (HKr.out.trans KD (fun _ _ h => h))
                have H46 := H4
                have HQ5 := Lib.hid ((HQ.out.kept hk3 (fun _ _ h => h)).kept HKr.out (fun _ _ h => h))
                clear KD f0 f1 cx1 HGm
                generalize w5.drew = w6 at *
                go_wp2_with ((with_reducible refine at_ 53 rfl ?_); go_must (refine step_slice_from rfl _ _ _ rfl 9 ht_strs hi_strs (some ⟨b2, o2, none⟩) _ c2 2 .i64 (strs ([] :: f :: qs)) rfl rfl (by omega) HQ5.out (by simp [strs]) ?_); intro v6 hR6)
                refine ⟨?_, ?_⟩
                · go_wp2_with ((with_reducible refine at_ 51 rfl ?_); go_must (refine step_load rfl _ _ rfl wr.heap.size 0 (FormP.cells ⟨gf, gp, gn, gm, gk⟩) _ _ (0, 0) _ rfl H4.out rfl Try.underlying87 rfl info_form ?_))
                  refine ⟨fun p hp => (by cases hp), ?_⟩
                  refine ⟨?_, ?_⟩
                  · go_wp2_with (go_at_call 46; go_loud (refine Rets.use (ask23_c (w := w6) ⟨gf, gp, gn, gm, gk⟩ qs HBq.out hq2 v6 (hR6)) ?_); rintro _ w7 ⟨hk7, q7, rfl, hq7⟩)
                    refine ⟨fun p hp => (by cases hp), ?_⟩
                    go_wp2_with ((with_reducible refine at_ 8 rfl ?_); go_must (refine step_alloc rfl _ rfl _ (askC zeroA (.slice none 0 0)) row_ask rfl ?_); intro w8 hb8 hk8 hs8)
                    refine ⟨fun p hp => (by cases hp), ?_⟩
                    have K68 := hk7.trans hk8 (fun _ _ h => h)
                    have hba : w6.heap.size ≤ w7.heap.size ∧ w7.heap.size < w8.heap.size := ⟨hk7.size, by omega⟩
                    generalize w7.heap.size = ba at *
                    go_wp2_with ((with_reducible refine at_store 66 (.tmp 8) (.tmp 55) rfl ?_); go_must (refine step_store rfl _ _ _ rfl ba 0 (askC q7 (.slice none 0 0)) _ _ rfl rfl hb8 (by simp [askC_len]) (info_askC _ _) (askC_one _) ?_); intro w9 hb9 hk9 hs9)
                    refine ⟨by rfl, trivial, ?_⟩
                    rw [put_whole (by rfl)] at hb9
                    have K69 := K68.trans hk9 (fun k hk h => by omega)
                    have hKz := HKr.out.trans K69 (fun _ _ h => h)
                    have H0z := Lib.hid (hKz.heap H0.out (fun h => h))
                    have hb1 := hKz.heap H1.out (fun h => h)
                    have H4z := Lib.hid (K69.heap H4.out (fun h => h))
                    have hk2 := HK3.out.trans hKz (fun _ _ h => h)
                    have c0 : w9.cell? ⟨w.heap.size, 0, none⟩ = some (.string (str r.method)) := (cell_of_row w9 _ 0 _ _ _ H0z.out).trans rfl
                    have c3 : w9.cell? ⟨w.heap.size, 3, none⟩ = some (.slice A r.body.length c) := (cell_of_row w9 _ 3 _ _ _ H0z.out).trans rfl
                    have m3 : w9.cell? ⟨wr.heap.size, 3, none⟩ = some (.string gm) := (cell_of_row w9 _ 3 _ _ _ H4z.out).trans rfl
                    have hw2 : w.heap.size + 1 < ba := by have := HKr.out.size; have := hba.1; omega
                    clear hk7 hk8 K68 hk9 hb8 K69 hKz hR6 H4z H0z
                    cases hok : okP gn qs with
                    | false =>
                      have HT := Lib.hid (HNo.out (by unfold parseT; rw [HP.out]; simp only; rw [HGp.out]; simp [hok]))
                      clear HNo HN hq7
                      go_wp2_with (first
                        | ((with_reducible refine at_store 66 (.tmp 2) (.tmp 59) rfl ?_); go_must (refine step_store rfl _ _ _ rfl (w.heap.size + 1) 0 (askC zeroA (.slice none 0 0)) _ _ rfl rfl hb1 (by simp [askC_len]) (info_askC _ _) (askC_one _) ?_); intro w8 hb8 hk8 hs8))
                      rw [put_whole (by rfl)] at hb8
                      refine bodyPost_ret (ret_cell_tmp rfl (askC zeroA (.slice none 0 0)) _ rfl hb8 Try.underlying66 rfl (info_askC _ _)) rfl ?_
                      exact HZ.out _ HT.out _ (hk2.trans hk8 (fun _ hk h => by omega))
                    | true =>
                      obtain rfl := hq7 hok
                      have HPT := Lib.hid (show parseT r.target = some (askP gk gn qs, gm) by unfold parseT; rw [HP.out]; simp only; rw [HGp.out]; simp [hok])
                      clear HNo HN hq7
                      generalize hqa : askP gk gn qs = qa at *
                      have hqb : qa.body = [] := by rw [← hqa]; unfold askP; split <;> rfl
                      clear hqa
                      cases hm : (str r.method).toList == gm.toList with
                      | false =>
                        have HT := Lib.hid (show parseP r = (zeroA, 405) by unfold parseP; rw [HPT.out]; simp [hm])
                        clear HPT
                        go_wp2_with (first
                          | ((with_reducible refine at_store 66 (.tmp 2) (.tmp 65) rfl ?_); go_must (refine step_store rfl _ _ _ rfl (w.heap.size + 1) 0 (askC zeroA (.slice none 0 0)) _ _ rfl rfl hb1 (by simp [askC_len]) (info_askC _ _) (askC_one _) ?_); intro w8 hb8 hk8 hs8))
                        rw [put_whole (by rfl)] at hb8
                        refine bodyPost_ret (ret_cell_tmp rfl (askC zeroA (.slice none 0 0)) _ rfl hb8 Try.underlying66 rfl (info_askC _ _)) rfl ?_
                        exact HZ.out _ HT.out _ (hk2.trans hk8 (fun _ hk h => by omega))
                      | true =>
                        cases hput : gm.toList == [80, 85, 84] with
                        | false =>
                          have HT := Lib.hid (show parseP r = (qa, 200) by unfold parseP; rw [HPT.out]; simp only [hm, hput]; rfl)
                          clear HPT
                          go_wp2_with (first
                            | ((with_reducible refine at_ 73 rfl ?_); go_must (refine step_load rfl _ _ rfl ba 0 (askC qa (.slice none 0 0)) _ _ (0, 0) _ rfl hb9 rfl Try.underlying66 rfl (info_askC _ _) ?_))
                            | ((with_reducible refine at_store 66 (.tmp 2) (.tmp 73) rfl ?_); go_must (refine step_store rfl _ _ _ rfl (w.heap.size + 1) 0 (askC qa (.slice none 0 0)) _ _ rfl rfl hb1 (by simp [askC_len]) (info_askC _ _) (askC_one _) ?_); intro w10 hb10 hk10 hs10))
                          rw [put_whole (by rfl)] at hb10
                          refine bodyPost_ret (ret_cell_tmp rfl (askC qa (.slice none 0 0)) _ rfl hb10 Try.underlying66 rfl (info_askC _ _)) rfl ?_
                          rw [HT.out]
                          exact ⟨hk2.trans hk10 (fun _ hk h => by omega), _, rfl, by rw [hqb]; exact OwnRow.nil _ _ _ _⟩
                        | true =>
                          have HT := Lib.hid (show parseP r = ({ qa with body := r.body }, 200) by unfold parseP; rw [HPT.out]; simp only [hm, hput]; rfl)
                          have HRb := Lib.hid (HR.out.kept hk2 (fun _ _ h => h))
                          clear HPT
                          go_wp2_with (first
                            | ((with_reducible refine at_ 73 rfl ?_); go_must (refine step_load rfl _ _ rfl ba 0 (askC qa (.slice Ab r.body.length cb)) _ _ (0, 0) _ rfl hb11 rfl Try.underlying66 rfl (info_askC _ _) ?_))
                            | ((with_reducible refine at_store 66 (.tmp 2) (.tmp 73) rfl ?_); go_must (refine step_store rfl _ _ _ rfl (w.heap.size + 1) 0 (askC qa (.slice Ab r.body.length cb)) _ _ rfl rfl hb1b (by simp [askC_len]) (info_askC _ _) (by simp [askC, Value.oneCell']) ?_); intro w12 hb12 hk12 hs12)
                            | ((with_reducible refine at_store 22 (.tmp 72) (.tmp 71) rfl ?_); go_must (refine step_store1 rfl _ _ _ rfl ba 3 (.slice Ab r.body.length cb) _ _ rfl rfl rfl hb10 (by simp [askC_len]) info_bytesR ?_); intro w11 hb11 hk11 hs11; have hb1b := hk11.heap (hk10.heap hb1 (fun h => h)) (fun h => by omega))
                            | (go_at_call 44; go_loud (refine Rets.use (clone_c _ r.body HRb.out (by omega)) ?_); rintro v10 w10 ⟨hO10, hk10⟩; obtain ⟨Ab, cb, rfl, _⟩ := hO10.slice; have hb10 := hk10.heap hb9 (fun h => h)))
                          rw [put_whole (by rfl)] at hb12
                          refine bodyPost_ret (ret_cell_tmp rfl (askC qa (.slice Ab r.body.length cb)) _ rfl hb12 Try.underlying66 rfl (info_askC _ _)) rfl ?_
                          rw [HT.out]
                          have z2 := hk2.size
                          refine ⟨((hk2.trans hk10 (fun _ _ h => h)).trans hk11 (fun _ hk h => by omega)).trans hk12 (fun _ hk h => by omega), _, rfl, ?_⟩
                          exact ((hO10.kept hk11 (fun k h h' => by omega)).kept hk12 (fun k h h' => by omega)).mono (fun k hk h => by omega)
                  · go_wp2_with ((with_reducible refine at_ 8 rfl ?_); go_must (refine step_alloc rfl _ rfl _ (askC zeroA (.slice none 0 0)) row_ask rfl ?_); intro w7 hb8 hk7 hs7)
                    refine ⟨fun p hp => (by cases hp), ?_⟩
                    have hR7 := hR6.kept hk7 (fun _ _ h => h)
                    go_wp2_with (go_at_call 46; go_loud (refine Rets.use (ask23_c (w := w7) ⟨gf, gp, gn, gm, gk⟩ qs HBq.out hq2 v6 (hR7)) ?_); rintro _ w8 ⟨hk8, q7, rfl, hq7⟩)
                    refine ⟨fun p hp => (by cases hp), ?_⟩
                    have hb8 := hk8.heap hb8 (fun h => h)
                    have K68 := hk7.trans hk8 (fun _ _ h => h)
                    have hba : w6.heap.size ≤ w6.heap.size ∧ w6.heap.size < w8.heap.size := ⟨Nat.le_refl _, by have := hk8.size; omega⟩
                    generalize hbb : w6.heap.size = ba at hb8 hba ⊢
                    go_wp2_with ((with_reducible refine at_store 66 (.tmp 8) (.tmp 55) rfl ?_); go_must (refine step_store rfl _ _ _ rfl ba 0 (askC q7 (.slice none 0 0)) _ _ rfl rfl hb8 (by simp [askC_len]) (info_askC _ _) (askC_one _) ?_); intro w9 hb9 hk9 hs9)
                    refine ⟨by rfl, trivial, ?_⟩
                    rw [put_whole (by rfl)] at hb9
                    have K69 := K68.trans hk9 (fun k hk h => by omega)
                    have hKz := HKr.out.trans K69 (fun _ _ h => h)
                    have H0z := Lib.hid (hKz.heap H0.out (fun h => h))
                    have hb1 := hKz.heap H1.out (fun h => h)
                    have H4z := Lib.hid (K69.heap H4.out (fun h => h))
                    have hk2 := HK3.out.trans hKz (fun _ _ h => h)
                    have c0 : w9.cell? ⟨w.heap.size, 0, none⟩ = some (.string (str r.method)) := (cell_of_row w9 _ 0 _ _ _ H0z.out).trans rfl
                    have c3 : w9.cell? ⟨w.heap.size, 3, none⟩ = some (.slice A r.body.length c) := (cell_of_row w9 _ 3 _ _ _ H0z.out).trans rfl
                    have m3 : w9.cell? ⟨wr.heap.size, 3, none⟩ = some (.string gm) := (cell_of_row w9 _ 3 _ _ _ H4z.out).trans rfl
                    have hw2 : w.heap.size + 1 < ba := by have := HKr.out.size; have := hba.1; omega
                    clear hk7 hk8 K68 hk9 hb8 K69 hKz hR6 H4z H0z
                    cases hok : okP gn qs with
                    | false =>
                      have HT := Lib.hid (HNo.out (by unfold parseT; rw [HP.out]; simp only; rw [HGp.out]; simp [hok]))
                      clear HNo HN hq7
                      go_wp2_with (first
                        | ((with_reducible refine at_store 66 (.tmp 2) (.tmp 59) rfl ?_); go_must (refine step_store rfl _ _ _ rfl (w.heap.size + 1) 0 (askC zeroA (.slice none 0 0)) _ _ rfl rfl hb1 (by simp [askC_len]) (info_askC _ _) (askC_one _) ?_); intro w8 hb8 hk8 hs8))
                      rw [put_whole (by rfl)] at hb8
                      refine bodyPost_ret (ret_cell_tmp rfl (askC zeroA (.slice none 0 0)) _ rfl hb8 Try.underlying66 rfl (info_askC _ _)) rfl ?_
                      exact HZ.out _ HT.out _ (hk2.trans hk8 (fun _ hk h => by omega))
                    | true =>
                      obtain rfl := hq7 hok
                      have HPT := Lib.hid (show parseT r.target = some (askP gk gn qs, gm) by unfold parseT; rw [HP.out]; simp only; rw [HGp.out]; simp [hok])
                      clear HNo HN hq7
                      generalize hqa : askP gk gn qs = qa at *
                      have hqb : qa.body = [] := by rw [← hqa]; unfold askP; split <;> rfl
                      clear hqa
                      cases hm : (str r.method).toList == gm.toList with
                      | false =>
                        have HT := Lib.hid (show parseP r = (zeroA, 405) by unfold parseP; rw [HPT.out]; simp [hm])
                        clear HPT
                        go_wp2_with (first
                          | ((with_reducible refine at_store 66 (.tmp 2) (.tmp 65) rfl ?_); go_must (refine step_store rfl _ _ _ rfl (w.heap.size + 1) 0 (askC zeroA (.slice none 0 0)) _ _ rfl rfl hb1 (by simp [askC_len]) (info_askC _ _) (askC_one _) ?_); intro w8 hb8 hk8 hs8))
                        rw [put_whole (by rfl)] at hb8
                        refine bodyPost_ret (ret_cell_tmp rfl (askC zeroA (.slice none 0 0)) _ rfl hb8 Try.underlying66 rfl (info_askC _ _)) rfl ?_
                        exact HZ.out _ HT.out _ (hk2.trans hk8 (fun _ hk h => by omega))
                      | true =>
                        cases hput : gm.toList == [80, 85, 84] with
                        | false =>
                          have HT := Lib.hid (show parseP r = (qa, 200) by unfold parseP; rw [HPT.out]; simp only [hm, hput]; rfl)
                          clear HPT
                          go_wp2_with (first
                            | ((with_reducible refine at_ 73 rfl ?_); go_must (refine step_load rfl _ _ rfl ba 0 (askC qa (.slice none 0 0)) _ _ (0, 0) _ rfl hb9 rfl Try.underlying66 rfl (info_askC _ _) ?_))
                            | ((with_reducible refine at_store 66 (.tmp 2) (.tmp 73) rfl ?_); go_must (refine step_store rfl _ _ _ rfl (w.heap.size + 1) 0 (askC qa (.slice none 0 0)) _ _ rfl rfl hb1 (by simp [askC_len]) (info_askC _ _) (askC_one _) ?_); intro w10 hb10 hk10 hs10))
                          rw [put_whole (by rfl)] at hb10
                          refine bodyPost_ret (ret_cell_tmp rfl (askC qa (.slice none 0 0)) _ rfl hb10 Try.underlying66 rfl (info_askC _ _)) rfl ?_
                          rw [HT.out]
                          exact ⟨hk2.trans hk10 (fun _ hk h => by omega), _, rfl, by rw [hqb]; exact OwnRow.nil _ _ _ _⟩
                        | true =>
                          have HT := Lib.hid (show parseP r = ({ qa with body := r.body }, 200) by unfold parseP; rw [HPT.out]; simp only [hm, hput]; rfl)
                          have HRb := Lib.hid (HR.out.kept hk2 (fun _ _ h => h))
                          clear HPT
                          go_wp2_with (first
                            | ((with_reducible refine at_ 73 rfl ?_); go_must (refine step_load rfl _ _ rfl ba 0 (askC qa (.slice Ab r.body.length cb)) _ _ (0, 0) _ rfl hb11 rfl Try.underlying66 rfl (info_askC _ _) ?_))
                            | ((with_reducible refine at_store 66 (.tmp 2) (.tmp 73) rfl ?_); go_must (refine step_store rfl _ _ _ rfl (w.heap.size + 1) 0 (askC qa (.slice Ab r.body.length cb)) _ _ rfl rfl hb1b (by simp [askC_len]) (info_askC _ _) (by simp [askC, Value.oneCell']) ?_); intro w12 hb12 hk12 hs12)
                            | ((with_reducible refine at_store 22 (.tmp 72) (.tmp 71) rfl ?_); go_must (refine step_store1 rfl _ _ _ rfl ba 3 (.slice Ab r.body.length cb) _ _ rfl rfl rfl hb10 (by simp [askC_len]) info_bytesR ?_); intro w11 hb11 hk11 hs11; have hb1b := hk11.heap (hk10.heap hb1 (fun h => h)) (fun h => by omega))
                            | (go_at_call 44; go_loud (refine Rets.use (clone_c _ r.body HRb.out (by omega)) ?_); rintro v10 w10 ⟨hO10, hk10⟩; obtain ⟨Ab, cb, rfl, _⟩ := hO10.slice; have hb10 := hk10.heap hb9 (fun h => h)))
                          rw [put_whole (by rfl)] at hb12
                          refine bodyPost_ret (ret_cell_tmp rfl (askC qa (.slice Ab r.body.length cb)) _ rfl hb12 Try.underlying66 rfl (info_askC _ _)) rfl ?_
                          rw [HT.out]
                          have z2 := hk2.size
                          refine ⟨((hk2.trans hk10 (fun _ _ h => h)).trans hk11 (fun _ hk h => by omega)).trans hk12 (fun _ hk h => by omega), _, rfl, ?_⟩
                          exact ((hO10.kept hk11 (fun k h h' => by omega)).kept hk12 (fun k h h' => by omega)).mono (fun k hk h => by omega)
                · go_wp2_with ((with_reducible refine at_ 8 rfl ?_); go_must (refine step_alloc rfl _ rfl _ (askC zeroA (.slice none 0 0)) row_ask rfl ?_); intro w7 hb8 hk7 hs7)
                  refine ⟨fun p hp => (by cases hp), ?_⟩
                  have H4 := Lib.hid (hk7.heap H4.out (fun h => h))
                  go_wp2_with ((with_reducible refine at_ 51 rfl ?_); go_must (refine step_load rfl _ _ rfl wr.heap.size 0 (FormP.cells ⟨gf, gp, gn, gm, gk⟩) _ _ (0, 0) _ rfl H4.out rfl Try.underlying87 rfl info_form ?_))
                  refine ⟨fun p hp => (by cases hp), ?_⟩
                  have hR7 := hR6.kept hk7 (fun _ _ h => h)
                  go_wp2_with (go_at_call 46; go_loud (refine Rets.use (ask23_c (w := w7) ⟨gf, gp, gn, gm, gk⟩ qs HBq.out hq2 v6 (hR7)) ?_); rintro _ w8 ⟨hk8, q7, rfl, hq7⟩)
                  refine ⟨fun p hp => (by cases hp), ?_⟩
                  have H4 := H46
                  have hb8 := hk8.heap hb8 (fun h => h)
                  have K68 := hk7.trans hk8 (fun _ _ h => h)
                  have hba : w6.heap.size ≤ w6.heap.size ∧ w6.heap.size < w8.heap.size := ⟨Nat.le_refl _, by have := hk8.size; omega⟩
                  generalize hbb : w6.heap.size = ba at hb8 hba ⊢
                  go_wp2_with ((with_reducible refine at_store 66 (.tmp 8) (.tmp 55) rfl ?_); go_must (refine step_store rfl _ _ _ rfl ba 0 (askC q7 (.slice none 0 0)) _ _ rfl rfl hb8 (by simp [askC_len]) (info_askC _ _) (askC_one _) ?_); intro w9 hb9 hk9 hs9)
                  refine ⟨by rfl, trivial, ?_⟩
                  rw [put_whole (by rfl)] at hb9
                  have K69 := K68.trans hk9 (fun k hk h => by omega)
                  have hKz := HKr.out.trans K69 (fun _ _ h => h)
                  have H0z := Lib.hid (hKz.heap H0.out (fun h => h))
                  have hb1 := hKz.heap H1.out (fun h => h)
                  have H4z := Lib.hid (K69.heap H4.out (fun h => h))
                  have hk2 := HK3.out.trans hKz (fun _ _ h => h)
                  have c0 : w9.cell? ⟨w.heap.size, 0, none⟩ = some (.string (str r.method)) := (cell_of_row w9 _ 0 _ _ _ H0z.out).trans rfl
                  have c3 : w9.cell? ⟨w.heap.size, 3, none⟩ = some (.slice A r.body.length c) := (cell_of_row w9 _ 3 _ _ _ H0z.out).trans rfl
                  have m3 : w9.cell? ⟨wr.heap.size, 3, none⟩ = some (.string gm) := (cell_of_row w9 _ 3 _ _ _ H4z.out).trans rfl
                  have hw2 : w.heap.size + 1 < ba := by have := HKr.out.size; have := hba.1; omega
                  clear hk7 hk8 K68 hk9 hb8 K69 hKz hR6 H4z H0z
                  cases hok : okP gn qs with
                  | false =>
                    have HT := Lib.hid (HNo.out (by unfold parseT; rw [HP.out]; simp only; rw [HGp.out]; simp [hok]))
                    clear HNo HN hq7
                    go_wp2_with (first
                      | ((with_reducible refine at_store 66 (.tmp 2) (.tmp 59) rfl ?_); go_must (refine step_store rfl _ _ _ rfl (w.heap.size + 1) 0 (askC zeroA (.slice none 0 0)) _ _ rfl rfl hb1 (by simp [askC_len]) (info_askC _ _) (askC_one _) ?_); intro w8 hb8 hk8 hs8))
                    rw [put_whole (by rfl)] at hb8
                    refine bodyPost_ret (ret_cell_tmp rfl (askC zeroA (.slice none 0 0)) _ rfl hb8 Try.underlying66 rfl (info_askC _ _)) rfl ?_
                    exact HZ.out _ HT.out _ (hk2.trans hk8 (fun _ hk h => by omega))
                  | true =>
                    obtain rfl := hq7 hok
                    have HPT := Lib.hid (show parseT r.target = some (askP gk gn qs, gm) by unfold parseT; rw [HP.out]; simp only; rw [HGp.out]; simp [hok])
                    clear HNo HN hq7
                    generalize hqa : askP gk gn qs = qa at *
                    have hqb : qa.body = [] := by rw [← hqa]; unfold askP; split <;> rfl
                    clear hqa
                    cases hm : (str r.method).toList == gm.toList with
                    | false =>
                      have HT := Lib.hid (show parseP r = (zeroA, 405) by unfold parseP; rw [HPT.out]; simp [hm])
                      clear HPT
                      go_wp2_with (first
                        | ((with_reducible refine at_store 66 (.tmp 2) (.tmp 65) rfl ?_); go_must (refine step_store rfl _ _ _ rfl (w.heap.size + 1) 0 (askC zeroA (.slice none 0 0)) _ _ rfl rfl hb1 (by simp [askC_len]) (info_askC _ _) (askC_one _) ?_); intro w8 hb8 hk8 hs8))
                      rw [put_whole (by rfl)] at hb8
                      refine bodyPost_ret (ret_cell_tmp rfl (askC zeroA (.slice none 0 0)) _ rfl hb8 Try.underlying66 rfl (info_askC _ _)) rfl ?_
                      exact HZ.out _ HT.out _ (hk2.trans hk8 (fun _ hk h => by omega))
                    | true =>
                      cases hput : gm.toList == [80, 85, 84] with
                      | false =>
                        have HT := Lib.hid (show parseP r = (qa, 200) by unfold parseP; rw [HPT.out]; simp only [hm, hput]; rfl)
                        clear HPT
                        go_wp2_with (first
                          | ((with_reducible refine at_ 73 rfl ?_); go_must (refine step_load rfl _ _ rfl ba 0 (askC qa (.slice none 0 0)) _ _ (0, 0) _ rfl hb9 rfl Try.underlying66 rfl (info_askC _ _) ?_))
                          | ((with_reducible refine at_store 66 (.tmp 2) (.tmp 73) rfl ?_); go_must (refine step_store rfl _ _ _ rfl (w.heap.size + 1) 0 (askC qa (.slice none 0 0)) _ _ rfl rfl hb1 (by simp [askC_len]) (info_askC _ _) (askC_one _) ?_); intro w10 hb10 hk10 hs10))
                        rw [put_whole (by rfl)] at hb10
                        refine bodyPost_ret (ret_cell_tmp rfl (askC qa (.slice none 0 0)) _ rfl hb10 Try.underlying66 rfl (info_askC _ _)) rfl ?_
                        rw [HT.out]
                        exact ⟨hk2.trans hk10 (fun _ hk h => by omega), _, rfl, by rw [hqb]; exact OwnRow.nil _ _ _ _⟩
                      | true =>
                        have HT := Lib.hid (show parseP r = ({ qa with body := r.body }, 200) by unfold parseP; rw [HPT.out]; simp only [hm, hput]; rfl)
                        have HRb := Lib.hid (HR.out.kept hk2 (fun _ _ h => h))
                        clear HPT
                        go_wp2_with (first
                          | ((with_reducible refine at_ 73 rfl ?_); go_must (refine step_load rfl _ _ rfl ba 0 (askC qa (.slice Ab r.body.length cb)) _ _ (0, 0) _ rfl hb11 rfl Try.underlying66 rfl (info_askC _ _) ?_))
                          | ((with_reducible refine at_store 66 (.tmp 2) (.tmp 73) rfl ?_); go_must (refine step_store rfl _ _ _ rfl (w.heap.size + 1) 0 (askC qa (.slice Ab r.body.length cb)) _ _ rfl rfl hb1b (by simp [askC_len]) (info_askC _ _) (by simp [askC, Value.oneCell']) ?_); intro w12 hb12 hk12 hs12)
                          | ((with_reducible refine at_store 22 (.tmp 72) (.tmp 71) rfl ?_); go_must (refine step_store1 rfl _ _ _ rfl ba 3 (.slice Ab r.body.length cb) _ _ rfl rfl rfl hb10 (by simp [askC_len]) info_bytesR ?_); intro w11 hb11 hk11 hs11; have hb1b := hk11.heap (hk10.heap hb1 (fun h => h)) (fun h => by omega))
                          | (go_at_call 44; go_loud (refine Rets.use (clone_c _ r.body HRb.out (by omega)) ?_); rintro v10 w10 ⟨hO10, hk10⟩; obtain ⟨Ab, cb, rfl, _⟩ := hO10.slice; have hb10 := hk10.heap hb9 (fun h => h)))
                        rw [put_whole (by rfl)] at hb12
                        refine bodyPost_ret (ret_cell_tmp rfl (askC qa (.slice Ab r.body.length cb)) _ rfl hb12 Try.underlying66 rfl (info_askC _ _)) rfl ?_
                        rw [HT.out]
                        have z2 := hk2.size
                        refine ⟨((hk2.trans hk10 (fun _ _ h => h)).trans hk11 (fun _ hk h => by omega)).trans hk12 (fun _ hk h => by omega), _, rfl, ?_⟩
                        exact ((hO10.kept hk11 (fun k h h' => by omega)).kept hk12 (fun k h h' => by omega)).mono (fun k hk h => by omega)
          · obtain rfl : k = 10 := by omega
            have HT := Lib.hid (HNo.out (by unfold parseT; rw [HP.out]; simp only; rw [forms_none HN.out]))
            have hb1 := HKr.out.heap H1.out (fun h => h)
            have hk2 := HK3.out.trans HKr.out (fun _ _ h => h)
            clear HNo HN
            go_wp2_with (first
              | ((with_reducible refine at_store 66 (.tmp 2) (.tmp 75) rfl ?_); go_must (refine step_store rfl _ _ _ rfl (w.heap.size + 1) 0 (askC zeroA (.slice none 0 0)) _ _ rfl rfl hb1 (by simp [askC_len]) (info_askC _ _) (askC_one _) ?_); intro w8 hb8 hk8 hs8))
            rw [put_whole (by rfl)] at hb8
            refine bodyPost_ret (ret_cell_tmp rfl (askC zeroA (.slice none 0 0)) _ rfl hb8 Try.underlying66 rfl (info_askC _ _)) rfl ?_
            exact HZ.out _ HT.out _ (hk2.trans hk8 (fun _ hk h => by omega))
      · have hE := str_nil hx
        have HT := Lib.hid (HNo.out (by unfold parseT partsF; rw [hf]; cases x with | nil => exact (hx rfl).elim | cons => rfl))
        rw [hf] at HF
        clear hf HNo
        generalize str r.target = st at *
        go_enter Try.func32, Try.ntmps32
        go_wp2_with (first
          | ((with_reducible refine at_store 66 (.tmp 2) (.tmp 29) rfl ?_); go_must (refine step_store rfl _ _ _ rfl (w.heap.size + 1) 0 (askC zeroA (.slice none 0 0)) _ _ rfl rfl hb1 (by simp [askC_len]) (info_askC _ _) (askC_one _) ?_); intro w8 hb8 hk8 hs8)
          | (go_at_call 45; go_loud (refine Rets.use (HF.out _) ?_); rintro _ w2 ⟨hk2, u2, rfl, hO2⟩; obtain ⟨hb0, hb1, hk2, hs2⟩ := after2 hk2; obtain ⟨A2, c2, rfl, _⟩ := hO2.slice; first | (obtain ⟨b2, o2, c2', e2, _, hbk2, hcell⟩ := hO2.rd.at (by simp [strs]); cases e2; have cx0 : w2.cell? ⟨b2, o2, none⟩ = some (.string (str _)) := hcell 0 _ rfl) | skip))
        rw [put_whole (by rfl)] at hb8
        refine bodyPost_ret (ret_cell_tmp rfl (askC zeroA (.slice none 0 0)) _ rfl hb8 Try.underlying66 rfl (info_askC _ _)) rfl ?_
        exact HZ.out _ HT.out _ (hk2.trans hk8 (fun _ hk h => by omega))
end Go.Proofs.Ytibegbmehpggbaa
