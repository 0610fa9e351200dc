/-
  store.Open.
-/
import Derived.Test.YtbiohidelhfaiaaStoC
import Derived.Test.YtbiohidelhfaiaaStT
namespace Go.Proofs.Ytbiohidelhfaiaa
open Go.RowKit Go.Canon Go.Mem Go.Args
open Go.Disk (St)
open Go.Proofs.Ytbiohidelhfaiaa.Sto (Chg)
set_option linter.unusedVariables false
set_option linter.unusedSimpArgs false
namespace Sto
/-- The changes of texts, one text behind the other; how many they are. -/
def loadP : (Mp × Int) × Nat → List (List Int) → Int × (Mp × Int) × Nat
  | s, [] => (0, s)
  | s, t :: r => if (dec t).2 ≠ 0 then ((dec t).2, s) else loadP (doF s.1 (dec t).1, s.2 + (dec t).1.length) r
end Sto
def openS (s : St) (q : Int) : Int × Option StoS × St :=
  if q < 0 then (2, none, s)
  else match openP s with
    | (e, none, s') => (e, none, s')
    | (_, some L, s') => if (Sto.loadP (([], 0), 0) L.texts).1 ≠ 0 then ((Sto.loadP (([], 0), 0) L.texts).1, none, s')
      else (0, some ⟨L, q, (Sto.loadP (([], 0), 0) L.texts).2.1.1, (Sto.loadP (([], 0), 0) L.texts).2.1.2, (Sto.loadP (([], 0), 0) L.texts).2.2⟩, s')
theorem openP_err (s : St) : ((openP s).2.1 = none → (openP s).1 ≠ 0) ∧ ∀ L, (openP s).2.1 = some L → (openP s).1 = 0 := by
  unfold openP
  split
  · exact ⟨fun _ h => (by cases h), fun L h => by cases h⟩
  · cases scan (flatS s.now) s.now.length (s.now.length + 1) [] 0 with
    | none => exact ⟨fun _ h => (by cases h), fun L h => by cases h⟩
    | some q =>
      obtain ⟨ls, nx⟩ := q
      simp only
      split
      · exact ⟨fun h => (by cases h), fun L _ => rfl⟩
      · rename_i h
        exact ⟨fun _ => h, fun L h => by cases h⟩
/-- A disk in memory, apart. -/
def DL (W w : World) (g : Nat) (s : St) : Prop := Keeps (fun _ => False) W w ∧ ∃ P : Nat → Prop, DIs w P g s ∧ ∀ k, P k → W.heap.size ≤ k ∧ k < w.heap.size
theorem keyB {k : List Int} (h : Sto.keyF k = true) : IsB k := by
  unfold Sto.keyF at h
  simp only [Bool.and_eq_true, decide_eq_true_eq, List.all_eq_true] at h
  intro x hx
  have := h.1 x hx
  unfold Sto.keyC at this
  simp only [Bool.and_eq_true, decide_eq_true_eq] at this
  omega
theorem dec_chgB {b : List Int} (hB : IsB b) : ChgB (Sto.dec b).1 ∧ (Sto.dec b).1.length ≤ 16 ∧ ((Sto.dec b).2 = 0 ∨ (Sto.dec b).2 = 4) := by
  rcases Sto.dec_cases b hB with h | ⟨l, h, e, hc⟩
  · rw [h]; exact ⟨fun c hc => (by cases hc), by decide, .inr rfl⟩
  · rw [h]
    obtain ⟨h1, h2, h3⟩ := Sto.chk_good hc
    refine ⟨fun c hc => ?_, h3, .inl rfl⟩
    obtain ⟨h4, h5, h6⟩ := h1 c hc
    have hk := h5
    unfold Sto.keyF at hk
    simp only [Bool.and_eq_true, decide_eq_true_eq] at hk
    refine ⟨keyB h5, fun y hy => ?_, by omega, by omega⟩
    apply hB y
    rw [e]
    unfold Sto.encL
    refine List.mem_append_right _ (List.mem_flatMap.2 ⟨c, hc, ?_⟩)
    unfold Sto.enc1
    cases hd : c.del with
    | true => rw [h4.d hd] at hy; cases hy
    | false => simp [Sto.counted, hy]
section
variable {ops : Array Oper} {op : Oper} {rest : List Oper} {a : Act} {w : World} {Q : Exit → Act → World → Prop}
/-- map[..]..{}. -/
theorem step_makeMap (hgd : Region.wanted op (yielded ops a.tmps) = true) (ho : op.op = Op.makeMap 80 none)
    (h : ∀ w', MapIs w' w.heap.size (fun _ => False) 0 [] → Keeps (fun _ => False) w w' → w'.heap.size = w.heap.size + 1 → wpList Try.prog ops Q rest (a.put op.dst (.map (some w.heap.size))) w') : wpList Try.prog ops Q (op :: rest) a w := by
  refine plain_ hgd fun K hK => ?_
  unfold Oper.wp execOp
  simp only [ho, Option.map_none, Sem.run_bind, run_makeMap, Result.andThen_ok, Sem.run_pure]
  exact hK _ _ (h _ ⟨_, World.ownsMap_made w Try.prog 9 Rv, fun k _ => rfl⟩ ((Keeps.refl _ w).alloc _) (by simp))
end
def OpnPost (W : World) (g : Nat) (r : Int × Option StoS × St) : Value → World → Prop := fun v w' => match r.2.1 with
  | none => v = .tuple #[.pointer none, .int .i64 r.1] ∧ DL W w' g r.2.2
  | some S => ∃ x, v = .tuple #[.pointer (some ⟨x, 0, none⟩), .int .i64 0] ∧ SL W w' g x r.2.2 S
set_option maxHeartbeats 12800000 in
set_option maxRecDepth 100000 in
theorem open_c {W w : World} {g : Nat} {s : St} (h : DL W w g s) (q : Int) (few : s.opn.length ≤ 900000) (hB : IsB (flatS s.now)) (hL : ∀ L, (openP s).2.1 = some L → L.texts.length ≤ 4096 ∧ ∀ t ∈ L.texts, IsB t ∧ t.length ≤ 1000000) : Calls Try.prog 24 #[.pointer (some ⟨g, 0, none⟩), .int .i64 q] w (Rets (OpnPost W g (openS s q))) := by
  have HD := Lib.hid h
  obtain ⟨h0, P, hd, hP⟩ := h
  have hz0 := h0.size
  have HW := Lib.hid h0
  have HP := Lib.hid hP
  have HO := Lib.hid (wopen_c hd few hB)
  have HL := Lib.hid hL
  clear h0 hd hP hL hB
  by_cases hq : q < 0
  · have HE := Lib.hid (show openS s q = (2, none, s) by unfold openS; rw [if_pos hq])
    go_enter Try.func24, Try.ntmps24
    go_wp2
    go_ret2
    rw [HE.out]
    exact ⟨rfl, HD.out⟩
  · have HE0 := Lib.hid (show openS s q = match openP s with
      | (e, none, s') => (e, none, s')
      | (_, some L, s') => if (Sto.loadP (([], 0), 0) L.texts).1 ≠ 0 then ((Sto.loadP (([], 0), 0) L.texts).1, none, s')
        else (0, some ⟨L, q, (Sto.loadP (([], 0), 0) L.texts).2.1.1, (Sto.loadP (([], 0), 0) L.texts).2.1.2, (Sto.loadP (([], 0), 0) L.texts).2.2⟩, s') by unfold openS; rw [if_neg hq])
    have HE4 := Lib.hid (openP_err s)
    generalize openP s = r at *
    obtain ⟨e, oL, s'⟩ := r
    cases oL with
    | none =>
      have HE := Lib.hid (show openS s q = (e, none, s') from HE0.out)
      have hqe : (e != 0) = true := by simpa using (HE4.out.1 rfl : e ≠ 0)
      go_enter Try.func24, Try.ntmps24
      go_wp2_with (go_at_call 50; refine Rets.use HO.out ?_; rintro v2 w2 ⟨hk2, Q2, hQ2, hd2, hv2⟩; obtain ⟨_, rfl⟩ := hv2.resolve_right (fun ⟨_, _, h, _⟩ => by cases h))
      go_ret2
      rw [HE.out]
      have hz2 := hk2.size
      exact ⟨rfl, HW.out.trans hk2 (fun k hk h => by have := HP.out k h; omega), _, hd2.bound, fun k hk => ⟨hk.1.1.elim (fun h => (HP.out k h).1) (fun h => by omega), hk.2⟩⟩
    | some L =>
      obtain ⟨hL1, hL2⟩ := HL.out L rfl
      have HL2 := Lib.hid hL2
      have he0 : e = 0 := HE4.out.2 L rfl
      subst he0
      have HE1 := Lib.hid (show openS s q = if (Sto.loadP (([], 0), 0) L.texts).1 ≠ 0 then ((Sto.loadP (([], 0), 0) L.texts).1, none, s')
        else (0, some ⟨L, q, (Sto.loadP (([], 0), 0) L.texts).2.1.1, (Sto.loadP (([], 0), 0) L.texts).2.1.2, (Sto.loadP (([], 0), 0) L.texts).2.2⟩, s') from HE0.out)
      clear hL2 HE0 HL
      go_enter Try.func24, Try.ntmps24
      go_wp2_with (first
        | (go_at_call 50; refine Rets.use HO.out ?_; rintro v2 w2 ⟨hk2, Q2, hQ2, hd2, hv2⟩; obtain ⟨L2, y, e2, rfl, hm2⟩ := hv2.resolve_left (fun h => by cases h.1); cases e2; have hz2 := hk2.size)
        | ((with_reducible refine at_ 25 rfl ?_); go_must (refine step_makeMap rfl rfl ?_); intro w3 hM3 hk3 hs3)
        | ((with_reducible refine at_ 27 rfl ?_); go_must (refine step_box rfl 82 _ rfl _ rfl (stoC (.pointer (some ⟨y, 0, none⟩)) q 0 w2.heap.size) rfl ?_); intro w4 hb4 hk4 hs4)
        | (go_at_call 51; go_loud (refine Rets.use (texts_c ((hm2.kept hk3 (fun _ _ h => h)).kept hk4 (fun _ _ h => h)) hL1 (fun t ht => (HL2.out t ht).2)) ?_); rintro v5 w5 ⟨hk5, vs, hO5, hr5⟩; obtain ⟨A5, c5, rfl, _⟩ := hO5.slice))
      have hkk : Keeps (fun _ => False) w2 w5 := (hk3.trans hk4 (fun _ _ h => h)).trans hk5 (fun _ _ h => h)
      have hz5 := hk5.size
      have HS5 := Lib.hid (show SIs w5 (w2.heap.size + 1) w2.heap.size (fun j => w5.heap.size ≤ j) (.pointer (some ⟨y, 0, none⟩)) q 0 ([], 0) from ⟨hs3 ▸ hk5.heap hb4 (fun h => h), ((hM3.kept hk4 (fun h => h) (fun _ h _ => h)).kept hk5 (fun h => h) (fun _ h _ => h)).mono (Nat.le_refl _) (fun _ _ h => h.elim), by omega, by omega, by omega⟩)
      have HM5 := Lib.hid (hm2.kept hkk (fun _ _ h => h))
      have HD5 := Lib.hid (hd2.bound.kept hkk (fun _ _ h => h))
      have HW5 := Lib.hid ((HW.out.trans hk2 (fun k hk h => by have := HP.out k h; omega)).trans hkk (fun _ _ h => h))
      have HR5 := Lib.hid hr5
      have HO5 := Lib.hid hO5
      have HQ2 := Lib.hid hQ2
      have hx5 : w2.heap.size + 2 ≤ w5.heap.size := by omega
      have hw2 : w.heap.size ≤ w2.heap.size := hz2
      have hw4 : w4.heap.size = w2.heap.size + 2 := by omega
      rw [hw4] at HR5 HO5
      generalize hbmx : w2.heap.size = bm at *
      clear hk2 hQ2 hd2 hv2 hm2 hM3 hk3 hs3 hb4 hk4 hs4 hk5 hO5 hr5 hkk
      go_loopw [31] (fun i wr => ∃ (k : Nat) (st : (Sto.Mp × Int) × Nat), k ≤ L.texts.length ∧ i = .int .i64 k ∧ Keeps (fun j => j = bm + 1 ∨ j = bm) w5 wr ∧ SIs wr (bm + 1) bm (fun j => w5.heap.size ≤ j ∧ j < wr.heap.size) (.pointer (some ⟨y, 0, none⟩)) q st.2 st.1 ∧ -(64000000 * (k : Int)) ≤ st.1.2 ∧ st.1.2 ≤ 64000000 * k ∧ st.2 ≤ 16 * k ∧ Hid (Sto.loadP (([], 0), 0) L.texts = Sto.loadP st (L.texts.drop k))) (fun i _ => L.texts.length - (intOf i).toNat)
      case atStart => exact ⟨0, (([], 0), 0), Nat.zero_le _, rfl, Keeps.refl _ _, ⟨HS5.out.blk, HS5.out.map.mono (Nat.le_refl _) (fun j hj h => ⟨h, hj⟩), fun h => by omega, fun h => by omega, by omega⟩, by simp, by simp, by simp, Lib.hid rfl⟩
      case round =>
        obtain ⟨k, st, hk, rfl, hkr, hSr, hu1, hu2, hn, HF⟩ := hrel
        have HKr := Lib.hid hkr
        have HSr := Lib.hid hSr
        have hwr := hkr.size
        by_cases hlt : k < L.texts.length
        · obtain ⟨u, hu, hru⟩ := HR5.out k _ (List.getElem?_eq_getElem hlt)
          obtain ⟨hBt, hlt2⟩ := HL2.out _ (List.getElem_mem hlt)
          obtain ⟨g5, cap5, cur5, e5, hg5, hb5, _⟩ := HO5.out.form (by omega)
          cases e5
          have cu := hkr.cell (HO5.out.cells rfl k u hu) (fun e => by rcases e with e | e <;> (simp only at e; omega))
          have hru2 := ((hru.mono (ok' := fun j => bm + 2 ≤ j ∧ j < wr.heap.size) (fun j h => ⟨h.1, by omega⟩)).kept hkr (fun j h e => by omega))
          have HDc := Lib.hid (decode_c u L.texts[k] hru2 hBt hlt2 (fun j h => h.2))
          obtain ⟨hCB, hC16, hCe⟩ := dec_chgB hBt
          have HN := Lib.hid (show Sto.loadP (([], 0), 0) L.texts = if (Sto.dec L.texts[k]).2 ≠ 0 then ((Sto.dec L.texts[k]).2, st) else Sto.loadP (Sto.doF st.1 (Sto.dec L.texts[k]).1, st.2 + (Sto.dec L.texts[k]).1.length) (L.texts.drop (k + 1)) by rw [HF.out, List.drop_eq_getElem_cons hlt, Sto.loadP])
          generalize Sto.dec L.texts[k] = d at *
          obtain ⟨l, e⟩ := d
          simp only at hCB hC16 hCe HN
          obtain ⟨Au, cu', rfl, _⟩ := hru.slice
          have HCB := Lib.hid hCB
          clear hu hru hru2 hBt hb5 hkr hSr HF hCB
          by_cases he : e = 0
          · subst he
            have HN2 := Lib.hid (HN.out.trans (if_neg (fun h => h rfl)))
            clear hCe HN
            go_wp2_with (first
              | (go_at_call 14; refine Rets.use HDc.out ?_; rintro v6 w6 ⟨hk6, u6, rfl, hO6⟩; have hz6 := hk6.size; have HO6 := Lib.hid (hO6.mono (ok' := fun j => wr.heap.size ≤ j ∧ j < w6.heap.size) (fun j hj h => ⟨h, hj⟩)))
              | (go_at_call 52; refine Rets.use (do_b (HSr.out.kept0 hk6) (fun j h => by omega) l HCB.out (by omega) (by omega) ⟨by omega, by omega⟩ _ HO6.out.chgs (fun j h => ⟨h.2, by omega, by omega⟩)) ?_; rintro _ w7 ⟨⟨rfl, hk7, hS7⟩, hu7, hu8⟩))
            have hz7 := hk7.size
            go_roundw
            case rel => exact ⟨k + 1, (Sto.doF st.1 l, st.2 + l.length), hlt, by go_num, (HKr.out.trans hk6 (fun _ _ h => h.elim)).trans hk7 (fun _ _ h => h), ⟨hS7.blk, hS7.map.mono (Nat.le_refl _) (fun j hj h => ⟨h.elim (fun h => h.1) (fun h => by omega), hj⟩), fun h => by omega, fun h => by omega, hS7.ne⟩, by simp only; omega, by simp only; omega, by simp only; omega, HN2⟩
            case measure => simp [intOf]; omega
          · have HN2 := Lib.hid (HN.out.trans (if_pos he))
            have hqe : (e != 0) = true := by simpa using he
            go_wp2_with (first
              | (go_at_call 14; refine Rets.use HDc.out ?_; rintro v6 w6 ⟨hk6, u6, rfl, hO6⟩; have hz6 := hk6.size))
            go_ret2
            have HE := Lib.hid (show openS s q = (e, none, s') by rw [HE1.out, HN2.out]; exact if_pos he)
            rw [HE.out]
            have hk56 := HKr.out.trans hk6 (fun _ _ h => h.elim)
            exact ⟨rfl, HW5.out.trans hk56 (fun j hj h => by omega), _, HD5.out.kept hk56 (fun j h e => by omega), fun j h => ⟨h.1.1.elim (fun h => (HP.out j h).1) (fun h => by omega), by omega⟩⟩
        · obtain rfl : k = L.texts.length := by omega
          have HE := Lib.hid (show openS s q = (0, some ⟨L, q, st.1.1, st.1.2, st.2⟩, s') by
            rw [HE1.out, HF.out, List.drop_length]
            simp [Sto.loadP])
          go_wp2
          go_ret2
          rw [HE.out]
          have hW' := HW5.out.trans HKr.out (fun j hj h => by omega)
          refine ⟨bm + 1, rfl, hW', y, bm, _, Q2, _, HD5.out.kept HKr.out (fun j h e => by omega), HM5.out.kept HKr.out (fun j h e => by have := HQ2.out j h; omega), HSr.out, ?_, ?_, fun j h => ⟨by omega, h.2⟩, by omega, by omega⟩
          · intro j h
            exact ⟨h.1.1.elim (fun h => (HP.out j h).1) (fun h => by omega), by omega, h.1.2, fun e => by omega, by omega, by omega⟩
          · intro j h
            have := HQ2.out j h
            exact ⟨by omega, by omega, fun e => by omega, by omega, by omega⟩
end Go.Proofs.Ytbiohidelhfaiaa
