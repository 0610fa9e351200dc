/-
  WalKept: which bits are kept; a life is opened.
-/
import Derived.Test.YtmkpdoljaccpaaaLKeptM
namespace Go.Proofs.Ytmkpdoljaccpaaa
open Go.RowKit Go.Canon Go.Mem Go.Args
open Go.Disk (St)
set_option linter.unusedVariables false
set_option linter.unusedSimpArgs false
def KeepPost (w : World) (ok : Nat → Prop) (l : List Bool) : Value → World → Prop := fun v w' => Keeps (fun _ => False) w w' ∧ Rd w' ok v l.length (bools l)
theorem keep10_c {w : World} {ok : Nat → Prop} (d : Do10) (vB vK : Value) (hK : Rd w ok vK d.keep.length (bools d.keep)) : Calls Try.prog 44 #[.agg #[.int .i64 d.kind, .int .i64 d.n, .int .i64 d.long, vB, vK]] w (Rets (KeepPost w ok (d.keep.take 400))) := by
  obtain ⟨w1, hw1⟩ : ∃ w1, w1 = w.alloc (Obj.cells #[.int .i64 d.kind, .int .i64 d.n, .int .i64 d.long, vB, vK] 72) := ⟨_, rfl⟩
  have hk1 : Keeps (fun _ => False) w w1 := by rw [hw1]; exact (Keeps.refl _ w).alloc _
  obtain ⟨A, c, rfl, h2, h3⟩ := hK.slice
  have hb1 : w1.heap[w.heap.size]? = some (.cells #[.int .i64 d.kind, .int .i64 d.n, .int .i64 d.long, vB, .slice A d.keep.length c] 72 (0, 0)) := by rw [hw1]; exact heap_alloc_new w _
  have c4 : w1.cell? ⟨w.heap.size, 4, none⟩ = some (.slice A d.keep.length c) := cell_of_row w1 _ _ _ _ _ hb1
  have HW := Lib.hid hw1
  rw [hw1] at c4
  by_cases hn : 400 < d.keep.length
  · have HR := Lib.hid (show KeepPost w ok (d.keep.take 400) (.slice A 400 c) w1 from ⟨hk1, by
      have := Rd.front1 (hK.kept hk1 (fun _ _ h => h)) (by simp [bools]) 400 (by omega)
      rw [List.length_take, Nat.min_eq_left (by omega)]
      unfold bools at *
      rwa [List.map_take]⟩)
    generalize d.keep.take 400 = kk at *
    generalize d.keep.length = n at *
    clear hK hb1 hk1 hw1
    go_enter Try.func44, Try.ntmps44
    go_wp2
    go_ret
    rw [← HW.out]
    exact HR.out
  · have HR := Lib.hid (show KeepPost w ok (d.keep.take 400) (.slice A d.keep.length c) w1 from ⟨hk1, by
      rw [List.take_of_length_le (by omega)]
      exact hK.kept hk1 (fun _ _ h => h)⟩)
    generalize d.keep.take 400 = kk at *
    generalize d.keep.length = n at *
    clear hK hb1 hk1 hw1
    go_enter Try.func44, Try.ntmps44
    go_wp2
    go_ret
    rw [← HW.out]
    exact HR.out
/-- One more text is told. -/
theorem LifeMem.push {wq w7 w8 w9 : World} {y g B : Nat} {lv sv mv v8 u : Value} {R T Z : Nat → Prop} {vs : List Value} {lf : LifeS} {t : List Int} (hb : wq.heap[y]? = some (.cells [Value.pointer (some ⟨g, 0, none⟩), lv, sv, mv, .bool lf.doubt].toArray 82 (0, 0)))
    (hZy : Z y) (hRZ : ∀ k, R k → Z k) (hTZ : ∀ k, T k → Z k) (nR : ¬ R y) (nT : ¬ T y) (hRT : ∀ k, R k → ¬ T k) (hO : OwnRow wq R 38 1 sv lf.sure.length vs) (hTx : TextsRd wq T vs lf.sure) (hM : Rd wq T mv lf.maybe.length (Disk.bytes8 lf.maybe))
    (hZ : ∀ k, Z k → k < B) (hB : B ≤ wq.heap.size) (hu : Rd wq (fun k => T k ∨ (B ≤ k ∧ k < wq.heap.size)) u t.length (Disk.bytes8 t))
    (hk7 : Keeps (fun _ => False) wq w7) (hO8 : OwnRow w8 (fun k => R k ∨ w7.heap.size ≤ k) 38 1 v8 (lf.sure.length + 1) (vs ++ [u])) (hk8 : Keeps (fun k => sv.ownBlock = some k) w7 w8) (hb9 : w9.heap[y]? = some (.cells [Value.pointer (some ⟨g, 0, none⟩), lv, v8, mv, .bool lf.doubt].toArray 82 (0, 0))) (hk9 : Keeps (fun k => k = y) w8 w9) :
    Keeps Z wq w9 ∧ LifeMem w9 y g lv (fun k => Z k ∨ (B ≤ k ∧ k < w9.heap.size)) ⟨lf.sure ++ [t], lf.maybe, lf.doubt⟩ := by
  have z7 := hk7.size
  have z8 := hk8.size
  have z9 := hk9.size
  have hRw : ∀ k, R k → k < B := fun k h => hZ k (hRZ k h)
  have hTw : ∀ k, T k → k < B := fun k h => hZ k (hTZ k h)
  have kB : Keeps (fun k => k = y ∨ R k) wq w9 := ((hk7.mono (fun _ _ h => h.elim)).trans hk8 (fun k _ h => .inr (hO.2 k h))).trans hk9 (fun k _ h => .inl h)
  have hU : ∀ k, (T k ∨ (B ≤ k ∧ k < wq.heap.size)) → ¬ (k = y ∨ R k) := by
    rintro k (h | h) (h' | h')
    · subst h'; exact nT h
    · exact hRT k h' h
    · subst h'; have := hZ k hZy; omega
    · have := hRw k h'; omega
  refine ⟨kB.mono (fun k _ h => by rcases h with h | h; subst h; exact hZy; exact hRZ k h), fun k => R k ∨ (w7.heap.size ≤ k ∧ k < w8.heap.size), fun k => T k ∨ (B ≤ k ∧ k < wq.heap.size), v8, mv, vs ++ [u], hb9, .inl hZy, ?_, ?_, ?_, ?_, ?_, ?_, ?_, ?_⟩
  · rintro k (h | h)
    · exact .inl (hRZ k h)
    · exact .inr (by omega)
  · rintro k (h | h)
    · exact .inl (hTZ k h)
    · exact .inr (by omega)
  · rintro (h | h)
    · exact nR h
    · have := hZ y hZy; omega
  · rintro (h | h)
    · exact nT h
    · have := hZ y hZy; omega
  · rintro k (h | h) (h' | h')
    · exact hRT k h h'
    · have := hRw k h; omega
    · have := hTw k h'; omega
    · omega
  · simp only [List.length_append, List.length_singleton]
    refine (hO8.mono (ok' := fun k => R k ∨ (w7.heap.size ≤ k ∧ k < w8.heap.size)) (fun k hk h => ?_)).kept hk9 (fun k hk e => ?_)
    · rcases h with h | h
      · exact .inl h
      · exact .inr ⟨h, hk⟩
    · subst e
      rcases hk with h | h
      · exact nR h
      · have := hZ k hZy; omega
  · exact ((hTx.mono (T' := fun k => T k ∨ (B ≤ k ∧ k < wq.heap.size)) (fun k h => .inl h)).kept kB hU).push (hu.kept kB hU)
  · exact (hM.mono (ok' := fun k => T k ∨ (B ≤ k ∧ k < wq.heap.size)) (fun k h => .inl h)).kept kB hU
/-- What was told is other now. -/
theorem WK.told {W w2 w9 : World} {g y x : Nat} {s : St} {L : LogS} {lf : LifeS} {P Q Z Z' : Nat → Prop} (h0 : Keeps (fun _ => False) W w2) (hd : DIs w2 P g s) (hm : LogMem w2 x Q g L) (hP : ∀ k, P k → W.heap.size ≤ k ∧ k < w2.heap.size ∧ ¬ Q k ∧ ¬ Z k) (hQ : ∀ k, Q k → W.heap.size ≤ k ∧ k < w2.heap.size ∧ ¬ Z k) (hZ : ∀ k, Z k → W.heap.size ≤ k ∧ k < w2.heap.size)
    (hk : Keeps Z w2 w9) (hl : LifeMem w9 y g (.pointer (some ⟨x, 0, none⟩)) Z' lf) (hZ' : ∀ k, Z' k → (Z k ∨ w2.heap.size ≤ k) ∧ k < w9.heap.size) : WK W w9 g y (some (x, L)) s lf (fun _ => False) := by
  have z := hk.size
  have z0 := h0.size
  refine ⟨h0.trans hk (fun k hk h => by have := (hZ k h).1; omega), P, Q, Z', _, hd.kept hk (fun k h h' => (hP k h).2.2.2 h'), hl, fun x2 L2 e => by cases e; exact ⟨rfl, hm.kept hk (fun k h h' => (hQ k h).2.2 h')⟩, fun k h => ⟨(hP k h).1, by have := (hP k h).2.1; omega, (hP k h).2.2.1, fun h' => ?_⟩, fun k h => ⟨(hQ k h).1, by have := (hQ k h).2.1; omega, fun h' => ?_⟩, fun k h => ⟨?_, (hZ' k h).2⟩, fun _ h => h.elim⟩
  · rcases (hZ' k h').1 with h1 | h1
    · exact (hP k h).2.2.2 h1
    · have := (hP k h).2.1; omega
  · rcases (hZ' k h').1 with h1 | h1
    · exact (hQ k h).2.2 h1
    · have := (hQ k h).2.1; omega
  · rcases (hZ' k h).1 with h1 | h1
    · exact (hZ k h1).1
    · omega
theorem rows_of {w : World} {R T : Nat → Prop} {v : Value} {vs : List Value} {ls : List (List Int)} (hO : OwnRow w R 38 1 v ls.length vs) (hT : TextsRd w T vs ls) : RowsRd w (fun k => R k ∨ T k) v ls :=
  ⟨vs, hO.rd.mono (fun _ h => .inl h), hT.1, fun i l hi => by obtain ⟨u, h1, h2⟩ := hT.2 i l hi; exact ⟨u, h1, h2.mono (fun _ h => .inr h)⟩⟩
theorem info_plog : (Try.prog.info? 65).map (·.size) = some 1 := by kernel_rfl
def OpensPost (W : World) (g y : Nat) (ts : List (List Int)) (mb : List Int) : Value → World → Prop := fun v w' => v = .bool true ∧ ∃ (x : Nat) (L : LogS) (s' : St), WK W w' g y (some (x, L)) s' ⟨ts, mb, false⟩ (fun _ => False) ∧ Kept s' L ⟨ts, mb, false⟩
set_option maxHeartbeats 3200000 in
set_option maxRecDepth 100000 in
theorem opens_c {W w : World} {g y : Nat} {lo : Option (Nat × LogS)} {s : St} {lf : LifeS} {ts : List (List Int)} {F : Nat → Prop} (h : WK W w g y lo s lf F) (hR : Ready s ts) (hF : Finds lf ts) (hmb : IsB lf.maybe) (hml : lf.maybe.length ≤ 20000) :
    Calls Try.prog 43 #[.pointer (some ⟨y, 0, none⟩)] w (Rets (OpensPost W g y ts lf.maybe)) := by
  obtain ⟨L, s1, ho, hT, hKept⟩ := hR.opens hF hmb hml
  obtain ⟨h0, P, Q, Z, lv, hd, hl, _, hP, hQ, hZ, _⟩ := h
  obtain ⟨sure, maybe, doubt⟩ := lf
  simp only at hmb hml hKept
  have HL := Lib.hid hl
  obtain ⟨R, T, v, mv, vs, hb, hZy, hRZ, hTZ, nR, nT, hRT, hO, hTx, hMv⟩ := hl
  simp only at hb hO hTx hMv
  obtain ⟨Av, cv, rfl, _⟩ := hO.slice
  obtain ⟨Am, cm, rfl, _⟩ := hMv.slice
  have c0 : w.cell? ⟨y, 0, none⟩ = some (.pointer (some ⟨g, 0, none⟩)) := (cell_of_row w y 0 _ _ _ hb).trans rfl
  have HOp := Lib.hid (wopen_c hd (by rw [hR.opn]; decide) hR.flat)
  have HoE := Lib.hid ho
  have hyP : ¬ P y := fun h => (hP y h).2.2.2 hZy
  have HP := Lib.hid hP
  have HB := Lib.hid hb
  have HO := Lib.hid hO
  have HTx := Lib.hid hTx
  have HMv := Lib.hid hMv
  have HZ := Lib.hid hZ
  have H0 := Lib.hid h0
  have HK := Lib.hid hKept
  have hts4 : ts.length ≤ 4096 := hKept.most
  have HSm := Lib.hid (show ∀ t ∈ L.texts, t.length ≤ 1000000 from fun t ht => by rw [hT] at ht; have := hKept.small.2 t ht; omega)
  have HTl := Lib.hid (show L.texts.length ≤ 4096 from hKept.texts)
  have HT := Lib.hid hT
  have HPZ := Lib.hid (show ∀ k, P k → ¬ Z k from fun k h => (hP k h).2.2.2)
  have HSm2 := Lib.hid (show ∀ t ∈ ts, t.length ≤ 1000000 from fun t ht => by have := hKept.small.2 t ht; omega)
  have HFi := Lib.hid hF.is
  clear hb hO hTx hMv hZ h0 hKept hT hP hd hQ ho hR hF
  rcases HFi.out with e | ⟨hdb, e⟩
  · clear HFi
    simp only at e
    subst e
    have hn1 : ((ts.length : Int) == (ts.length : Int) + 1) = false := beq_eq_false_iff_ne.2 (by omega)
    go_enter Try.func43, Try.ntmps43
    go_wp2_with (first
      | (go_at_call 41; go_loud (refine Rets.use (texts_c HM2.out HTl.out HSm.out) ?_); rintro v3 w3 ⟨hk3, hr3⟩; rw [HT.out] at hr3; obtain ⟨vs3, ho3, hv3⟩ := id hr3; obtain ⟨A3, c3', rfl, _⟩ := ho3.slice)
      | (go_at_call 34; go_loud (refine Rets.use HOp.out ?_); intro v2 w2 hp2; obtain ⟨hk2, Q2, hQ2, hd2, hv2⟩ := hp2; rw [HoE.out] at hd2 hv2; obtain ⟨L2, x, e2, rfl, hm2⟩ := hv2.resolve_left (fun h => by cases h.1); (have e2' := Option.some.inj e2); subst e2'; have HM2 := Lib.hid hm2; have hb2 := hk2.heap HB.out hyP))
    have hb3 := hk3.heap hb2 (fun h => h)
    refine Canon.row [0, 1, 2, 3, 4, 5, 6, 7, 8, 9, 10, 11, 12, 13, 14, 15, 16, 17, 18, 19, 20, 22, 23, 24, 21, 25, 26, 27] (by kernel_rfl) (by kernel_rfl) (by repeat (first | (with_reducible exact Safe.body) | (with_reducible apply Safe.then) | (with_reducible apply Safe.inBlock) | (dsimp +zetaDelta only))) ?_
    simp only [Canon.pick, Canon.wpPlan, List.getElem?_toArray, List.getElem?_cons_zero, List.getElem?_cons_succ]
    have KD : Keeps (fun _ => False) w3 w3.drew := (Keeps.refl _ w3).drew
    have hb3 := KD.heap hb3 (fun h => h)
    have hk24 := hk3.trans KD (fun _ _ h => h)
    have hr3 := Lib.hid (hr3.rd.kept KD (fun _ _ h => h))
    have c2 : w3.drew.cell? ⟨y, 2, none⟩ = some (.slice Av ts.length cv) := (cell_of_row w3.drew y 2 _ _ _ hb3).trans rfl
    clear KD hk3 ho3 hv3
    generalize w3.drew = w4 at *
    go_wp2
    refine ⟨by rfl, trivial, ?_⟩
    have HBq := Lib.hid hb3
    have HOq := Lib.hid ((HO.out.kept hk2 (fun k h h' => HPZ.out k h' (hRZ k h))).kept hk24 (fun _ _ h => h))
    have HTq := Lib.hid ((HTx.out.kept hk2 (fun k h h' => HPZ.out k h' (hTZ k h))).kept hk24 (fun _ _ h => h))
    have HMq := Lib.hid ((HMv.out.kept hk2 (fun k h h' => HPZ.out k h' (hTZ k h))).kept hk24 (fun _ _ h => h))
    have HKz := Lib.hid (hk24.mono (S' := Z) (fun _ _ h => h.elim))
    have HZn := Lib.hid (show ∀ k, Z k → (Z k ∨ w2.heap.size ≤ k) ∧ k < w4.heap.size from fun k h => ⟨.inl h, by have := (HZ.out k h).2; have := hk2.size; have := hk24.size; omega⟩)
    have hz2 := hk2.size
    have hZ0y := hZy
    have hzy := (HZ.out y hZy).2
    clear hb3 hk24
    go_wp2_with (first
      | ((with_reducible refine at_store 65 (.tmp 67) (.tmp 65) rfl ?_); go_must (refine step_store1 rfl _ _ _ rfl y 1 (.pointer (some ⟨x, 0, none⟩)) _ _ rfl rfl rfl HBq.out (by simp) info_plog ?_); intro w5 hb5 hk5 hs5)
      | ((with_reducible refine at_store 4 (.tmp 69) (.const (.bool false)) rfl ?_); go_must (refine step_store1 rfl _ _ _ rfl y 4 (.bool false) _ _ rfl rfl rfl hb5 (by simp) info_bool ?_); intro w6 hb6 hk6 hs6; have c2 : w6.cell? ⟨y, 2, none⟩ = some (.slice Av ts.length cv) := (cell_of_row w6 y 2 _ _ _ hb6).trans rfl)
      | (go_at_call 40; (have hz := hb6); clear hz; go_loud (refine Rets.use (same07_self (hr3.out.kept (hk5.trans hk6 (fun _ _ h => h)) (fun k h e => by subst e; omega)) ((rows_of HOq.out HTq.out).kept (hk5.trans hk6 (fun _ _ h => h)) (fun k h e => by subst e; rcases h with h | h; exact nR h; exact nT h)) (by omega) HSm2.out) ?_); rintro _ w7 ⟨rfl, hk7⟩))
    go_ret
    have kst : Keeps (fun k => k = y) w4 w7 := (hk5.trans hk6 (fun _ _ h => h)).trans hk7 (fun _ _ h => h.elim)
    obtain ⟨a, b, c, d, e, f⟩ := WK.open H0.out HL.out (fun k h => ⟨(HP.out k h).1, (HP.out k h).2.1, (HP.out k h).2.2.2⟩) HZ.out hk2 hQ2 hd2
    have z7 := kst.size
    refine ⟨rfl, x, L, s1, WK.told a b hm2 d e f (HKz.out.trans kst (fun k _ e => by subst e; exact hZ0y)) ⟨_, _, _, _, _, hk7.heap hb6 (fun h => h), hZy, hRZ, hTZ, nR, nT, hRT, HOq.out.kept kst (fun k h e => by subst e; exact nR h), HTq.out.kept kst (fun k h e => by subst e; exact nT h), HMq.out.kept kst (fun k h e => by subst e; exact nT h)⟩ (fun k h => ⟨(HZn.out k h).1, by have := (HZn.out k h).2; omega⟩), HK.out⟩
  · clear HFi
    simp only at hdb e
    subst hdb
    have HE := Lib.hid e
    have hnk : ts.length = sure.length + 1 := by rw [e, List.length_append, List.length_singleton]
    have hml2 : maybe.length ≤ 9223372036854775807 := by omega
    clear e
    obtain ⟨k, hk⟩ : ∃ k, k = sure.length := ⟨_, rfl⟩
    obtain ⟨n, hn⟩ : ∃ n, n = ts.length := ⟨_, rfl⟩
    have HkE := Lib.hid hk
    have HnE := Lib.hid hn
    rw [← hn] at hts4
    have hn1 : ((n : Int) == (k : Int) + 1) = true := by rw [beq_iff_eq]; omega
    have hn2 : (n : Int) - 1 = (k : Int) := by omega
    have hn3 : k < n := by omega
    rw [← hk] at HO HB
    clear hk hn hnk
    go_enter Try.func43, Try.ntmps43
    go_wp2_with (first
      | (go_at_call 41; go_loud (refine Rets.use (texts_c HM2.out HTl.out HSm.out) ?_); rintro v3 w3 ⟨hk3, hr3⟩; rw [HT.out] at hr3; obtain ⟨vs3, ho3, hv3⟩ := id hr3; rw [← HnE.out] at ho3; obtain ⟨A3, c3', rfl, _⟩ := ho3.slice)
      | (go_at_call 34; go_loud (refine Rets.use HOp.out ?_); intro v2 w2 hp2; obtain ⟨hk2, Q2, hQ2, hd2, hv2⟩ := hp2; rw [HoE.out] at hd2 hv2; obtain ⟨L2, x, e2, rfl, hm2⟩ := hv2.resolve_left (fun h => by cases h.1); (have e2' := Option.some.inj e2); subst e2'; have HM2 := Lib.hid hm2; have hb2 := hk2.heap HB.out hyP))
    have hb3 := hk3.heap hb2 (fun h => h)
    refine Canon.row [0, 1, 2, 3, 4, 5, 6, 7, 8, 9, 10, 11, 12, 13, 14, 15, 16, 17, 18, 19, 20, 22, 23, 24, 21, 25, 26, 27] (by kernel_rfl) (by kernel_rfl) (by repeat (first | (with_reducible exact Safe.body) | (with_reducible apply Safe.then) | (with_reducible apply Safe.inBlock) | (dsimp +zetaDelta only))) ?_
    simp only [Canon.pick, Canon.wpPlan, List.getElem?_toArray, List.getElem?_cons_zero, List.getElem?_cons_succ]
    have KD : Keeps (fun _ => False) w3 w3.drew := (Keeps.refl _ w3).drew
    have hb3 := KD.heap hb3 (fun h => h)
    have hk24 := hk3.trans KD (fun _ _ h => h)
    obtain ⟨u, hu1, hu2⟩ := hv3 k maybe (by rw [HE.out, HkE.out]; simp)
    have hu2 := Lib.hid (hu2.kept KD (fun _ _ h => h))
    obtain ⟨b3, o3, c3, f3, _, _, g3⟩ := (ho3.rd.kept KD (fun _ _ h => h)).at (by intro e; rw [e] at hu1; cases hu1)
    cases f3
    have d3 := g3 k _ hu1
    have hr3 := Lib.hid (hr3.rd.kept KD (fun _ _ h => h))
    have c2 : w3.drew.cell? ⟨y, 2, none⟩ = some (.slice Av k cv) := (cell_of_row w3.drew y 2 _ _ _ hb3).trans rfl
    have c3 : w3.drew.cell? ⟨y, 3, none⟩ = some (.slice Am maybe.length cm) := (cell_of_row w3.drew y 3 _ _ _ hb3).trans rfl
    have c4 : w3.drew.cell? ⟨y, 4, none⟩ = some (.bool true) := (cell_of_row w3.drew y 4 _ _ _ hb3).trans rfl
    clear KD hk3 ho3 hv3 g3 hu1
    generalize w3.drew = w4 at *
    have HMq := Lib.hid ((HMv.out.kept hk2 (fun k h h' => HPZ.out k h' (hTZ k h))).kept hk24 (fun _ _ h => h))
    go_wp2_with (go_at_call 26; go_loud (refine Rets.use (same_self10 hu2.out HMq.out hml2) ?_); rintro _ w5 ⟨rfl, hk5⟩)
    refine ⟨by rfl, trivial, ?_⟩
    have HOq := Lib.hid ((((HO.out.kept hk2 (fun k h h' => HPZ.out k h' (hRZ k h))).kept hk24 (fun _ _ h => h))).kept hk5 (fun _ _ h => h))
    have HTq := Lib.hid ((((HTx.out.kept hk2 (fun k h h' => HPZ.out k h' (hTZ k h))).kept hk24 (fun _ _ h => h))).kept hk5 (fun _ _ h => h))
    have HMq := Lib.hid (HMq.out.kept hk5 (fun _ _ h => h))
    have hb5 := hk5.heap hb3 (fun h => h)
    go_wp2
    refine Canon.region [9] [(⟨y, 2, none⟩, .slice Av k cv)] [(4, 0)] (.hold [0, 1, 2, 3, 5, 6, 7, 8, 4] (.loud 9 (.seg [10, 11, 12, 13] .stop))) (by kernel_rfl) (by kernel_rfl) (by repeat (first | (with_reducible exact Safe.body) | (with_reducible apply Safe.then) | (with_reducible apply Safe.inBlock) | (dsimp +zetaDelta only))) ?_
    simp only [Canon.pick, Canon.wpPlan, List.getElem?_toArray, List.getElem?_cons_zero, List.getElem?_cons_succ]
    have KD : Keeps (fun _ => False) w5 w5.drew := (Keeps.refl _ w5).drew
    have hbd := KD.heap hb5 (fun h => h)
    have c2 : w5.drew.cell? ⟨y, 2, none⟩ = some (.slice Av k cv) := (cell_of_row w5.drew y 2 _ _ _ hbd).trans rfl
    have c3 : w5.drew.cell? ⟨y, 3, none⟩ = some (.slice Am maybe.length cm) := (cell_of_row w5.drew y 3 _ _ _ hbd).trans rfl
    have HOq := Lib.hid (HOq.out.kept KD (fun _ _ h => h))
    have HTq := Lib.hid (HTq.out.kept KD (fun _ _ h => h))
    have HMq := Lib.hid (HMq.out.kept KD (fun _ _ h => h))
    have HBd := Lib.hid hbd
    have hkd := (hk24.trans hk5 (fun _ _ h => h)).trans KD (fun _ _ h => h)
    have hr3d := Lib.hid (hr3.out.kept (hk5.trans KD (fun _ _ h => h)) (fun _ _ h => h))
    clear KD hb5 hbd hk5 hk24 hb3 hr3 hu2
    generalize w5.drew = wd at *
    refine ⟨fun p hp => by rw [List.mem_singleton] at hp; subst hp; exact c2, ?_⟩
    go_wp2_with ((with_reducible refine at_ 59 rfl ?_); go_must (refine step_lit rfl 29 _ 1 rfl [.slice Am maybe.length cm] rfl rfl (by decide) 38 _ 1 Try.underlying29 row2_bytes (by decide) (by decide) (by intro v hv; rw [List.mem_singleton] at hv; subst hv; rfl) ?_); intro w7 hb7 hk7 hs7; have c17 := hk7.cell c2 (fun h => h))
    refine ⟨fun p hp => by rw [List.mem_singleton] at hp; subst hp; exact c17, ?_⟩
    go_wp2_with (first
      | ((with_reducible refine at_store 29 (.tmp 62) (.tmp 60) rfl ?_); go_must (refine step_store1 rfl _ _ _ rfl y 2 (.slice A8 (k + 1) c8) _ _ rfl rfl rfl hb8 (by simp) info_bytess ?_); intro w9 hb9 hk9 hs9)
      | ((with_reducible refine at_ 60 rfl ?_); go_must (refine step_append_rd (ok2 := fun j => wd.heap.size ≤ j) rfl _ _ _ rfl 38 _ 1 24 Try.underlying29 row_bytes rfl (by decide) (.slice Av k cv) k vs rfl (HOq.out.kept hk7 (fun _ _ h => h)) _ 1 [.slice Am maybe.length cm] rfl (lit_rd rfl hb7 (Nat.le_refl _)) rfl (by intro y hy; rw [List.mem_singleton] at hy; subst hy; rfl) (by simp only [maxLen]; omega) (by omega) ?_); intro v8 w8 hO8 hk8; obtain ⟨A8, c8, rfl, _⟩ := hO8.slice; have hb8 := hk8.heap (hk7.heap HBd.out (fun h => h)) (fun h => nR (HOq.out.2 y h))))
    refine ⟨by rfl, ⟨fun _ => rfl, trivial⟩, ?_⟩
    have hz2 := hk2.size
    have hzd := hkd.size
    obtain ⟨hk9z, hl9⟩ := LifeMem.push (lf := ⟨sure, maybe, true⟩) (t := maybe) (B := w2.heap.size) HBd.out hZy hRZ hTZ nR nT hRT (by rw [← HkE.out]; exact HOq.out) HTq.out HMq.out (fun k h => by have := (HZ.out k h).2; omega) hzd (HMq.out.mono (fun _ h => .inl h)) hk7 (by rw [← HkE.out]; exact hO8) hk8 hb9 hk9
    have hZ0y := hZy
    have hzy := (HZ.out y hZy).2
    simp only at hl9
    rw [← HE.out] at hl9
    have HKz := Lib.hid ((hkd.mono (S' := Z) (fun _ _ h => h.elim)).trans hk9z (fun _ _ h => h))
    have HZn := Lib.hid (show ∀ k, (Z k ∨ (w2.heap.size ≤ k ∧ k < w9.heap.size)) → (Z k ∨ w2.heap.size ≤ k) ∧ k < w9.heap.size from fun k h => by
      have z9 := hk9z.size
      rcases h with h | h
      · exact ⟨.inl h, by have := (HZ.out k h).2; omega⟩
      · exact ⟨.inr h.1, h.2⟩)
    have hr3 := Lib.hid (hr3d.out.kept hk9z (fun k h h' => by have := (HZ.out k h').2; omega))
    rw [HnE.out] at hn1 hn2 hn3 hts4
    clear hk9z hb9 hk9 hO8 hk8 hb7 hk7 c17 HBd HOq HTq HMq hr3d hkd hb8 hZy hRZ hTZ nR nT hRT
    obtain ⟨R2, T2, v2, mv2, vs2, hb9, hZy, hRZ, hTZ, nR, nT, hRT, hO, hTx, hMv⟩ := hl9
    obtain ⟨Av2, cv2, rfl, _⟩ := hO.slice
    have HBq := Lib.hid hb9
    have HOq := Lib.hid hO
    have HTq := Lib.hid hTx
    have HMq := Lib.hid hMv
    clear hb9 hO hTx hMv
    go_wp2_with (first
      | ((with_reducible refine at_store 65 (.tmp 67) (.tmp 65) rfl ?_); go_must (refine step_store1 rfl _ _ _ rfl y 1 (.pointer (some ⟨x, 0, none⟩)) _ _ rfl rfl rfl HBq.out (by simp) info_plog ?_); intro w5 hb5 hk5 hs5)
      | ((with_reducible refine at_store 4 (.tmp 69) (.const (.bool false)) rfl ?_); go_must (refine step_store1 rfl _ _ _ rfl y 4 (.bool false) _ _ rfl rfl rfl hb5 (by simp) info_bool ?_); intro w6 hb6 hk6 hs6; have c2 : w6.cell? ⟨y, 2, none⟩ = some (.slice Av2 ts.length cv2) := (cell_of_row w6 y 2 _ _ _ hb6).trans rfl)
      | (go_at_call 40; (have hz := hb6); clear hz; go_loud (refine Rets.use (same07_self (hr3.out.kept (hk5.trans hk6 (fun _ _ h => h)) (fun k h e => by subst e; omega)) ((rows_of HOq.out HTq.out).kept (hk5.trans hk6 (fun _ _ h => h)) (fun k h e => by subst e; rcases h with h | h; exact nR h; exact nT h)) (by omega) HSm2.out) ?_); rintro _ w7 ⟨rfl, hk7⟩))
    go_ret
    have kst : Keeps (fun k => k = y) w9 w7 := (hk5.trans hk6 (fun _ _ h => h)).trans hk7 (fun _ _ h => h.elim)
    obtain ⟨a, b, c, d, e, f⟩ := WK.open H0.out HL.out (fun k h => ⟨(HP.out k h).1, (HP.out k h).2.1, (HP.out k h).2.2.2⟩) HZ.out hk2 hQ2 hd2
    have z7 := kst.size
    refine ⟨rfl, x, L, s1, WK.told a b hm2 d e f (HKz.out.trans kst (fun k _ e => by subst e; exact hZ0y)) ⟨_, _, _, _, _, hk7.heap hb6 (fun h => h), hZy, hRZ, hTZ, nR, nT, hRT, HOq.out.kept kst (fun k h e => by subst e; exact nR h), HTq.out.kept kst (fun k h e => by subst e; exact nT h), HMq.out.kept kst (fun k h e => by subst e; exact nT h)⟩ (fun k h => ⟨(HZn.out k h).1, by have := (HZn.out k h).2; omega⟩), HK.out⟩
end Go.Proofs.Ytmkpdoljaccpaaa
