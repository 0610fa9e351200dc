/-
  A log: Append.
-/
import Derived.Test.YtbiohidelhfaiaaWalL
namespace Go.Proofs.Ytbiohidelhfaiaa
open Go.RowKit Go.Canon Go.Mem Go.Args
open Go.Disk (St)
set_option linter.unusedVariables false
set_option linter.unusedSimpArgs false
def appendP (s : St) (L : LogS) (b : List Int) : Int × St × LogS :=
  if L.dead = true then (14, s, L) else if 16384 < b.length then (5, s, L)
  else if s.now.length < L.next + spanF (b.length + 20) then (11, s, L)
  else if (layP s L.next (putF ((L.texts.length : Int) + 1) b)).1 = 0 then (0, (layP s L.next (putF ((L.texts.length : Int) + 1) b)).2, ⟨L.texts ++ [b], L.next + spanF (b.length + 20), false⟩)
  else ((layP s L.next (putF ((L.texts.length : Int) + 1) b)).1, (layP s L.next (putF ((L.texts.length : Int) + 1) b)).2, { L with dead := true })
def APost (w : World) (P Q : Nat → Prop) (g x : Nat) (r : Int × St × LogS) : Value → World → Prop := fun v w' => v = .int .i64 r.1 ∧ Keeps (fun k => P k ∨ Q k) w w' ∧ ∃ Q' : Nat → Prop, (∀ k, Q' k → (Q k ∨ w.heap.size ≤ k) ∧ k < w'.heap.size) ∧ DIs w' (fun k => (P k ∨ w.heap.size ≤ k) ∧ ¬ Q' k) g r.2.1 ∧ LogMem w' x Q' g r.2.2
theorem APost.same {w w' : World} {P Q : Nat → Prop} {g x : Nat} {s : St} {L : LogS} {e : Int} (hd : DIs w P g s) (hm : LogMem w x Q g L) (hPQ : ∀ k, P k → ¬ Q k) (hQ : ∀ k, Q k → k < w.heap.size) (hk : Keeps (fun _ => False) w w') : APost w P Q g x (e, s, L) (.int .i64 e) w' :=
  ⟨rfl, hk.mono (fun _ _ h => h.elim), Q, fun k h => ⟨.inl h, Nat.lt_of_lt_of_le (hQ k h) hk.size⟩, (hd.kept hk (fun _ _ h => h)).wide (fun k h => ⟨.inl h, hPQ k h⟩), hm.kept hk (fun _ _ h => h)⟩
set_option maxHeartbeats 3200000 in
set_option maxRecDepth 100000 in
theorem append_c {w : World} {P Q ok : Nat → Prop} {g x : Nat} {s : St} {L : LogS} (hd : DIs w P g s) (hm : LogMem w x Q g L) (hPQ : ∀ k, P k → ¬ Q k) (hQ : ∀ k, Q k → k < w.heap.size) (few : s.opn.length ≤ 900000) (hnx : L.next ≤ s.now.length) (htx : L.texts.length ≤ 4096) (vb : Value) (b : List Int) (hb : Rd w ok vb b.length (Disk.bytes8 b)) (hok : ∀ k, ok k → ¬ P k ∧ ¬ Q k) (hbl : b.length ≤ 1000000) :
    Calls Try.prog 54 #[.pointer (some ⟨x, 0, none⟩), vb] w (Rets (APost w P Q g x (appendP s L b))) := by
  have HD := Lib.hid hd
  have HM := Lib.hid hm
  have hmost := hd.ok.most
  obtain ⟨R, T, v, vs, hbx, hQx, hRQ, hTQ, nR, nT, hRT, hO, hTx⟩ := hm
  obtain ⟨Av, cv, rfl, _⟩ := hO.slice
  obtain ⟨Ab, cb, rfl, _⟩ := hb.slice
  obtain ⟨ts, nx, dead⟩ := L
  simp only at hbx hO hTx hnx htx
  have c0 : w.cell? ⟨x, 0, none⟩ = some (.pointer (some ⟨g, 0, none⟩)) := (cell_of_row w x 0 _ _ _ hbx).trans rfl
  have c1 : w.cell? ⟨x, 1, none⟩ = some (.slice Av ts.length cv) := (cell_of_row w x 1 _ _ _ hbx).trans rfl
  have c2 : w.cell? ⟨x, 2, none⟩ = some (.int .i64 nx) := (cell_of_row w x 2 _ _ _ hbx).trans rfl
  have c3 : w.cell? ⟨x, 3, none⟩ = some (.bool dead) := (cell_of_row w x 3 _ _ _ hbx).trans rfl
  have HRb := Lib.hid hb.lt
  have HBx := Lib.hid hbx
  have HO := Lib.hid hO
  have HTx := Lib.hid hTx
  have HE0 := Lib.hid (show appendP s ⟨ts, nx, dead⟩ b = if dead = true then (14, s, ⟨ts, nx, dead⟩) else if 16384 < b.length then (5, s, ⟨ts, nx, dead⟩) else if s.now.length < nx + spanF (b.length + 20) then (11, s, ⟨ts, nx, dead⟩)
    else if (layP s nx (putF ((ts.length : Int) + 1) b)).1 = 0 then (0, (layP s nx (putF ((ts.length : Int) + 1) b)).2, ⟨ts ++ [b], nx + spanF (b.length + 20), false⟩)
    else ((layP s nx (putF ((ts.length : Int) + 1) b)).1, (layP s nx (putF ((ts.length : Int) + 1) b)).2, ⟨ts, nx, true⟩) from rfl)
  generalize appendP s ⟨ts, nx, dead⟩ b = q at *
  clear hd hb hbx hO hTx
  cases dead with
  | true =>
    have HE := Lib.hid (show q = (14, s, ⟨ts, nx, true⟩) from HE0.out)
    go_enter Try.func54, Try.ntmps54
    go_wp2
    go_ret
    rw [HE.out]
    exact APost.same HD.out HM.out hPQ hQ (Keeps.refl _ _)
  | false =>
    have HE := Lib.hid (show q = if 16384 < b.length then (5, s, ⟨ts, nx, false⟩) else if s.now.length < nx + spanF (b.length + 20) then (11, s, ⟨ts, nx, false⟩)
      else if (layP s nx (putF ((ts.length : Int) + 1) b)).1 = 0 then (0, (layP s nx (putF ((ts.length : Int) + 1) b)).2, ⟨ts ++ [b], nx + spanF (b.length + 20), false⟩)
      else ((layP s nx (putF ((ts.length : Int) + 1) b)).1, (layP s nx (putF ((ts.length : Int) + 1) b)).2, ⟨ts, nx, true⟩) from HE0.out)
    clear HE0
    by_cases hbig : 16384 < b.length
    · rw [if_pos hbig] at HE
      have HP := Lib.hid (fput_big (w := w) ((ts.length : Int) + 1) (by omega) _ b HRb.out hbig)
      go_enter Try.func54, Try.ntmps54
      go_wp2_with (go_at_call 73; go_loud (refine Rets.use HP.out ?_); rintro _ _ ⟨rfl, rfl⟩)
      go_ret
      rw [HE.out]
      exact APost.same HD.out HM.out hPQ hQ (Keeps.refl _ _)
    · rw [if_neg hbig] at HE
      have HP := Lib.hid (fput_c (w := w) ((ts.length : Int) + 1) (by omega) _ b HRb.out (by omega))
      have hfl := putF_len ((ts.length : Int) + 1) b
      generalize putF ((ts.length : Int) + 1) b = f at *
      rw [← hfl] at HE
      have hf1 : 20 ≤ f.length := by omega
      have hf2 : f.length ≤ 16404 := by omega
      clear hfl
      have HSp := Lib.hid (fun w => span_c (w := w) f.length (by omega))
      generalize spanF f.length = sp at *
      go_enter Try.func54, Try.ntmps54
      go_wp2_with (go_at_call 73; go_loud (refine Rets.use HP.out ?_); rintro v1 w1 ⟨hk1, u1, rfl, hO1⟩; obtain ⟨A1, cap1, rfl, _⟩ := hO1.slice; have c0 := hk1.cell c0 (fun h => h); have c1 := hk1.cell c1 (fun h => h); have c2 := hk1.cell c2 (fun h => h); have c3 := hk1.cell c3 (fun h => h))
      have szv := hk1.size
      refine Canon.region [2, 7] [(⟨x, 0, none⟩, .pointer (some ⟨g, 0, none⟩)), (⟨x, 2, none⟩, .int .i64 nx)] [(6, 0), (11, 1)] (.hold [0, 1, 3, 4, 5, 8, 9, 10, 6, 11] (.loud 2 (.loud 7 (.seg [12, 13] .stop)))) (by kernel_rfl) (by kernel_rfl) (by repeat (first | (with_reducible exact Safe.body) | (with_reducible apply Safe.then) | (with_reducible apply Safe.inBlock) | (dsimp +zetaDelta only))) ?_
      simp only [Canon.pick, Canon.wpPlan, List.getElem?_toArray, List.getElem?_cons_zero, List.getElem?_cons_succ]
      have KD : Keeps (fun _ => False) w1 w1.drew := (Keeps.refl _ w1).drew
      have HK1 := Lib.hid (hk1.trans KD (fun _ _ h => h))
      have hsd : w1.drew.heap.size = w1.heap.size := rfl
      have HF1 := Lib.hid (hO1.rd.lt.kept KD (fun _ _ h => h))
      have c0 := KD.cell c0 (fun h => h)
      have c1 := KD.cell c1 (fun h => h)
      have c2 := KD.cell c2 (fun h => h)
      clear KD hk1 hO1 HP
      generalize w1.drew = wz at *
      have HX := Lib.hid (show ∀ p ∈ [((⟨x, 0, none⟩ : Addr), Value.pointer (some ⟨g, 0, none⟩)), (⟨x, 2, none⟩, .int .i64 nx)], wz.cell? p.1 = some p.2 by
        intro p hp
        simp only [List.mem_cons, List.not_mem_nil, or_false] at hp
        rcases hp with rfl | rfl
        · exact c0
        · exact c2)
      have HDz := Lib.hid (HD.out.bound.kept HK1.out (fun _ _ h => h))
      have HMz := Lib.hid (HM.out.kept HK1.out (fun _ _ h => h))
      have HSec := Lib.hid (dSectors_c HDz.out)
      have HLy := Lib.hid (lay_c (P := fun k => P k ∧ k < w.heap.size) HDz.out HMz.out (fun k h => hPQ k h.1) (fun k h => by have := hQ k h; omega) few (by simp only; omega) _ f HF1.out (fun k h h' => by have := h'.2; omega) hf1 hf2)
      simp only at HLy
      generalize hN : s.now.length = N at *
      clear hN
      refine ⟨HX.out, ?_⟩
      go_wp2_with (go_at_call 71; go_loud (refine Rets.use (HSp.out _) ?_); rintro _ _ ⟨rfl, rfl⟩)
      refine ⟨HX.out, ?_⟩
      go_wp2_with (go_at_call 67; go_loud (refine Rets.use HSec.out ?_); rintro _ _ ⟨rfl, rfl⟩)
      refine ⟨HX.out, ?_⟩
      go_wp2
      refine ⟨by rfl, ⟨fun _ => rfl, ⟨fun _ => rfl, trivial⟩⟩, ?_⟩
      by_cases hfull : N < nx + sp
      · rw [if_pos hfull] at HE
        have hfi : (N : Int) - nx < sp := by omega
        go_wp2
        go_ret
        rw [HE.out]
        exact APost.same HD.out HM.out hPQ hQ HK1.out
      · rw [if_neg hfull] at HE
        have hfi : ¬ ((N : Int) - nx < sp) := by omega
        have hxw := hQ x hQx
        have hxP : ¬ P x := fun h => hPQ x h hQx
        by_cases he : (layP s nx f).1 = 0
        · rw [if_pos he] at HE
          rw [he] at HLy
          generalize (layP s nx f).2 = s5 at *
          have HBz := Lib.hid (HK1.out.heap HBx.out (fun h => h))
          obtain ⟨nj, hnj⟩ : ∃ nj, nj = nx + sp := ⟨_, rfl⟩
          have esum : (nx : Int) + sp = (nj : Int) := by omega
          have hnjN : nj ≤ N := by omega
          rw [← hnj] at HE
          clear hnj
          go_wp2_with (go_at_call 74; go_loud (refine Rets.use HLy.out ?_); rintro v5 w5 ⟨rfl, hd5, hk5⟩)
          have KD5 : Keeps (fun _ => False) w5 w5.drew := (Keeps.refl _ w5).drew
          have hb5 := KD5.heap (hk5.heap HBz.out (fun h => hxP h.1)) (fun h => h)
          have c1 : w5.drew.cell? ⟨x, 1, none⟩ = some (.slice Av ts.length cv) := (cell_of_row w5.drew x 1 _ _ _ hb5).trans rfl
          have hd5d := hd5.kept KD5 (fun _ _ h => h)
          have hk5d := hk5.trans KD5 (fun _ _ h => h.elim)
          have hsd5 : w5.drew.heap.size = w5.heap.size := rfl
          have z5 := hk5.size
          refine Canon.region [6, 7] [(⟨x, 1, none⟩, .slice Av ts.length cv)] [(4, 0)] (.hold [0, 1, 2, 3, 5, 4] (.loud 6 (.loud 7 (.seg [8, 9, 10, 11] .stop)))) (by kernel_rfl) (by kernel_rfl) (by repeat (first | (with_reducible exact Safe.body) | (with_reducible apply Safe.then) | (with_reducible apply Safe.inBlock) | (dsimp +zetaDelta only))) ?_
          simp only [Canon.pick, Canon.wpPlan, List.getElem?_toArray, List.getElem?_cons_zero, List.getElem?_cons_succ]
          have HRP := Lib.hid (show ∀ k, Q k → ¬ (P k ∧ k < w.heap.size) from fun k h h' => hPQ k h'.1 h)
          have HOq := Lib.hid (((HO.out.kept HK1.out (fun _ _ h => h)).kept hk5d (fun k h => HRP.out k (hRQ k h))))
          have HTq := Lib.hid (((HTx.out.kept HK1.out (fun _ _ h => h)).kept hk5d (fun k h => HRP.out k (hTQ k h))))
          have HRb5 := Lib.hid ((HRb.out.kept HK1.out (fun _ _ h => h)).kept hk5d (fun k h h' => (hok k h.1).1 h'.1))
          have HD5 := Lib.hid hd5d
          have HK5 := Lib.hid hk5d
          have HB5 := Lib.hid hb5
          clear hd5 hk5 hd5d hk5d hb5 KD5 HLy HDz HMz HSec HX
          generalize w5.drew = wq at *
          have HC := Lib.hid (clone_c (w := wq) _ b HRb5.out (by omega))
          refine ⟨fun p hp => by rw [List.mem_singleton] at hp; subst hp; exact c1, ?_⟩
          go_wp2_with (go_at_call 64; go_loud (refine Rets.use HC.out ?_); rintro v6 w6 ⟨hO6, hk6⟩; have c16 := hk6.cell c1 (fun h => h))
          refine ⟨fun p hp => by rw [List.mem_singleton] at hp; subst hp; exact c16, ?_⟩
          go_wp2_with ((with_reducible refine at_ 66 rfl ?_); go_must (refine step_lit rfl 103 _ 1 rfl [v6] rfl rfl (by decide) 23 _ 1 Try.underlying103 row2_bytes (by decide) (by decide) (by intro v hv; rw [List.mem_singleton] at hv; subst hv; exact one_size (Rd.one hO6.rd)) ?_); intro w7 hb7 hk7 hs7; have c17 := hk7.cell c16 (fun h => h))
          refine ⟨fun p hp => by rw [List.mem_singleton] at hp; subst hp; exact c17, ?_⟩
          go_wp2_with (first
            | ((with_reducible refine at_store 103 (.tmp 69) (.tmp 67) rfl ?_); go_must (refine step_store1 rfl _ _ _ rfl x 1 (.slice A8 (ts.length + 1) c8) _ _ rfl rfl rfl hb8 (by simp) info_bytess ?_); intro w9 hb9 hk9 hs9)
            | ((with_reducible refine at_ 67 rfl ?_); go_must (refine step_append_rd (ok2 := fun j => w6.heap.size ≤ j) rfl _ _ _ rfl 23 _ 1 24 Try.underlying103 row_bytes rfl (by decide) (.slice Av ts.length cv) ts.length vs rfl ((HOq.out.kept hk6 (fun _ _ h => h)).kept hk7 (fun _ _ h => h)) _ 1 [v6] rfl (lit_rd (Rd.one hO6.rd) hb7 (Nat.le_refl _)) rfl (by intro y hy; rw [List.mem_singleton] at hy; subst hy; exact Rd.one hO6.rd) (by simp only [maxLen]; omega) (by omega) ?_); intro v8 w8 hO8 hk8; obtain ⟨A8, c8, rfl, _⟩ := hO8.slice; have hb8 := hk8.heap (hk7.heap (hk6.heap HB5.out (fun h => h)) (fun h => h)) (fun h => nR (HOq.out.2 x h))))
          refine ⟨by rfl, ⟨fun _ => rfl, trivial⟩, ?_⟩
          go_wp2
          refine Canon.region [6] [(⟨x, 2, none⟩, .int .i64 nx)] [(3, 0)] (.hold [0, 1, 2, 4, 5, 3] (.loud 6 (.seg [7, 8, 9, 10] .stop))) (by kernel_rfl) (by kernel_rfl) (by repeat (first | (with_reducible exact Safe.body) | (with_reducible apply Safe.then) | (with_reducible apply Safe.inBlock) | (dsimp +zetaDelta only))) ?_
          simp only [Canon.pick, Canon.wpPlan, List.getElem?_toArray, List.getElem?_cons_zero, List.getElem?_cons_succ]
          have KD9 : Keeps (fun _ => False) w9 w9.drew := (Keeps.refl _ w9).drew
          have hb9d := KD9.heap hb9 (fun h => h)
          have c2 : w9.drew.cell? ⟨x, 2, none⟩ = some (.int .i64 nx) := (cell_of_row w9.drew x 2 _ _ _ hb9d).trans rfl
          have z9 := KD9.size
          generalize w9.drew = wy at *
          refine ⟨fun p hp => by rw [List.mem_singleton] at hp; subst hp; exact c2, ?_⟩
          go_wp2_with (go_at_call 71; go_loud (refine Rets.use (HSp.out _) ?_); rintro _ _ ⟨rfl, rfl⟩)
          refine ⟨fun p hp => by rw [List.mem_singleton] at hp; subst hp; exact c2, ?_⟩
          go_wp2_with ((with_reducible refine at_store 3 (.tmp 79) (.tmp 77) rfl ?_); go_must (refine step_store1 rfl _ _ _ rfl x 2 (.int .i64 (nj : Int)) _ _ rfl rfl rfl hb9d (by simp) info_int ?_); intro w10 hb10 hk10 hs10)
          refine ⟨by rfl, ⟨fun _ => rfl, trivial⟩, ?_⟩
          go_wp2
          go_ret
          rw [HE.out]
          have z6 := hk6.size
          have z7 := hk7.size
          have z8 := hk8.size
          have z9' := hk9.size
          have z10 := hk10.size
          have szq := HK5.out.size
          have kA : Keeps (fun k => k = x) w8 w10 := (hk9.trans KD9 (fun _ _ h => h.elim)).trans hk10 (fun _ _ h => h)
          have kB : Keeps (fun k => k = x ∨ R k) w6 w10 := ((hk7.mono (fun _ _ h => h.elim)).trans hk8 (fun k _ h => .inr (HOq.out.2 k h))).trans kA (fun k _ h => .inl h)
          have kC : Keeps (fun k => k = x ∨ R k) wq w10 := (hk6.mono (fun _ _ h => h.elim)).trans kB (fun _ _ h => h)
          have hRw : ∀ k, R k → k < w.heap.size := fun k h => hQ k (hRQ k h)
          have hTw : ∀ k, T k → k < w.heap.size := fun k h => hQ k (hTQ k h)
          refine ⟨rfl, ((HK1.out.mono (fun _ _ h => h.elim)).trans HK5.out (fun k _ h => .inl h.1)).trans kC (fun k _ h => .inr (by rcases h with h | h; subst h; exact hQx; exact hRQ k h)), fun k => Q k ∨ (wq.heap.size ≤ k ∧ k < w10.heap.size), fun k h => ?_, (HD5.out.bound.kept kC (fun k h h' => ?_)).wide (fun k h => ?_), ⟨fun k => R k ∨ (w7.heap.size ≤ k ∧ k < w8.heap.size), fun k => T k ∨ (wq.heap.size ≤ k ∧ k < w6.heap.size), _, vs ++ [v6], hb10, .inl hQx, ?_, ?_, ?_, ?_, ?_, ?_, ?_⟩⟩
          · rcases h with h | h
            · exact ⟨.inl h, by have := hQ k h; omega⟩
            · exact ⟨.inr (by omega), h.2⟩
          · rcases h.1 with h1 | h1
            · rcases h' with h' | h'
              · subst h'; exact hxP h1.1
              · exact hPQ k h1.1 (hRQ k h')
            · rcases h' with h' | h'
              · omega
              · have := hRw k h'; omega
          · refine ⟨?_, ?_⟩
            · rcases h.1 with h1 | h1
              · exact .inl h1.1
              · exact .inr (by omega)
            · rintro (h2 | h2)
              · rcases h.1 with h1 | h1
                · exact hPQ k h1.1 h2
                · have := hQ k h2; omega
              · have := h.2; omega
          · rintro k (h | h)
            · exact .inl (hRQ k h)
            · exact .inr (by omega)
          · rintro k (h | h)
            · exact .inl (hTQ k h)
            · exact .inr (by omega)
          · rintro (h | h)
            · exact nR h
            · omega
          · rintro (h | h)
            · exact nT h
            · omega
          · rintro k (h | h) (h' | h')
            · exact hRT k h h'
            · have := hRw k h; omega
            · have := hTw k h'; omega
            · omega
          · simp only [List.length_append, List.length_singleton]
            refine (hO8.mono (ok' := fun k => R k ∨ (w7.heap.size ≤ k ∧ k < w8.heap.size)) (fun k hk h => ?_)).kept kA (fun k hk e => ?_)
            · rcases h with h | h
              · exact .inl h
              · exact .inr ⟨h, hk⟩
            · subst e
              rcases hk with h | h
              · exact nR h
              · omega
          · have hU : ∀ k, (T k ∨ (wq.heap.size ≤ k ∧ k < w6.heap.size)) → ¬ (k = x ∨ R k) := by
              rintro k (h | h) (h' | h')
              · subst h'; exact nT h
              · exact hRT k h' h
              · omega
              · have := hRw k h'; omega
            exact (((HTq.out.kept hk6 (fun _ _ h => h)).mono (T' := fun k => T k ∨ (wq.heap.size ≤ k ∧ k < w6.heap.size)) (fun k h => .inl h)).kept kB hU).push ((hO6.rd.lt.mono (ok' := fun k => T k ∨ (wq.heap.size ≤ k ∧ k < w6.heap.size)) (fun k h => .inr h)).kept kB hU)
        · rw [if_neg he] at HE
          have hen : ((layP s nx f).1 != 0) = true := by simpa using he
          clear he
          generalize layP s nx f = r at *
          obtain ⟨e, s5⟩ := r
          simp only at hen HE HLy
          have HBz := Lib.hid (HK1.out.heap HBx.out (fun h => h))
          go_wp2_with (first
            | ((with_reducible refine at_store 4 (.tmp 57) (.const (.bool true)) rfl ?_); go_must (refine step_store1 rfl _ _ _ rfl x 3 (.bool true) _ _ rfl rfl rfl hb5 (by simp) info_bool ?_); intro w6 hb6 hk6 hs6)
            | (go_at_call 74; go_loud (refine Rets.use HLy.out ?_); rintro v5 w5 ⟨rfl, hd5, hk5⟩; have hb5 := hk5.heap HBz.out (fun h => hxP h.1); have c0 := hk5.cell c0 (fun h => hxP h.1)))
          go_ret
          rw [HE.out]
          have z5 := hk5.size
          have z6 := hk6.size
          have hRP : ∀ k, Q k → ¬ (P k ∧ k < w.heap.size) := fun k h h' => hPQ k h'.1 h
          refine ⟨rfl, ((HK1.out.mono (fun _ _ h => h.elim)).trans hk5 (fun k _ h => .inl h.1)).trans hk6 (fun k _ h => .inr (by subst h; exact hQx)), Q, fun k h => ⟨.inl h, by have := hQ k h; omega⟩, (hd5.kept hk6 (fun k h e => ?_)).wide (fun k h => ?_), ⟨R, T, _, vs, hb6, hQx, hRQ, hTQ, nR, nT, hRT, ?_, ?_⟩⟩
          · subst e
            rcases h with h | h
            · exact hxP h.1
            · omega
          · rcases h with h | h
            · exact ⟨.inl h.1, hPQ k h.1⟩
            · exact ⟨.inr (by omega), fun h' => by have := hQ k h'; omega⟩
          · exact ((HO.out.kept HK1.out (fun _ _ h => h)).kept hk5 (fun k h => hRP k (hRQ k h))).kept hk6 (fun k h e => by subst e; exact nR h)
          · exact ((HTx.out.kept HK1.out (fun _ _ h => h)).kept hk5 (fun k h => hRP k (hTQ k h))).kept hk6 (fun k h e => by subst e; exact nT h)
end Go.Proofs.Ytbiohidelhfaiaa
