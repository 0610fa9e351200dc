/-
  A log: Open.
-/
import Derived.Test.YtbiohidelhfaiaaWalO
namespace Go.Proofs.Ytbiohidelhfaiaa
open Go.RowKit Go.Canon Go.Mem Go.Args
open Go.Disk (St)
set_option linter.unusedVariables false
set_option linter.unusedSimpArgs false
def openP (s : St) : Int × Option LogS × St :=
  if s.off = true then (14, none, s) else
  match scan (flatS s.now) s.now.length (s.now.length + 1) [] 0 with
  | none => (13, none, s)
  | some (ls, nx) => if (wipeP s (flatS s.now) nx).1 = 0 then (0, some ⟨ls, nx, false⟩, (wipeP s (flatS s.now) nx).2) else ((wipeP s (flatS s.now) nx).1, none, (wipeP s (flatS s.now) nx).2)
def OpenPost (w : World) (P : Nat → Prop) (g : Nat) (r : Int × Option LogS × St) : Value → World → Prop := fun v w' => Keeps P w w' ∧ ∃ Q : Nat → Prop, (∀ k, Q k → w.heap.size ≤ k ∧ k < w'.heap.size) ∧ DIs w' (fun k => (P k ∨ w.heap.size ≤ k) ∧ ¬ Q k) g r.2.2 ∧
  ((r.2.1 = none ∧ v = .tuple #[.pointer none, .int .i64 r.1]) ∨ ∃ (L : LogS) (x : Nat), r.2.1 = some L ∧ v = .tuple #[.pointer (some ⟨x, 0, none⟩), .int .i64 r.1] ∧ LogMem w' x Q g L)
theorem info_bytess : (Try.prog.info? 103).map (·.size) = some 1 := by kernel_rfl
set_option maxHeartbeats 3200000 in
set_option maxRecDepth 100000 in
theorem wopen_c {w : World} {P : Nat → Prop} {g : Nat} {s : St} (h : DIs w P g s) (few : s.opn.length ≤ 900000) (hB : IsB (flatS s.now)) : Calls Try.prog 50 #[.pointer (some ⟨g, 0, none⟩)] w (Rets (OpenPost w P g (openP s))) := by
  have HH := Lib.hid h
  have hmost := h.ok.most
  have hN0 : ((s.now.length : Int) == 0) = false := beq_eq_false_iff_ne.2 (by have := h.ok.pos; omega)
  have HS := Lib.hid (dSectors_c h)
  have HR := Lib.hid (wread_c h)
  have HAL := Lib.hid (flatS_len h.ok.n64)
  have HB := Lib.hid hB
  have hPb : DIs w (fun k => P k ∧ k < w.heap.size) g s := h.bound
  have HPb := Lib.hid hPb
  cases ho : s.off with
  | true =>
    have HQ := Lib.hid (show openP s = (14, none, s) by unfold openP; rw [if_pos ho])
    have HO := Lib.hid ho
    clear h hB hPb ho
    go_enter Try.func50, Try.ntmps50
    go_wp2_with (first
      | (go_at_call 68; go_loud (refine Rets.use HR.out ?_); rintro v2 w2 ⟨hk2, hv⟩; obtain ⟨_, rfl⟩ := hv.resolve_right (fun h => by have := h.1; rw [HO.out] at this; cases this))
      | (go_at_call 67; go_loud (refine Rets.use HS.out ?_); rintro _ _ ⟨rfl, rfl⟩))
    go_ret2
    rw [HQ.out]
    exact ⟨hk2.mono (fun _ _ h => h.elim), fun _ => False, fun _ h => h.elim, (HH.out.kept hk2 (fun _ _ h => h)).wide (fun k h => ⟨.inl h, fun h => h⟩), .inl ⟨rfl, rfl⟩⟩
  | false =>
    have HO := Lib.hid ho
    have HQ0 := Lib.hid (show openP s = match scan (flatS s.now) s.now.length (s.now.length + 1) [] 0 with
      | none => (13, none, s)
      | some (ls, nx) => if (wipeP s (flatS s.now) nx).1 = 0 then (0, some ⟨ls, nx, false⟩, (wipeP s (flatS s.now) nx).2) else ((wipeP s (flatS s.now) nx).1, none, (wipeP s (flatS s.now) nx).2) by unfold openP; rw [if_neg (by rw [ho]; simp)])
    generalize openP s = q at *
    clear h hB hPb ho
    go_enter Try.func50, Try.ntmps50
    go_wp2_with (first
      | (go_at_call 68; go_loud (refine Rets.use HR.out ?_); rintro v2 w2 ⟨hk2, hv⟩; obtain ⟨_, u2, rfl, hO2⟩ := hv.resolve_left (fun h => by have := h.1; rw [HO.out] at this; cases this))
      | (go_at_call 67; go_loud (refine Rets.use HS.out ?_); rintro _ _ ⟨rfl, rfl⟩))
    have sz2 := hk2.size
    obtain ⟨b, o, c, rfl, hcap, _, _⟩ := hO2.rd.at (by intro e; have := congrArg List.length e; rw [Disk.bytes8_len, HAL.out, List.length_nil] at this; have := HH.out.ok.pos; omega)
    have HRa := Lib.hid hO2.rd.lt
    have HK2 := Lib.hid hk2
    have HM0 := Lib.hid (show LogMem (w2.alloc (Obj.cells #[.pointer (some ⟨g, 0, none⟩), .slice none 0 0, .int .i64 0, .bool false] 127)) w2.heap.size (fun k => w2.heap.size ≤ k ∧ k < w2.heap.size + 1) g ⟨[], 0, false⟩ from
      ⟨fun _ => False, fun _ => False, .slice none 0 0, [], heap_alloc_new w2 _, ⟨Nat.le_refl _, Nat.lt_succ_self _⟩, fun _ h => h.elim, fun _ h => h.elim, fun h => h, fun h => h, fun _ h => h.elim, OwnRow.nil _ _ _ _, rfl, fun i l hi => by simp at hi⟩)
    have HKa := Lib.hid ((Keeps.refl (fun _ => False) w2).alloc (Obj.cells #[.pointer (some ⟨g, 0, none⟩), .slice none 0 0, .int .i64 0, .bool false] 127))
    obtain ⟨x, hx⟩ : ∃ x, x = w2.heap.size := ⟨_, rfl⟩
    rw [← hx] at HM0 ⊢
    have HX := Lib.hid hx
    clear hx hO2 hk2 hv HR
    generalize hal : flatS s.now = all at *
    have HA := Lib.hid hal
    clear hal
    generalize hn : s.now.length = N at *
    have HN := Lib.hid hn
    clear hn
    go_loopw [7] (fun _ wr => ∃ (ls : List (List Int)) (nx f : Nat), nx ≤ N ∧ N - nx < f ∧ ls.length ≤ nx ∧ Hid (scan all N (N + 1) [] 0 = scan all N f ls nx) ∧ LogMem wr x (fun k => x ≤ k ∧ k < wr.heap.size) g ⟨ls, nx, false⟩ ∧ Keeps (fun _ => False) w2 wr) (fun _ wr => N - (intOf ((wr.cell? ⟨x, 2, none⟩).getD undef)).toNat)
    case atStart => exact ⟨[], 0, N + 1, Nat.zero_le _, by omega, Nat.le_refl _, Lib.hid rfl, HM0.out.wide (fun k h => ⟨h.1, by simp only [World.alloc, Array.size_push]; have := HX.out; omega⟩), HKa.out⟩
    case round =>
      obtain ⟨ls, nx, f, hnx, hf, hls, HSc, hM, hK⟩ := hrel
      obtain ⟨R, T, v, vs, hbx, hQx, hRQ, hTQ, nR, nT, hRT, hO, hTx⟩ := hM
      obtain ⟨Av, cv, rfl, _⟩ := hO.slice
      simp only at hbx hO hTx
      have HBx := Lib.hid hbx
      have HCw := Lib.hid (show wr.cell? ⟨x, 2, none⟩ = some (.int .i64 nx) from (cell_of_row wr x 2 _ _ _ hbx).trans rfl)
      have HO := Lib.hid hO
      have HTx := Lib.hid hTx
      have HK := Lib.hid hK
      have szk := hK.size
      clear hbx hO hTx hK HM0 HKa
      by_cases hlt : nx < N
      · have hd : (nx : Int) < N := by omega
        have hpl : 64 * nx + 64 ≤ all.length := by have := HAL.out; omega
        have hsl : (secF all nx).length = 64 := by unfold secF; rw [List.length_take, List.length_drop]; omega
        cases hb : blankF (secF all nx) with
        | true =>
          have HNo := Lib.hid (show ¬ (nx < N ∧ blankF (secF all nx) = false) by rw [hb]; simp)
          go_wp2
          refine Canon.region [5] [(⟨x, 2, none⟩, .int .i64 nx)] [(3, 0)] (.hold [0, 1, 2, 4, 3] (.loud 5 (.seg [6, 7, 8, 9, 10, 11, 14, 15, 16, 12, 13, 17, 18, 19, 20, 21, 22, 23] .stop))) (by kernel_rfl) (by kernel_rfl) (by repeat (first | (with_reducible exact Safe.body) | (with_reducible apply Safe.then) | (with_reducible apply Safe.inBlock) | (dsimp +zetaDelta only))) ?_
          simp only [Canon.pick, Canon.wpPlan, List.getElem?_toArray, List.getElem?_cons_zero, List.getElem?_cons_succ]
          have KD : Keeps (fun _ => False) wr wr.drew := (Keeps.refl _ wr).drew
          have hsd : wr.drew.heap.size = wr.heap.size := rfl
          have HBx := Lib.hid (KD.heap HBx.out (fun h => h))
          have HO := Lib.hid (HO.out.kept KD (fun _ _ h => h))
          have HTx := Lib.hid (HTx.out.kept KD (fun _ _ h => h))
          have HK := Lib.hid (HK.out.trans KD (fun _ _ h => h))
          clear KD
          generalize wr.drew = wd at *
          have cx0 : wd.cell? ⟨x, 0, none⟩ = some (.pointer (some ⟨g, 0, none⟩)) := (cell_of_row wd x 0 _ _ _ HBx.out).trans rfl
          have cx1 : wd.cell? ⟨x, 1, none⟩ = some (.slice Av ls.length cv) := (cell_of_row wd x 1 _ _ _ HBx.out).trans rfl
          have cx2 : wd.cell? ⟨x, 2, none⟩ = some (.int .i64 nx) := (cell_of_row wd x 2 _ _ _ HBx.out).trans rfl
          have HSr := Lib.hid (show Calls Try.prog 67 #[.pointer (some ⟨g, 0, none⟩)] wd (Rets (Only (.int .i64 N) wd)) by rw [← HN.out]; exact dSectors_c (HH.out.kept (HK2.out.trans HK.out (fun _ _ h => h)) (fun _ _ h => h)))
          have HRd := Lib.hid (HRa.out.kept HK.out (fun _ _ h => h))
          refine ⟨fun p hp => by rw [List.mem_singleton] at hp; subst hp; exact cx2, ?_⟩
          go_wp2_with (go_at_call 67; refine Rets.use HSr.out ?_; rintro _ _ ⟨rfl, rfl⟩)
          refine ⟨fun p hp => by rw [List.mem_singleton] at hp; subst hp; exact cx2, ?_⟩
          have HBl := Lib.hid (show Calls Try.prog 69 #[.slice (some ⟨b, o + 64 * nx, none⟩) 64 (c - 64 * nx)] wd (Rets (Only (.bool true) wd)) by
            rw [← hb]
            have h1 := Rd.part HRd.out (64 * nx) 64 hpl (c - 64 * nx) (by omega)
            have h2 : Rd wd (fun k => w.heap.size ≤ k ∧ k < w2.heap.size) (.slice (some ⟨b, o + 64 * nx, none⟩) 64 (c - 64 * nx)) (secF all nx).length (Disk.bytes8 (secF all nx)) := by
              rw [hsl]
              unfold secF
              simpa [Disk.bytes8, List.map_take, List.map_drop] using h1
            exact blank_c _ (secF all nx) h2 (by omega))
          have q3 : 64 * (nx + 1) - 64 * nx = 64 := by omega
          go_wp2_with (go_at_call 69; go_loud (try rw [q3]); go_loud (refine Rets.use HBl.out ?_); rintro _ _ ⟨rfl, rfl⟩)
          clear HBl q3
          refine ⟨by rfl, ⟨fun _ => rfl, trivial⟩, ?_⟩
          clear cx0 cx1 hb
          have HScn := Lib.hid (show scan all N (N + 1) [] 0 = some (ls, nx) by
            rw [HSc.out]
            obtain ⟨f', rfl⟩ : ∃ f', f = f' + 1 := ⟨f - 1, by omega⟩
            rw [scan, if_neg HNo.out])
          have HQ1 := Lib.hid (show q = if (wipeP s all nx).1 = 0 then (0, some ⟨ls, nx, false⟩, (wipeP s all nx).2) else ((wipeP s all nx).1, none, (wipeP s all nx).2) by have := HQ0.out; rw [HScn.out] at this; exact this)
          have HM9 := Lib.hid (show LogMem wd x (fun k => x ≤ k ∧ k < wd.heap.size) g ⟨ls, nx, false⟩ from ⟨R, T, _, vs, HBx.out, ⟨hQx.1, by omega⟩, fun k hk => ⟨(hRQ k hk).1, by have := (hRQ k hk).2; omega⟩, fun k hk => ⟨(hTQ k hk).1, by have := (hTQ k hk).2; omega⟩, nR, nT, hRT, HO.out, HTx.out⟩)
          have hKw := HK2.out.trans HK.out (fun _ _ h => h)
          have HKw := Lib.hid hKw
          have HWp := Lib.hid (wipe_c (HPb.out.kept hKw (fun _ _ h => h)) few _ all HRd.out (fun k h h' => by have := h.1; have := h'.2; omega) (by rw [HN.out]; exact HAL.out) nx (by rw [HN.out]; omega))
          have hxw : w.heap.size ≤ x := by have := HX.out; omega
          have szw := hKw.size
          clear HSc HScn HNo HQ0 HTx HO HBx hKw HRd HSr hQx hRQ hTQ nR nT hRT
          have HEnd := Lib.hid (fun (w5 : World) (s5 : St) (L : Option LogS) (hd : DIs w5 (fun k => (P k ∧ k < w.heap.size) ∨ wd.heap.size ≤ k) g s5) (hk5 : Keeps (fun k => P k ∧ k < w.heap.size) wd w5) => (show Keeps P w w5 ∧ (∀ k, (x ≤ k ∧ k < wd.heap.size) → w.heap.size ≤ k ∧ k < w5.heap.size) ∧ DIs w5 (fun k => (P k ∨ w.heap.size ≤ k) ∧ ¬ (x ≤ k ∧ k < wd.heap.size)) g s5 ∧ LogMem w5 x (fun k => x ≤ k ∧ k < wd.heap.size) g ⟨ls, nx, false⟩ from
            ⟨(HKw.out.mono (fun _ _ h => h.elim)).trans hk5 (fun k _ h => h.1), fun k h => ⟨by omega, by have := hk5.size; omega⟩, hd.wide (fun k h => by rcases h with h | h; exact ⟨.inl h.1, fun h' => by have := h.2; omega⟩; exact ⟨.inr (by omega), fun h' => by omega⟩), HM9.out.kept hk5 (fun k h h' => by have := h'.2; omega)⟩))
          generalize wipeP s all nx = r at *
          obtain ⟨e, s5⟩ := r
          simp only at HQ1 HWp
          by_cases he : e = 0
          · subst he
            have HQ1 := Lib.hid (show q = (0, some ⟨ls, nx, false⟩, s5) from HQ1.out)
            go_wp2_with (go_at_call 72; go_loud (refine Rets.use HWp.out ?_); rintro v5 w5 ⟨rfl, hd5, hk5⟩)
            go_ret2
            rw [HQ1.out]
            obtain ⟨h1, h2, h3, h4⟩ := HEnd.out w5 s5 none hd5 hk5
            exact ⟨h1, _, h2, h3, .inr ⟨_, x, rfl, rfl, h4⟩⟩
          · have HQ1 := Lib.hid (show q = (e, none, s5) by have := HQ1.out; rwa [if_neg he] at this)
            have hen : (e != 0) = true := by simpa using he
            clear he
            go_wp2_with (go_at_call 72; go_loud (refine Rets.use HWp.out ?_); rintro v5 w5 ⟨rfl, hd5, hk5⟩)
            go_ret2
            rw [HQ1.out]
            obtain ⟨h1, h2, h3, h4⟩ := HEnd.out w5 s5 none hd5 hk5
            exact ⟨h1, _, h2, h3, .inl ⟨rfl, rfl⟩⟩
        | false =>
          have HYes := Lib.hid (show nx < N ∧ blankF (secF all nx) = false from ⟨hlt, hb⟩)
          go_wp2
          refine Canon.region [5] [(⟨x, 2, none⟩, .int .i64 nx)] [(3, 0)] (.hold [0, 1, 2, 4, 3] (.loud 5 (.seg [6, 7, 8, 9, 10, 11, 14, 15, 16, 12, 13, 17, 18, 19, 20, 21, 22, 23] .stop))) (by kernel_rfl) (by kernel_rfl) (by repeat (first | (with_reducible exact Safe.body) | (with_reducible apply Safe.then) | (with_reducible apply Safe.inBlock) | (dsimp +zetaDelta only))) ?_
          simp only [Canon.pick, Canon.wpPlan, List.getElem?_toArray, List.getElem?_cons_zero, List.getElem?_cons_succ]
          have KD : Keeps (fun _ => False) wr wr.drew := (Keeps.refl _ wr).drew
          have hsd : wr.drew.heap.size = wr.heap.size := rfl
          have HBx := Lib.hid (KD.heap HBx.out (fun h => h))
          have HO := Lib.hid (HO.out.kept KD (fun _ _ h => h))
          have HTx := Lib.hid (HTx.out.kept KD (fun _ _ h => h))
          have HK := Lib.hid (HK.out.trans KD (fun _ _ h => h))
          clear KD
          generalize wr.drew = wd at *
          have cx0 : wd.cell? ⟨x, 0, none⟩ = some (.pointer (some ⟨g, 0, none⟩)) := (cell_of_row wd x 0 _ _ _ HBx.out).trans rfl
          have cx1 : wd.cell? ⟨x, 1, none⟩ = some (.slice Av ls.length cv) := (cell_of_row wd x 1 _ _ _ HBx.out).trans rfl
          have cx2 : wd.cell? ⟨x, 2, none⟩ = some (.int .i64 nx) := (cell_of_row wd x 2 _ _ _ HBx.out).trans rfl
          have HSr := Lib.hid (show Calls Try.prog 67 #[.pointer (some ⟨g, 0, none⟩)] wd (Rets (Only (.int .i64 N) wd)) by rw [← HN.out]; exact dSectors_c (HH.out.kept (HK2.out.trans HK.out (fun _ _ h => h)) (fun _ _ h => h)))
          have HRd := Lib.hid (HRa.out.kept HK.out (fun _ _ h => h))
          refine ⟨fun p hp => by rw [List.mem_singleton] at hp; subst hp; exact cx2, ?_⟩
          go_wp2_with (go_at_call 67; refine Rets.use HSr.out ?_; rintro _ _ ⟨rfl, rfl⟩)
          refine ⟨fun p hp => by rw [List.mem_singleton] at hp; subst hp; exact cx2, ?_⟩
          have HBl := Lib.hid (show Calls Try.prog 69 #[.slice (some ⟨b, o + 64 * nx, none⟩) 64 (c - 64 * nx)] wd (Rets (Only (.bool false) wd)) by
            rw [← hb]
            have h1 := Rd.part HRd.out (64 * nx) 64 hpl (c - 64 * nx) (by omega)
            have h2 : Rd wd (fun k => w.heap.size ≤ k ∧ k < w2.heap.size) (.slice (some ⟨b, o + 64 * nx, none⟩) 64 (c - 64 * nx)) (secF all nx).length (Disk.bytes8 (secF all nx)) := by
              rw [hsl]
              unfold secF
              simpa [Disk.bytes8, List.map_take, List.map_drop] using h1
            exact blank_c _ (secF all nx) h2 (by omega))
          have q3 : 64 * (nx + 1) - 64 * nx = 64 := by omega
          go_wp2_with (go_at_call 69; go_loud (try rw [q3]); go_loud (refine Rets.use HBl.out ?_); rintro _ _ ⟨rfl, rfl⟩)
          clear HBl q3
          refine ⟨by rfl, ⟨fun _ => rfl, trivial⟩, ?_⟩
          have HUp := Lib.hid (show scan all N (N + 1) [] 0 = (if (readF (all.drop (64 * nx))).2.2.2 = 0 ∧ (readF (all.drop (64 * nx))).1 = (ls.length : Int) + 1 then scan all N (f - 1) (ls ++ [(readF (all.drop (64 * nx))).2.1]) (nx + spanF (readF (all.drop (64 * nx))).2.2.1.toNat) else none) by
            rw [HSc.out]
            obtain ⟨f', rfl⟩ : ∃ f', f = f' + 1 := ⟨f - 1, by omega⟩
            rw [scan, if_pos HYes.out]; rfl)
          have hll : (all.drop (64 * nx)).length = all.length - 64 * nx := List.length_drop
          have HFr := Lib.hid (show Calls Try.prog 70 #[.slice (some ⟨b, o + 64 * nx, none⟩) (all.length - 64 * nx) (c - 64 * nx)] wd (Rets (FReadPost wd (readF (all.drop (64 * nx))))) by
            have h1 := Rd.part HRd.out (64 * nx) (all.length - 64 * nx) (by omega) (c - 64 * nx) (by omega)
            have h2 : Rd wd (fun k => w.heap.size ≤ k ∧ k < w2.heap.size) (.slice (some ⟨b, o + 64 * nx, none⟩) (all.length - 64 * nx) (c - 64 * nx)) (all.drop (64 * nx)).length (Disk.bytes8 (all.drop (64 * nx))) := by
              rw [hll]
              rw [List.take_of_length_le (by rw [List.length_drop, Disk.bytes8_len]; exact Nat.le_refl _)] at h1
              simpa [Disk.bytes8, List.map_drop] using h1
            exact fread_c _ _ h2 (HB.out.drop _) (by rw [hll]; have := HAL.out; omega))
          have HOk := Lib.hid (fun h => readF_ok (l := all.drop (64 * nx)) h (HB.out.drop _))
          rw [hll] at HOk
          clear HYes HSc hll hb
          generalize readF (all.drop (64 * nx)) = rr at *
          obtain ⟨sq, bs, n, e⟩ := rr
          simp only at HUp HOk
          by_cases he : e = 0
          · subst he
            obtain ⟨k, hk, hk2, hk3, hk4⟩ := HOk.out rfl
            obtain ⟨kn, hkn⟩ : ∃ kn, kn = k + 20 := ⟨_, rfl⟩
            rw [← hkn] at hk
            subst hk
            have hsp1 : nx + spanF kn ≤ N := by unfold spanF; have := HAL.out; omega
            have hsp2 : 1 ≤ spanF kn := by unfold spanF; omega
            have hkn4 : kn ≤ 1000000 := by omega
            have hbs : bs.length ≤ 16384 := by omega
            clear HOk hkn hk2 hk3 hk4 k
            by_cases hsq : sq = (ls.length : Int) + 1
            · subst hsq
              have HUq := Lib.hid (show scan all N (N + 1) [] 0 = scan all N (f - 1) (ls ++ [bs]) (nx + spanF kn) by rw [HUp.out, if_pos ⟨rfl, rfl⟩]; rfl)
              have HSpan := Lib.hid (fun w => span_c (w := w) kn hkn4)
              generalize spanF kn = sp at *
              have hnx2 : nx ≤ 4096 := by omega
              have hx0 : w2.heap.size = x := HX.out.symm
              have HX0 := Lib.hid hx0
              clear hx0
              go_wp2_with (first
                | ((with_reducible refine at_store 103 (.tmp 85) (.tmp 83) rfl ?_); go_must (refine step_store1 rfl _ _ _ rfl x 1 (.slice A7 (ls.length + 1) c7) _ _ rfl rfl rfl hb7 (by simp) info_bytess ?_); intro w8 hb8 hk8 hs8)
                | ((with_reducible refine at_ 83 rfl ?_); go_must (refine step_append_rd (ok2 := fun j => w5.heap.size ≤ j) rfl _ _ _ rfl 23 _ 1 24 Try.underlying103 row_bytes rfl (by decide) (.slice Av ls.length cv) ls.length vs rfl ((HO.out.kept hk5 (fun _ _ h => h)).kept hk6 (fun _ _ h => h)) _ 1 [u5] rfl (lit_rd (Rd.one hr5) hb6 (Nat.le_refl _)) rfl (by intro y hy; rw [List.mem_singleton] at hy; subst hy; exact Rd.one hr5) (by simp only [maxLen]; omega) (by omega) ?_); intro v7 w7 hO7 hk7; obtain ⟨A7, c7, rfl, _⟩ := hO7.slice; have hb7 := hk7.heap (hk6.heap (hk5.heap HBx.out (fun h => h)) (fun h => h)) (fun h => nR (HO.out.2 x h)))
                | ((with_reducible refine at_ 82 rfl ?_); go_must (refine step_lit rfl 103 _ 1 rfl [u5] rfl rfl (by decide) 23 _ 1 Try.underlying103 row2_bytes (by decide) (by decide) (by intro v hv; rw [List.mem_singleton] at hv; subst hv; exact one_size (Rd.one hr5)) ?_); intro w6 hb6 hk6 hs6)
                | (go_at_call 70; go_loud (refine Rets.use HFr.out ?_); rintro v5 w5 ⟨hk5, u5, rfl, hr5⟩; have cx1 := hk5.cell cx1 (fun h => h)))
              refine Canon.region [5] [(⟨x, 2, none⟩, .int .i64 nx)] [(3, 0)] (.hold [0, 1, 2, 4, 3] (.loud 5 (.seg [6, 7, 8, 9] .stop))) (by kernel_rfl) (by kernel_rfl) (by repeat (first | (with_reducible exact Safe.body) | (with_reducible apply Safe.then) | (with_reducible apply Safe.inBlock) | (dsimp +zetaDelta only))) ?_
              simp only [Canon.pick, Canon.wpPlan, List.getElem?_toArray, List.getElem?_cons_zero, List.getElem?_cons_succ]
              have KD8 : Keeps (fun _ => False) w8 w8.drew := (Keeps.refl _ w8).drew
              have hb9 := KD8.heap hb8 (fun h => h)
              have c2 : w8.drew.cell? ⟨x, 2, none⟩ = some (.int .i64 nx) := (cell_of_row w8.drew x 2 _ _ _ hb9).trans rfl
              have s8 := KD8.size
              generalize w8.drew = wz at *
              obtain ⟨nj, hnj⟩ : ∃ nj, nj = nx + sp := ⟨_, rfl⟩
              have esum : (nx : Int) + sp = (nj : Int) := by omega
              have hnjN : nj ≤ N := by omega
              have hnjl : ls.length + 1 ≤ nj := by omega
              have hnjx : nx < nj := by omega
              rw [← hnj] at HUq
              clear hnj
              refine ⟨fun p hp => by rw [List.mem_singleton] at hp; subst hp; exact c2, ?_⟩
              go_wp2_with (go_at_call 71; go_loud (refine Rets.use (HSpan.out _) ?_); rintro _ _ ⟨rfl, rfl⟩)
              refine ⟨fun p hp => by rw [List.mem_singleton] at hp; subst hp; exact c2, ?_⟩
              go_wp2_with ((with_reducible refine at_store 3 (.tmp 94) (.tmp 92) rfl ?_); go_must (refine step_store1 rfl _ _ _ rfl x 2 (.int .i64 (nj : Int)) _ _ rfl rfl rfl hb9 (by simp) info_int ?_); intro w10 hb10 hk10 hs10)
              refine ⟨by rfl, ⟨fun _ => rfl, trivial⟩, ?_⟩
              have z5 := hk5.size
              have z6 := hk6.size
              have z7 := hk7.size
              have z8 := hk8.size
              have z10 := hk10.size
              have hRx : ∀ k, R k → x ≤ k ∧ k < wd.heap.size := fun k hk => ⟨(hRQ k hk).1, by have := (hRQ k hk).2; omega⟩
              have hTx2 : ∀ k, T k → x ≤ k ∧ k < wd.heap.size := fun k hk => ⟨(hTQ k hk).1, by have := (hTQ k hk).2; omega⟩
              have hxx : x < wd.heap.size := by have := hQx.2; omega
              have kA : Keeps (fun k => k = x) w7 w10 := (hk8.trans KD8 (fun _ _ h => h.elim)).trans hk10 (fun _ _ h => h)
              have kB : Keeps (fun k => k = x ∨ R k) w5 w10 := ((hk6.mono (fun _ _ h => h.elim)).trans hk7 (fun k _ h => .inr (HO.out.2 k h))).trans kA (fun k _ h => .inl h)
              go_wp2
              simp only [show ∀ (a : Act) (v : Value), a.put none v = a from fun _ _ => rfl]
              go_roundw
              case rel =>
                refine ⟨ls ++ [bs], nj, f - 1, hnjN, by omega, by rw [List.length_append, List.length_singleton]; omega, HUq, ⟨fun k => R k ∨ (w6.heap.size ≤ k ∧ k < w7.heap.size), fun k => T k ∨ (wd.heap.size ≤ k ∧ k < w5.heap.size), _, vs ++ [u5], hb10, ⟨hQx.1, by omega⟩, ?_, ?_, ?_, ?_, ?_, ?_, ?_⟩, ?_⟩
                · rintro k (h | h)
                  · have := hRx k h; omega
                  · omega
                · rintro k (h | h)
                  · have := hTx2 k h; omega
                  · omega
                · rintro (h | h)
                  · exact nR h
                  · omega
                · rintro (h | h)
                  · exact nT h
                  · omega
                · rintro k (h | h) (h' | h')
                  · exact hRT k h h'
                  · have := hRx k h; omega
                  · have := hTx2 k h'; omega
                  · omega
                · simp only [List.length_append, List.length_singleton]
                  refine (hO7.mono (ok' := fun k => R k ∨ (w6.heap.size ≤ k ∧ k < w7.heap.size)) (fun k hk h => ?_)).kept kA (fun k hk e => ?_)
                  · rcases h with h | h
                    · exact .inl h
                    · exact .inr ⟨h, hk⟩
                  · subst e
                    rcases hk with h | h
                    · exact nR h
                    · omega
                · have hU : ∀ k, (T k ∨ (wd.heap.size ≤ k ∧ k < w5.heap.size)) → ¬ (k = x ∨ R k) := by
                    rintro k (h | h) (h' | h')
                    · subst h'; exact nT h
                    · exact hRT k h' h
                    · omega
                    · have := hRx k h'; omega
                  exact (((HTx.out.kept hk5 (fun _ _ h => h)).mono (T' := fun k => T k ∨ (wd.heap.size ≤ k ∧ k < w5.heap.size)) (fun k h => .inl h)).kept kB hU).push ((hr5.lt.mono (ok' := fun k => T k ∨ (wd.heap.size ≤ k ∧ k < w5.heap.size)) (fun k h => .inr h)).kept kB hU)
                · exact ((HK.out.trans hk5 (fun _ _ h => h)).trans kB (fun k hk h => by have := HX0.out; rcases h with h | h; omega; have := hRx k h; omega))
              case measure =>
                have hc : w10.cell? ⟨x, 2, none⟩ = some (.int .i64 (nj : Int)) := (cell_of_row w10 x 2 _ _ _ hb10).trans rfl
                rw [hc, HCw.out]
                simp [intOf]
                omega
            · have hqn : (sq != (ls.length : Int) + 1) = true := by simpa using hsq
              have HSn := Lib.hid (show scan all N (N + 1) [] 0 = none by rw [HUp.out, if_neg (fun h => hsq h.2)])
              have HQ1 := Lib.hid (show q = (13, none, s) by have := HQ0.out; rw [HSn.out] at this; exact this)
              clear hsq
              go_wp2_with (go_at_call 70; go_loud (refine Rets.use HFr.out ?_); rintro v5 w5 ⟨hk5, u5, rfl, hr5⟩; have cx1 := hk5.cell cx1 (fun h => h))
              go_ret2
              rw [HQ1.out]
              exact ⟨(((HK2.out.trans HK.out (fun _ _ h => h)).trans hk5 (fun _ _ h => h)).mono (fun _ _ h => h.elim)), fun _ => False, fun _ h => h.elim, (HH.out.kept ((HK2.out.trans HK.out (fun _ _ h => h)).trans hk5 (fun _ _ h => h)) (fun _ _ h => h)).wide (fun k h => ⟨.inl h, fun h => h⟩), .inl ⟨rfl, rfl⟩⟩
          · have hen : (e != 0) = true := by simpa using he
            have HSn := Lib.hid (show scan all N (N + 1) [] 0 = none by rw [HUp.out, if_neg (fun h => he h.1)])
            have HQ1 := Lib.hid (show q = (13, none, s) by have := HQ0.out; rw [HSn.out] at this; exact this)
            clear he HOk
            go_wp2_with (go_at_call 70; go_loud (refine Rets.use HFr.out ?_); rintro v5 w5 ⟨hk5, u5, rfl, hr5⟩)
            go_ret2
            rw [HQ1.out]
            exact ⟨(((HK2.out.trans HK.out (fun _ _ h => h)).trans hk5 (fun _ _ h => h)).mono (fun _ _ h => h.elim)), fun _ => False, fun _ h => h.elim, (HH.out.kept ((HK2.out.trans HK.out (fun _ _ h => h)).trans hk5 (fun _ _ h => h)) (fun _ _ h => h)).wide (fun k h => ⟨.inl h, fun h => h⟩), .inl ⟨rfl, rfl⟩⟩
      · have hd : ¬ (nx : Int) < N := by omega
        have HNo := Lib.hid (show ¬ (nx < N ∧ blankF (secF all nx) = false) from fun h => hlt h.1)
        go_wp2
        refine Canon.region [5] [(⟨x, 2, none⟩, .int .i64 nx)] [(3, 0)] (.hold [0, 1, 2, 4, 3] (.loud 5 (.seg [6, 7, 8, 9, 10, 11, 14, 15, 16, 12, 13, 17, 18, 19, 20, 21, 22, 23] .stop))) (by kernel_rfl) (by kernel_rfl) (by repeat (first | (with_reducible exact Safe.body) | (with_reducible apply Safe.then) | (with_reducible apply Safe.inBlock) | (dsimp +zetaDelta only))) ?_
        simp only [Canon.pick, Canon.wpPlan, List.getElem?_toArray, List.getElem?_cons_zero, List.getElem?_cons_succ]
        have KD : Keeps (fun _ => False) wr wr.drew := (Keeps.refl _ wr).drew
        have hsd : wr.drew.heap.size = wr.heap.size := rfl
        have HBx := Lib.hid (KD.heap HBx.out (fun h => h))
        have HO := Lib.hid (HO.out.kept KD (fun _ _ h => h))
        have HTx := Lib.hid (HTx.out.kept KD (fun _ _ h => h))
        have HK := Lib.hid (HK.out.trans KD (fun _ _ h => h))
        clear KD
        generalize wr.drew = wd at *
        have cx0 : wd.cell? ⟨x, 0, none⟩ = some (.pointer (some ⟨g, 0, none⟩)) := (cell_of_row wd x 0 _ _ _ HBx.out).trans rfl
        have cx1 : wd.cell? ⟨x, 1, none⟩ = some (.slice Av ls.length cv) := (cell_of_row wd x 1 _ _ _ HBx.out).trans rfl
        have cx2 : wd.cell? ⟨x, 2, none⟩ = some (.int .i64 nx) := (cell_of_row wd x 2 _ _ _ HBx.out).trans rfl
        have HSr := Lib.hid (show Calls Try.prog 67 #[.pointer (some ⟨g, 0, none⟩)] wd (Rets (Only (.int .i64 N) wd)) by rw [← HN.out]; exact dSectors_c (HH.out.kept (HK2.out.trans HK.out (fun _ _ h => h)) (fun _ _ h => h)))
        have HRd := Lib.hid (HRa.out.kept HK.out (fun _ _ h => h))
        refine ⟨fun p hp => by rw [List.mem_singleton] at hp; subst hp; exact cx2, ?_⟩
        go_wp2_with (go_at_call 67; refine Rets.use HSr.out ?_; rintro _ _ ⟨rfl, rfl⟩)
        refine ⟨fun p hp => by rw [List.mem_singleton] at hp; subst hp; exact cx2, ?_⟩
        go_wp2
        refine ⟨by rfl, ⟨fun _ => rfl, trivial⟩, ?_⟩
        clear cx0 cx1
        have HScn := Lib.hid (show scan all N (N + 1) [] 0 = some (ls, nx) by
          rw [HSc.out]
          obtain ⟨f', rfl⟩ : ∃ f', f = f' + 1 := ⟨f - 1, by omega⟩
          rw [scan, if_neg HNo.out])
        have HQ1 := Lib.hid (show q = if (wipeP s all nx).1 = 0 then (0, some ⟨ls, nx, false⟩, (wipeP s all nx).2) else ((wipeP s all nx).1, none, (wipeP s all nx).2) by have := HQ0.out; rw [HScn.out] at this; exact this)
        have HM9 := Lib.hid (show LogMem wd x (fun k => x ≤ k ∧ k < wd.heap.size) g ⟨ls, nx, false⟩ from ⟨R, T, _, vs, HBx.out, ⟨hQx.1, by omega⟩, fun k hk => ⟨(hRQ k hk).1, by have := (hRQ k hk).2; omega⟩, fun k hk => ⟨(hTQ k hk).1, by have := (hTQ k hk).2; omega⟩, nR, nT, hRT, HO.out, HTx.out⟩)
        have hKw := HK2.out.trans HK.out (fun _ _ h => h)
        have HKw := Lib.hid hKw
        have HWp := Lib.hid (wipe_c (HPb.out.kept hKw (fun _ _ h => h)) few _ all HRd.out (fun k h h' => by have := h.1; have := h'.2; omega) (by rw [HN.out]; exact HAL.out) nx (by rw [HN.out]; omega))
        have hxw : w.heap.size ≤ x := by have := HX.out; omega
        have szw := hKw.size
        clear HSc HScn HNo HQ0 HTx HO HBx hKw HRd HSr hQx hRQ hTQ nR nT hRT
        have HEnd := Lib.hid (fun (w5 : World) (s5 : St) (L : Option LogS) (hd : DIs w5 (fun k => (P k ∧ k < w.heap.size) ∨ wd.heap.size ≤ k) g s5) (hk5 : Keeps (fun k => P k ∧ k < w.heap.size) wd w5) => (show Keeps P w w5 ∧ (∀ k, (x ≤ k ∧ k < wd.heap.size) → w.heap.size ≤ k ∧ k < w5.heap.size) ∧ DIs w5 (fun k => (P k ∨ w.heap.size ≤ k) ∧ ¬ (x ≤ k ∧ k < wd.heap.size)) g s5 ∧ LogMem w5 x (fun k => x ≤ k ∧ k < wd.heap.size) g ⟨ls, nx, false⟩ from
          ⟨(HKw.out.mono (fun _ _ h => h.elim)).trans hk5 (fun k _ h => h.1), fun k h => ⟨by omega, by have := hk5.size; omega⟩, hd.wide (fun k h => by rcases h with h | h; exact ⟨.inl h.1, fun h' => by have := h.2; omega⟩; exact ⟨.inr (by omega), fun h' => by omega⟩), HM9.out.kept hk5 (fun k h h' => by have := h'.2; omega)⟩))
        generalize wipeP s all nx = r at *
        obtain ⟨e, s5⟩ := r
        simp only at HQ1 HWp
        by_cases he : e = 0
        · subst he
          have HQ1 := Lib.hid (show q = (0, some ⟨ls, nx, false⟩, s5) from HQ1.out)
          go_wp2_with (go_at_call 72; go_loud (refine Rets.use HWp.out ?_); rintro v5 w5 ⟨rfl, hd5, hk5⟩)
          go_ret2
          rw [HQ1.out]
          obtain ⟨h1, h2, h3, h4⟩ := HEnd.out w5 s5 none hd5 hk5
          exact ⟨h1, _, h2, h3, .inr ⟨_, x, rfl, rfl, h4⟩⟩
        · have HQ1 := Lib.hid (show q = (e, none, s5) by have := HQ1.out; rwa [if_neg he] at this)
          have hen : (e != 0) = true := by simpa using he
          clear he
          go_wp2_with (go_at_call 72; go_loud (refine Rets.use HWp.out ?_); rintro v5 w5 ⟨rfl, hd5, hk5⟩)
          go_ret2
          rw [HQ1.out]
          obtain ⟨h1, h2, h3, h4⟩ := HEnd.out w5 s5 none hd5 hk5
          exact ⟨h1, _, h2, h3, .inl ⟨rfl, rfl⟩⟩
end Go.Proofs.Ytbiohidelhfaiaa
